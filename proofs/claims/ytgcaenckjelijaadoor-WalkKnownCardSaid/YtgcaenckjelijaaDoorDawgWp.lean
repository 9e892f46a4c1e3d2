/-
  Layer 15's law DawgWays: plain: what Next says of each state. No conditions beyond those that each lemma names.
-/
import Derived.Test.YtgcaenckjelijaaDoorDawgInv
import Derived.Test.YtgcaenckjelijaaDoorDawgAb
namespace Go.Proofs.YtgcaenckjelijaaDoor
open Go Go.RowKit Go.Maps

theorem few_small {W : List Wd} (h1 : W.length ≤ 40) (h2 : ∀ x ∈ W, x.length ≤ 10) : tooBig (canon W) = false := by
  unfold tooBig
  rw [Bool.or_eq_false_iff]
  refine ⟨decide_eq_false ?_, List.any_eq_false.2 fun x hx => ?_⟩
  · have := Lib.compact_length_le (sortW W)
    rw [sortW_len] at this
    unfold canon
    omega
  · have := h2 x (mem_canon.1 hx)
    unfold isLong
    simp; omega

theorem nextS_out {sts : List DSt} {i : Int} {b : UInt8} (h : i < 0 ∨ (sts.length : Int) ≤ i) : nextS sts i b = none := by
  unfold nextS; rw [stAt_out h]; rfl

theorem nextS_edge {sts : List DSt} {i : Nat} {s : DSt} (hs : sts[i]? = some s) (hp : s.2.Pairwise (fun a b => a.1 < b.1)) {e : DEdge} (he : e ∈ s.2) : nextS sts i e.1 = some e.2 := by
  unfold nextS; rw [stAt_in hs, find_rising hp e he]; rfl

theorem nextS_found {sts : List DSt} {i : Nat} {s : DSt} (hs : sts[i]? = some s) (b : UInt8) : (nextS sts i b).isSome = decide (b ∈ s.2.map (·.1)) := by
  unfold nextS; rw [stAt_in hs, Option.isSome_map, Bool.eq_iff_iff, List.find?_isSome]
  simp

theorem mem_take_map {es : List DEdge} {i : Nat} {e : DEdge} {b : UInt8} (h : es[i]? = some e) : decide (b ∈ (es.take (i + 1)).map (·.1)) = (decide (b ∈ (es.take i).map (·.1)) || (e.1 == b)) := by
  rw [List.take_add_one, h, Bool.eq_iff_iff, decide_eq_true_iff, Bool.or_eq_true, decide_eq_true_iff, beq_iff_eq, List.map_append, List.mem_append]
  constructor
  · rintro (e | e)
    · exact .inl e
    · simp at e; exact .inr e.symm
  · rintro (e | e)
    · exact .inl e
    · exact .inr (by simp [e])

theorem rising_get {es : List DEdge} (hp : es.Pairwise (fun a b => a.1 < b.1)) {i : Nat} {a b : DEdge} (ha : es[i]? = some a) (hb : es[i + 1]? = some b) : a.1 < b.1 := by
  obtain ⟨h1, rfl⟩ := List.getElem?_eq_some_iff.1 ha
  obtain ⟨h2, rfl⟩ := List.getElem?_eq_some_iff.1 hb
  exact List.pairwise_iff_getElem.1 hp i (i + 1) h1 h2 (by omega)

theorem beq_byte (a b : UInt8) : ((a.toNat : Int) == (b.toNat : Int)) = (a == b) := by
  rw [Bool.eq_iff_iff, beq_iff_eq, beq_iff_eq]
  constructor
  · intro h; exact UInt8.toNat_inj.1 (by omega)
  · rintro rfl; rfl
end Go.Proofs.YtgcaenckjelijaaDoor
