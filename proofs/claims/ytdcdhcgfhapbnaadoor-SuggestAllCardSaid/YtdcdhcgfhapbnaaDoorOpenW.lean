/-
  A slice of words that came in: its words lie in one row. No conditions beyond those that each lemma names.
-/
import Derived.Test.YtdcdhcgfhapbnaaDoorSl
import Derived.Deep.Slices
import Derived.Deep.Fields
import Derived.ProofKit
import Derived.OpenShut
import Derived.Test.YtdcdhcgfhapbnaaDoorDawgS
namespace Go.Proofs.YtdcdhcgfhapbnaaDoor
open Go Go.RowKit Go.ChangeShapes Go.WideShapes Go.Deep

/-- n pieces of one length, laid end to end. -/
theorem collect {α : Type} (size : Nat) (Q : Nat → List α → Prop) (n : Nat) (h : ∀ i, i < n → ∃ l : List α, l.length = size ∧ Q i l) :
    ∃ cs : List α, cs.length = n * size ∧ ∀ i, i < n → ∃ l, l.length = size ∧ Q i l ∧ ∀ j, j < size → cs[i * size + j]? = l[j]? := by
  induction n with
  | zero => exact ⟨[], by simp, fun i hi => by omega⟩
  | succ n ih =>
    obtain ⟨cs, hl, hc⟩ := ih (fun i hi => h i (by omega))
    obtain ⟨l, hll, hq⟩ := h n (by omega)
    refine ⟨cs ++ l, by rw [List.length_append, hl, hll, Nat.succ_mul], fun i hi => ?_⟩
    rcases Nat.lt_or_ge i n with h1 | h1
    · obtain ⟨l', hl', hq', hj⟩ := hc i h1
      refine ⟨l', hl', hq', fun j hjs => ?_⟩
      have : (i + 1) * size ≤ n * size := Nat.mul_le_mul_right _ h1
      rw [Nat.succ_mul] at this
      rw [List.getElem?_append_left (by omega)]
      exact hj j hjs
    · obtain rfl : i = n := by omega
      refine ⟨l, hll, hq, fun j hjs => ?_⟩
      rw [List.getElem?_append_right (by omega), hl]
      congr 1
      omega

theorem addr_plain {w : World} {a : Addr} {v : Value} (h : w.cell? a = some v) : a = ⟨a.block, a.off, none⟩ := by
  obtain ⟨b, o, sp⟩ := a
  cases sp with
  | none => rfl
  | some x =>
    exfalso
    simp only [World.cell?] at h
    split at h <;> simp at h

theorem mul_div_lt {j n s : Nat} (h : j < n * s) : j / s < n ∧ j / s * s + j % s = j ∧ (0 < s → j % s < s) := by
  have hs : 0 < s := by
    rcases Nat.eq_zero_or_pos s with rfl | h'
    · simp at h
    · exact h'
  refine ⟨Nat.div_lt_of_lt_mul (by rwa [Nat.mul_comm]), by rw [Nat.mul_comm]; exact Nat.div_add_mod j s, fun _ => Nat.mod_lt _ hs⟩

section
variable {H : Type} {enc : TypeId × Value → H} {P : Program} {W : World} {held : Bool}

/-- A slice that came in: its elements lie in one row, each reads by itself. -/
theorem open_rows {t e : TypeId} {size : Nat} (ht : P.underlying t = some (.slice e)) (hC : P.cellsOf e = size) (hs : 0 < size) (Q : List Value → Prop)
    (hQ : ∀ m cs y, cs.length = size → DataW.trod enc P W 0 (fun _ => true) held m e cs = some y → Q cs)
    {A : Option Addr} {n c m : Nat} {y : DataW H × List MemPlace} (h : DataW.trod enc P W 0 (fun _ => true) held m t [.slice A n c] = some y) :
    n ≤ c ∧ c ≤ maxLen ∧ ∃ cs : List Value, cs.length = n * size ∧ (0 < n → ∃ b o, A = some ⟨b, o, none⟩ ∧ b < W.heap.size ∧ ∀ j u, cs[j]? = some u → W.cell? ⟨b, o + j, none⟩ = some u) ∧
      ∀ i, i < n → ∃ l, l.length = size ∧ Q l ∧ ∀ j, j < size → cs[i * size + j]? = l[j]? := by
  rcases open_slice ht h with ⟨h0, _⟩ | ⟨a, len, cap, m', n', D, Pl, hcs, _, hl, hm, hmm, _, hx⟩
  · simp only [List.cons.injEq, Value.slice.injEq, and_true] at h0
    obtain ⟨rfl, rfl, rfl⟩ := h0
    exact ⟨Nat.le_refl _, Nat.zero_le _, [], by simp, fun h => absurd h (by omega), fun i hi => absurd hi (by omega)⟩
  · simp only [List.cons.injEq, Value.slice.injEq, and_true] at hcs
    obtain ⟨rfl, rfl, rfl⟩ := hcs
    refine ⟨hl, hm, ?_⟩
    have hle : n ≤ m' := by rw [hmm]; simpa using hl
    obtain ⟨cs, hlen, hc⟩ := collect size (fun i l => W.cells? 0 (a.add (i * size)) size = some l ∧ Q l) n (fun i hi => by
      obtain ⟨cs', h1, h2⟩ := hx i (by omega)
      rw [hC] at h1
      have hl' := (World.cells?_some h1).2.1
      exact ⟨cs', hl', h1, hQ _ _ _ hl' h2⟩)
    refine ⟨cs, hlen, fun hn => ?_, fun i hi => ?_⟩
    · have cell : ∀ j u, cs[j]? = some u → W.cell? (a.add j) = some u := by
        intro j u hu
        have hj : j < n * size := by rw [← hlen]; exact (List.getElem?_eq_some_iff.1 hu).1
        obtain ⟨h1, h2, h3⟩ := mul_div_lt hj
        obtain ⟨l, hll, ⟨hcell, _⟩, hjl⟩ := hc (j / size) h1
        have h4 := hjl (j % size) (h3 hs)
        rw [h2] at h4
        have h5 := (World.cells?_some hcell).2.2 (j % size) (h3 hs)
        rw [add_add, h2] at h5
        rw [h5, ← h4]; exact hu
      have h0 : 0 < cs.length := by rw [hlen]; exact Nat.mul_pos hn hs
      have hp := addr_plain (cell 0 cs[0] (List.getElem?_eq_getElem h0))
      have e0 : a.add 0 = a := by simp [Addr.add]
      rw [e0] at hp
      refine ⟨a.block, a.off, by rw [← hp], ?_, fun j u hu => ?_⟩
      · have := World.block_lt_of_cell? W a (by rw [← e0]; exact cell 0 cs[0] (List.getElem?_eq_getElem h0)); exact this
      · have := cell j u hu
        rw [hp, Addr.add_lit] at this
        exact this
    · obtain ⟨l, hll, ⟨_, hq⟩, hj⟩ := hc i hi
      exact ⟨l, hll, hq, hj⟩

/-- The same, where each element's cells are of one cell each. -/
theorem sl_of_rows {size n : Nat} {A : Option Addr} {cs : List Value} (hlen : cs.length = n * size) (hc : 0 < n → ∃ b o, A = some ⟨b, o, none⟩ ∧ b < W.heap.size ∧ ∀ j u, cs[j]? = some u → W.cell? ⟨b, o + j, none⟩ = some u)
    {Q : List Value → Prop} (hq : ∀ l, Q l → ∀ x ∈ l, x.oneCell' = true) (h : ∀ i, i < n → ∃ l, l.length = size ∧ Q l ∧ ∀ j, j < size → cs[i * size + j]? = l[j]?) : Sl W size A n cs := by
  refine ⟨hlen, fun x hx => ?_, fun hn => ?_⟩
  · obtain ⟨j, hj, rfl⟩ := List.mem_iff_getElem.1 hx
    rw [hlen] at hj
    obtain ⟨h1, h2, h3⟩ := mul_div_lt hj
    have hs : 0 < size := by
      rcases Nat.eq_zero_or_pos size with rfl | h'
      · simp at hj
      · exact h'
    obtain ⟨l, hll, hql, hjl⟩ := h (j / size) h1
    have h4 := hjl (j % size) (h3 hs)
    rw [h2, List.getElem?_eq_getElem (by omega), List.getElem?_eq_getElem (by have := h3 hs; omega)] at h4
    have h5 := hq l hql (l[j % size]'(by have := h3 hs; omega)) (List.getElem_mem _)
    rw [← Option.some.inj h4] at h5
    exact h5
  · obtain ⟨b, o, rfl, _, hcell⟩ := hc hn
    exact ⟨b, o, rfl, hcell⟩
end
end Go.Proofs.YtdcdhcgfhapbnaaDoor

namespace Go.Proofs.YtdcdhcgfhapbnaaDoor
open Go Go.RowKit Go.ChangeShapes Go.WideShapes Go.Deep

section
variable {H : Type} {enc : TypeId × Value → H} {W : World} {held : Bool}

theorem cells_string : Tryd.prog.cellsOf 9 = 1 := by kernel_rfl

theorem words_open {A : Option Addr} {n c m : Nat} {y : DataW H × List MemPlace} (h : DataW.trod enc Tryd.prog W 0 (fun _ => true) held m 22 [.slice A n c] = some y) :
    ∃ ss : List Wd, ss.length = n ∧ n ≤ c ∧ Sl W 1 A n (strCells ss) := by
  obtain ⟨hle, hm, g, hlen, hc, hx⟩ := open_rows Tryd.underlying22 cells_string (by omega) (fun l => ∃ s : ByteArray, l = [.string s]) (fun m cs y hl h => by obtain ⟨x, rfl, _⟩ := DataW.trod_string Tryd.underlying9 h; exact ⟨x, rfl⟩) h
  have hs := sl_of_rows hlen hc (Q := fun l => ∃ s : ByteArray, l = [.string s]) (by rintro l ⟨s, rfl⟩ x hx; simp at hx; subst hx; rfl) hx
  have key : ∀ i, i < n → ∃ s : Wd, g[i]? = some (.string ⟨s.toArray⟩) := by
    intro i hi
    obtain ⟨l, _, ⟨s, rfl⟩, hj⟩ := hx i hi
    have := hj 0 (by omega)
    rw [Nat.mul_one, Nat.add_zero] at this
    exact ⟨s.data.toList, by rw [this]; simp⟩
  let f : Value → Wd := fun v => match v with | .string s => s.data.toList | _ => []
  have e : strCells (g.map f) = g := by
    apply List.ext_getElem?
    intro i
    rw [strCells, List.map_map, List.getElem?_map]
    rcases Nat.lt_or_ge i n with hi | hi
    · obtain ⟨s, h2⟩ := key i hi
      rw [h2]; simp [f]
    · rw [List.getElem?_eq_none (by omega)]; rfl
  exact ⟨g.map f, by rw [List.length_map, hlen, Nat.mul_one], hle, by rw [e]; exact hs⟩
end
end Go.Proofs.YtdcdhcgfhapbnaaDoor
