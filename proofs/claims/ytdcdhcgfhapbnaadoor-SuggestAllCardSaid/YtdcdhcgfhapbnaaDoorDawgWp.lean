/-
  Layer 15's law DawgWays: plain: what Next says of each state. No conditions beyond those that each lemma names.
-/
import Derived.Test.YtdcdhcgfhapbnaaDoorDawgY
import Derived.Test.YtdcdhcgfhapbnaaDoorDawgL
namespace Go.Proofs.YtdcdhcgfhapbnaaDoor

/-- What holds of a state by its number. -/
def StG (sts' : List DSt) (i : Nat) (s : DSt) : Prop := s.2.Pairwise (fun a b => a.1 < b.1) ∧ ∀ e ∈ s.2, e.2 < i ∧ ∃ t, runS sts' e.2 t = true

def AllG (sts' sts : List DSt) : Prop := sts.Nodup ∧ ∀ i s, sts[i]? = some s → StG sts' i s

theorem knowS_inv {sts' sts : List DSt} {s : DSt} (h : AllG sts' sts) (hs : StG sts' sts.length s) : AllG sts' (knowS sts s).2 := by
  unfold knowS
  split
  · exact h
  · rename_i hno
    have hno' : s ∉ sts := by
      rw [List.findIdx?_eq_none_iff] at hno
      intro hm
      simpa using hno s hm
    refine ⟨?_, fun i t ht => ?_⟩
    · rw [List.nodup_append]
      refine ⟨h.1, by simp, ?_⟩
      intro a ha b hb e
      simp at hb
      subst hb
      exact hno' (e ▸ ha)
    · rcases Nat.lt_or_ge i sts.length with hi | hi
      · rw [List.getElem?_append_left hi] at ht
        exact h.2 i t ht
      · have hi' : i = sts.length := by
          have := (List.getElem?_eq_some_iff.1 ht).1
          simp at this; omega
        subst hi'
        simp at ht
        subst ht
        exact hs

def BInv (f : Nat) : Prop := ∀ (W : List Wd) (sts sts' : List DSt), (∀ w ∈ W, w.length < f) → Rise W → 0 < f → (buildS f W sts).2 <+: sts' → AllG sts' sts → AllG sts' (buildS f W sts).2

theorem edgesS_inv {f : Nat} (ok : BOk f) (ih : BInv f) : ∀ (n : Nat) (W : List Wd) (sts sts' : List DSt), W.length ≤ n → (∀ w ∈ W, w.length < f + 1 ∧ w ≠ []) → Rise W → (edgesS (buildS f) n W sts).2 <+: sts' → AllG sts' sts → AllG sts' (edgesS (buildS f) n W sts).2 := by
  intro n
  induction n with
  | zero => intro W sts sts' _ _ _ _ h; exact h
  | succ n ihn =>
    intro W sts sts' hn hw hr hp h
    match W with
    | [] => exact h
    | w :: W =>
      generalize hk : (W.takeWhile (headIs (w.headD 0))).length = k
      obtain ⟨g1, g2, g3, _⟩ := group_ok hw hr hk
      have hq : edgesS (buildS f) (n + 1) (w :: W) sts = ((w.headD 0, (buildS f ((w :: W.take k).map List.tail) sts).1) :: (edgesS (buildS f) n (W.drop k) (buildS f ((w :: W.take k).map List.tail) sts).2).1, (edgesS (buildS f) n (W.drop k) (buildS f ((w :: W.take k).map List.tail) sts).2).2) := by
        simp only [edgesS, hk]
      rw [hq] at hp ⊢
      have hw2 : ∀ x ∈ W.drop k, x.length < f + 1 ∧ x ≠ [] := fun x hx => hw x (by simp [List.mem_of_mem_drop hx])
      have hr2 : Rise (W.drop k) := hr.sub ((List.drop_sublist _ _).trans (List.sublist_cons_self _ _))
      have hn2 : (W.drop k).length ≤ n := by simp at hn ⊢; omega
      have e1 := (edgesS_ok ok n (W.drop k) (buildS f ((w :: W.take k).map List.tail) sts).2 hn2 hw2 hr2).1
      exact ihn (W.drop k) _ sts' hn2 hw2 hr2 hp (ih _ sts sts' g1 g2 g3 (e1.trans hp) h)

theorem buildS_inv : ∀ f, BInv f
  | 0 => fun _ _ _ _ _ h => absurd h (by omega)
  | f + 1 => by
    intro W sts sts' hw hr _ hp h
    obtain ⟨g1, g2, _⟩ := goOn_ok hw hr
    rw [buildS_succ] at hp ⊢
    obtain ⟨k1, k2, k3⟩ := knowS_ok (edgesS (buildS f) (goOn W).length (goOn W) sts).2 (W.head? == some [], (edgesS (buildS f) (goOn W).length (goOn W) sts).1)
    obtain ⟨o1, o2, o3, o4⟩ := edgesS_ok (buildS_ok f) (goOn W).length (goOn W) sts (Nat.le_refl _) g1 g2
    have h1 := edgesS_run (buildS_ok f) (buildS_run f) (goOn W).length (goOn W) sts sts' (Nat.le_refl _) g1 g2 (k1.trans hp)
    refine knowS_inv (edgesS_inv (buildS_ok f) (buildS_inv f) (goOn W).length (goOn W) sts sts' (Nat.le_refl _) g1 g2 (k1.trans hp) h) ⟨o3, fun e he => ⟨o2 e he, ?_⟩⟩
    obtain ⟨x, hx, hh⟩ := o4 e he
    match x, (g1 x hx).2 with
    | c :: s, _ =>
      simp only [List.headD_cons] at hh
      refine ⟨s, ?_⟩
      rw [(h1 e.1).1 e (find_rising o3 e he) s, ← hh]
      exact decide_eq_true hx
end Go.Proofs.YtdcdhcgfhapbnaaDoor

namespace Go.Proofs.YtdcdhcgfhapbnaaDoor
open Go Go.RowKit Go.Maps

/-- Build's answer where it builds. -/
theorem build_ok {ss : List Wd} {w w' : World} {e : Ending} (h : BuildRes ss w e w') {V : List Wd} (hV : canon ss = V) (hb : tooBig V = false) {r : Nat × List DSt} (hr : buildS 201 V [] = r) :
    w.grownBy w' none ∧ ∃ B M lv, e = .returned (.tuple #[.pointer (some ⟨B, 0, none⟩), .int .i64 0]) ∧ w.heap.size ≤ B ∧ Bd w' (fun _ => False) B M w.heap.size lv r.1 r.2 := by
  obtain ⟨h1, h2⟩ := h
  rw [hV, hb, hr] at h2
  obtain ⟨B, he, hB, M, lv, hbd⟩ := h2
  exact ⟨⟨h1.os, h1.tape, h1.output, h1.size, fun i hi _ => h1.block i hi⟩, B, M, lv, he, hB, hbd⟩

theorem build_big {ss : List Wd} {w w' : World} {e : Ending} (h : BuildRes ss w e w') {V : List Wd} (hV : canon ss = V) (hb : tooBig V = true) :
    w.grownBy w' none ∧ e = .returned (.tuple #[.pointer none, .int .i64 3]) := by
  obtain ⟨h1, h2⟩ := h
  rw [hV, hb] at h2
  exact ⟨⟨h1.os, h1.tape, h1.output, h1.size, fun i hi _ => h1.block i hi⟩, h2⟩

/-- Words that a call has laid in a row of its own. -/
theorem words_own {w : World} {base : Nat} {A : Option Addr} {n c : Nat} {ss : List Wd} (h : w.ownsRow base 9 1 (.slice A n c) n (strCells ss)) (hn : n ≤ 2147483648) : WordsAt w (fun _ => False) A n c ss := by
  have hl : ss.length = n := by have := h.1; simp [strCells] at this; omega
  refine ⟨hl, ?_, hn, Sl.of_own h (by intro x hx; simp only [strCells, List.mem_map] at hx; obtain ⟨_, _, rfl⟩ := hx; rfl), fun _ h => h.elim⟩
  rcases h.2 with ⟨e, h0⟩ | ⟨g, cap, _, hv, _, _, h1, _⟩
  · omega
  · cases hv; exact h1
end Go.Proofs.YtdcdhcgfhapbnaaDoor

namespace Go.Proofs.YtdcdhcgfhapbnaaDoor
open Go Go.RowKit Go.Maps

theorem few_small {W : List Wd} (h1 : W.length ≤ 40) (h2 : ∀ x ∈ W, x.length ≤ 10) : tooBig (canon W) = false := by
  unfold tooBig
  rw [Bool.or_eq_false_iff]
  refine ⟨decide_eq_false ?_, List.any_eq_false.2 fun x hx => ?_⟩
  · have := Lib.compact_length_le (sortW W)
    rw [sortW_len] at this
    unfold canon
    omega
  · have := h2 x (mem_canon.1 hx)
    unfold isLong
    simp; omega

theorem nextS_out {sts : List DSt} {i : Int} {b : UInt8} (h : i < 0 ∨ (sts.length : Int) ≤ i) : nextS sts i b = none := by
  unfold nextS; rw [stAt_out h]; rfl

theorem nextS_edge {sts : List DSt} {i : Nat} {s : DSt} (hs : sts[i]? = some s) (hp : s.2.Pairwise (fun a b => a.1 < b.1)) {e : DEdge} (he : e ∈ s.2) : nextS sts i e.1 = some e.2 := by
  unfold nextS; rw [stAt_in hs, find_rising hp e he]; rfl

theorem nextS_found {sts : List DSt} {i : Nat} {s : DSt} (hs : sts[i]? = some s) (b : UInt8) : (nextS sts i b).isSome = decide (b ∈ s.2.map (·.1)) := by
  unfold nextS; rw [stAt_in hs, Option.isSome_map, Bool.eq_iff_iff, List.find?_isSome]
  simp

theorem mem_take_map {es : List DEdge} {i : Nat} {e : DEdge} {b : UInt8} (h : es[i]? = some e) : decide (b ∈ (es.take (i + 1)).map (·.1)) = (decide (b ∈ (es.take i).map (·.1)) || (e.1 == b)) := by
  rw [List.take_add_one, h, Bool.eq_iff_iff, decide_eq_true_iff, Bool.or_eq_true, decide_eq_true_iff, beq_iff_eq, List.map_append, List.mem_append]
  constructor
  · rintro (e | e)
    · exact .inl e
    · simp at e; exact .inr e.symm
  · rintro (e | e)
    · exact .inl e
    · exact .inr (by simp [e])

theorem rising_get {es : List DEdge} (hp : es.Pairwise (fun a b => a.1 < b.1)) {i : Nat} {a b : DEdge} (ha : es[i]? = some a) (hb : es[i + 1]? = some b) : a.1 < b.1 := by
  obtain ⟨h1, rfl⟩ := List.getElem?_eq_some_iff.1 ha
  obtain ⟨h2, rfl⟩ := List.getElem?_eq_some_iff.1 hb
  exact List.pairwise_iff_getElem.1 hp i (i + 1) h1 h2 (by omega)

theorem beq_byte (a b : UInt8) : ((a.toNat : Int) == (b.toNat : Int)) = (a == b) := by
  rw [Bool.eq_iff_iff, beq_iff_eq, beq_iff_eq]
  constructor
  · intro h; exact UInt8.toNat_inj.1 (by omega)
  · rintro rfl; rfl
end Go.Proofs.YtdcdhcgfhapbnaaDoor
