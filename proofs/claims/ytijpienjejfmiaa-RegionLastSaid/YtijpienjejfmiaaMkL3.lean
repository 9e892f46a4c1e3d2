/-
  The law MarksOver: spans side by side, and the walk. No conditions beyond those that each law names.
-/
import Derived.Test.YtijpienjejfmiaaMkL1
namespace Go.Proofs.Ytijpienjejfmiaa
open Go Go.RowKit Go.Shelf Go.Sort

/-- Span number i. -/
def spI (i : Nat) : Sp := ⟨10 * (i : Int), 10 * (i : Int) + 8, ((i % 3 : Nat) : Int)⟩
def segS (j k : Nat) : List Sp := (List.range' j (k - j)).map spI
def evs (l : List Sp) : List Sp := l.filter fun x => decide (x.k % 2 = 0)
def ods (l : List Sp) : List Sp := l.filter fun x => !decide (x.k % 2 = 0)

theorem segS_cons {j k : Nat} (h : j < k) : segS j k = spI j :: segS (j + 1) k := by
  unfold segS
  rw [show k - j = (k - (j + 1)) + 1 by omega, List.range'_succ]
  rfl
theorem segS_none (k : Nat) : segS k k = [] := by simp [segS]
theorem mem_segS {j k : Nat} {x : Sp} : x ∈ segS j k ↔ ∃ i, j ≤ i ∧ i < k ∧ x = spI i := by
  unfold segS
  rw [List.mem_map]
  constructor
  · rintro ⟨i, hi, rfl⟩
    rw [List.mem_range'_1] at hi
    exact ⟨i, by omega, by omega, rfl⟩
  · rintro ⟨i, h1, h2, rfl⟩
    exact ⟨i, by rw [List.mem_range'_1]; omega, rfl⟩
theorem segS_length (j k : Nat) : (segS j k).length = k - j := by simp [segS]

theorem spI_lt {i j : Nat} (h : i < j) : (spI i).lt (spI j) := by
  refine .inl ?_
  show 10 * (i : Int) < 10 * (j : Int)
  omega

theorem ord_segS (j k : Nat) : Ord (segS j k) := by
  unfold segS Ord
  rw [List.pairwise_map]
  exact List.Pairwise.imp (fun h => spI_lt h) (List.pairwise_lt_range' ..)

theorem insS_front {s : Sp} {l : List Sp} (h : ∀ x ∈ l, s.lt x) : insS s l = s :: l := by
  cases l with
  | nil => rfl
  | cons x l => unfold insS; rw [if_pos (h x (by simp))]

theorem sortS_perm {l m : List Sp} (hp : l.Perm m) (ho : Ord m) : sortS l = m := by
  have h1 : (sortS l).Perm m := (List.mergeSort_perm _ _).trans hp
  have h2 : (sortS l).Pairwise (fun x y => (!(ltOf cmpS) y x) = true) := by
    refine List.pairwise_mergeSort ?_ ?_ l
    · intro x y z hxy hyz
      rw [ltOf_cmp] at *
      simp at *
      intro h
      rcases Sp.lt_tri y x with h3 | h3 | h3
      · exact hxy h3
      · subst h3; exact hyz h
      · exact hyz (Sp.lt_trans h h3)
    · intro x y
      rw [ltOf_cmp, ltOf_cmp]
      simp
      rcases Sp.lt_tri x y with h | h | h
      · exact .inl (fun h2 => Sp.lt_irrefl _ (Sp.lt_trans h h2))
      · subst h; exact .inl (Sp.lt_irrefl _)
      · exact .inr (fun h2 => Sp.lt_irrefl _ (Sp.lt_trans h h2))
  have h3 : m.Pairwise (fun x y => (!(ltOf cmpS) y x) = true) := ho.imp fun {x y} h => by
    rw [ltOf_cmp]
    simp
    exact fun h2 => Sp.lt_irrefl _ (Sp.lt_trans h h2)
  refine List.Perm.eq_of_pairwise (fun x y hx hy h4 h5 => ?_) h2 h3 h1
  rw [ltOf_cmp] at h4 h5
  simp at h4 h5
  rcases Sp.lt_tri x y with h | h | h
  · exact absurd h h5
  · exact h
  · exact absurd h h4

theorem evs_ods_perm (l : List Sp) : (evs l ++ ods l).Perm l := List.filter_append_perm _ l

theorem over_seg (f t : Int) (k : Nat) : sortS (overQ f t (evs (segS 0 k)) ++ overQ f t (ods (segS 0 k))) = overQ f t (segS 0 k) := by
  rw [← overQ_append]
  exact sortS_perm ((evs_ods_perm _).filter _) ((ord_segS 0 k).filter _)
theorem all_seg (k : Nat) : sortS (evs (segS 0 k) ++ ods (segS 0 k)) = segS 0 k := sortS_perm (evs_ods_perm _) (ord_segS 0 k)

theorem segS_append {i k : Nat} (h : i ≤ k) : segS 0 k = segS 0 i ++ segS i k := by
  unfold segS
  rw [← List.map_append, show k - 0 = (i - 0) + (k - i) by omega, ← List.range'_append_1]
  simp

/-- How many of the first i lie over the range. -/
def cntS (f t : Int) (i : Nat) : Nat := (overQ f t (segS 0 i)).length

theorem segS_snoc (i : Nat) : segS 0 (i + 1) = segS 0 i ++ [spI i] := by
  rw [segS_append (i := i) (k := i + 1) (by omega), segS_cons (j := i) (k := i + 1) (by omega), segS_none]

theorem cntS_succ (f t : Int) (i : Nat) : cntS f t (i + 1) = cntS f t i + if 10 * (i : Int) < t ∧ f < 10 * (i : Int) + 8 then 1 else 0 := by
  unfold cntS
  rw [segS_snoc, overQ_append, List.length_append]
  congr 1
  by_cases h : 10 * (i : Int) < t ∧ f < 10 * (i : Int) + 8
  · rw [if_pos h]; simp [overQ, spI, h.1, h.2]
  · rw [if_neg h]
    simp only [overQ, spI, List.filter_cons, List.filter_nil]
    split
    · rename_i h2; simp at h2; exact absurd h2 h
    · rfl

theorem over_get (f t : Int) (i k : Nat) (hi : i < k) (h : 10 * (i : Int) < t ∧ f < 10 * (i : Int) + 8) : ∃ hlt : cntS f t i < (overQ f t (segS 0 k)).length, (overQ f t (segS 0 k))[cntS f t i] = spI i := by
  have e : overQ f t (segS 0 k) = overQ f t (segS 0 i) ++ spI i :: overQ f t (segS (i + 1) k) := by
    rw [segS_append (i := i) (k := k) (by omega), segS_cons hi, overQ_append]
    congr 1
    show List.filter _ (spI i :: _) = _
    rw [List.filter_cons, if_pos (by simp [spI, h.1, h.2])]
    rfl
  refine ⟨by rw [e]; simp [cntS], ?_⟩
  simp only [e]
  rw [List.getElem_append_right (by simp [cntS])]
  simp [cntS]

theorem evs_cons {j k : Nat} (h : j < k) (hk : (spI j).k % 2 = 0) : insS (spI j) (evs (segS (j + 1) k)) = evs (segS j k) ∧ ods (segS (j + 1) k) = ods (segS j k) := by
  rw [segS_cons h]
  refine ⟨?_, ?_⟩
  · rw [insS_front (fun x hx => by
      obtain ⟨i, h1, h2, rfl⟩ := mem_segS.1 (List.mem_filter.1 hx).1
      exact spI_lt (by omega))]
    simp [evs, hk]
  · simp [ods, hk]
theorem ods_cons {j k : Nat} (h : j < k) (hk : ¬ (spI j).k % 2 = 0) : insS (spI j) (ods (segS (j + 1) k)) = ods (segS j k) ∧ evs (segS (j + 1) k) = evs (segS j k) := by
  rw [segS_cons h]
  refine ⟨?_, ?_⟩
  · rw [insS_front (fun x hx => by
      obtain ⟨i, h1, h2, rfl⟩ := mem_segS.1 (List.mem_filter.1 hx).1
      exact spI_lt (by omega))]
    simp [ods, hk]
  · simp [evs, hk]
theorem not_in_seg {j k : Nat} : spI j ∉ segS (j + 1) k := fun h => by
  obtain ⟨i, h1, h2, h3⟩ := mem_segS.1 h
  have : (spI j).a = (spI i).a := by rw [h3]
  simp only [spI] at this
  omega
end Go.Proofs.Ytijpienjejfmiaa
