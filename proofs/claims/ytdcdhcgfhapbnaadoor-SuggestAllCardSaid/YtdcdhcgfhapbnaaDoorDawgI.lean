/-
  Sorted words, each once, by putting them in one by one. No Go in it, no conditions beyond those that each lemma names.
-/
import Derived.Test.YtdcdhcgfhapbnaaDoorDawgQ
import Derived.Lib.SlicesCompact
namespace Go.Proofs.YtdcdhcgfhapbnaaDoor
open Go

theorem wd_lt_of_le_ne {a b : Wd} (h : a ≤ b) (k : a ≠ b) : a < b := by
  rcases List.le_iff_lt_or_eq.1 h with h | h
  · exact h
  · exact absurd h k

def sortW (ss : List Wd) : List Wd := ss.mergeSort fun x y => decide (x ≤ y)

theorem sortW_sorted (ss : List Wd) : (sortW ss).Pairwise (· ≤ ·) := by
  have := List.pairwise_mergeSort (le := fun x y : Wd => decide (x ≤ y)) (fun a b c h k => by
    simp only [decide_eq_true_eq] at *; exact List.le_trans h k) (fun a b => by
    rcases List.le_total a b with h | h <;> simp [h]) ss
  exact this.imp (fun h => by simpa using h)

theorem mem_sortW {ss : List Wd} {x : Wd} : x ∈ sortW ss ↔ x ∈ ss := (List.mergeSort_perm ss _).mem_iff

theorem sortW_len (ss : List Wd) : (sortW ss).length = ss.length := by simp [sortW]

theorem compactUpTo_ok (d : Array Wd) (hd : d.toList.Pairwise (· ≤ ·)) : ∀ m, m ≤ d.size → (Lib.compactUpTo d m).Pairwise (· < ·) ∧ (∀ x, x ∈ Lib.compactUpTo d m ↔ ∃ j, j < m ∧ d[j]! = x) := by
  have hle : ∀ i j, i ≤ j → j < d.size → d[i]! ≤ d[j]! := by
    intro i j hij hj
    rcases Nat.lt_or_ge i j with h | h
    · have := List.pairwise_iff_getElem.1 hd i j (by simp; omega) (by simpa using hj) h
      simpa [getElem!_pos, hj, show i < d.size by omega] using this
    · obtain rfl : i = j := by omega
      exact List.le_refl _
  intro m
  induction m with
  | zero => intro _; exact ⟨by simp [Lib.compactUpTo], by simp [Lib.compactUpTo]⟩
  | succ m ih =>
    intro hm
    obtain ⟨h1, h2⟩ := ih (by omega)
    rw [Lib.compactUpTo_succ]
    by_cases hk : Lib.keeps d m = true
    · simp only [hk, if_true]
      refine ⟨List.pairwise_append.2 ⟨h1, by simp, ?_⟩, ?_⟩
      · intro a ha b hb
        simp at hb; subst hb
        obtain ⟨j, hj, rfl⟩ := (h2 a).1 ha
        have hm0 : m ≠ 0 := by omega
        have hne : d[m]! ≠ d[m - 1]! := by
          unfold Lib.keeps at hk
          rcases of_decide_eq_true hk with h | h
          · exact absurd h hm0
          · exact h
        exact List.lt_of_le_of_lt (hle j (m - 1) (by omega) (by omega)) (wd_lt_of_le_ne (hle (m - 1) m (by omega) (by omega)) (fun e => hne e.symm))
      · intro x
        rw [List.mem_append, h2]
        constructor
        · rintro (⟨j, hj, e⟩ | h)
          · exact ⟨j, by omega, e⟩
          · simp at h; exact ⟨m, by omega, h.symm⟩
        · rintro ⟨j, hj, e⟩
          rcases Nat.lt_or_ge j m with h | h
          · exact .inl ⟨j, h, e⟩
          · obtain rfl : j = m := by omega
            exact .inr (by simp [e])
    · simp only [Bool.not_eq_true] at hk
      simp only [hk, Bool.false_eq_true, if_false, List.append_nil]
      refine ⟨h1, fun x => ?_⟩
      rw [h2]
      have hk2 : ¬ (m = 0 ∨ d[m]! ≠ d[m - 1]!) := by unfold Lib.keeps at hk; exact of_decide_eq_false hk
      constructor
      · rintro ⟨j, hj, e⟩; exact ⟨j, by omega, e⟩
      · rintro ⟨j, hj, e⟩
        rcases Nat.lt_or_ge j m with h | h
        · exact ⟨j, h, e⟩
        · obtain rfl : j = m := by omega
          have h3 : j ≠ 0 := fun e => hk2 (.inl e)
          have h4 : d[j]! = d[j - 1]! := Classical.byContradiction fun e => hk2 (.inr e)
          exact ⟨j - 1, by omega, h4 ▸ e⟩

/-- The words that Build goes by. -/
def canon (ss : List Wd) : List Wd := Lib.compact (sortW ss)

theorem canon_rise (ss : List Wd) : Rise (canon ss) := (compactUpTo_ok (sortW ss).toArray (by simpa using sortW_sorted ss) (sortW ss).length (by simp)).1

theorem mem_canon {ss : List Wd} {x : Wd} : x ∈ canon ss ↔ x ∈ ss := by
  refine Iff.trans ?_ mem_sortW
  unfold canon Lib.compact
  rw [(compactUpTo_ok (sortW ss).toArray (by simpa using sortW_sorted ss) (sortW ss).length (by simp)).2]
  constructor
  · rintro ⟨j, hj, rfl⟩
    rw [getElem!_pos (sortW ss).toArray j (by simpa using hj)]
    simp
  · intro h
    obtain ⟨j, hj, rfl⟩ := List.getElem_of_mem h
    exact ⟨j, hj, by rw [getElem!_pos (sortW ss).toArray j (by simpa using hj)]; simp⟩

/-- A rising list is told by its members. -/
theorem rise_unique : ∀ {V W : List Wd}, Rise V → Rise W → (∀ x, x ∈ V ↔ x ∈ W) → V = W
  | [], [], _, _, _ => rfl
  | [], w :: W, _, _, h => by have := (h w).2 (by simp); simp at this
  | v :: V, [], _, _, h => by have := (h v).1 (by simp); simp at this
  | v :: V, w :: W, hv, hw, h => by
    have h1 := List.pairwise_cons.1 hv
    have h2 := List.pairwise_cons.1 hw
    have hvw : v = w := by
      rcases List.mem_cons.1 ((h v).1 (by simp)) with e | e
      · exact e
      · rcases List.mem_cons.1 ((h w).2 (by simp)) with e' | e'
        · exact e'.symm
        · exact absurd (List.lt_trans (h2.1 v e) (h1.1 w e')) (List.lt_irrefl _)
    subst hvw
    congr 1
    refine rise_unique h1.2 h2.2 (fun x => ?_)
    constructor
    · intro hx
      rcases List.mem_cons.1 ((h x).1 (List.mem_cons_of_mem _ hx)) with e | e
      · subst e; exact absurd (h1.1 x hx) (List.lt_irrefl _)
      · exact e
    · intro hx
      rcases List.mem_cons.1 ((h x).2 (List.mem_cons_of_mem _ hx)) with e | e
      · subst e; exact absurd (h2.1 x hx) (List.lt_irrefl _)
      · exact e

theorem canon_of_rise {V ss : List Wd} (hV : Rise V) (h : ∀ x, x ∈ V ↔ x ∈ ss) : canon ss = V :=
  rise_unique (canon_rise ss) hV (fun x => mem_canon.trans (h x).symm)
end Go.Proofs.YtdcdhcgfhapbnaaDoor

namespace Go.Proofs.YtdcdhcgfhapbnaaDoor
open Go

/-- A word put into a rising list, once. -/
def insU (x : Wd) : List Wd → List Wd
  | [] => [x]
  | y :: L => if x < y then x :: y :: L else if x = y then y :: L else y :: insU x L

theorem mem_insU {x y : Wd} : ∀ {L : List Wd}, y ∈ insU x L ↔ y = x ∨ y ∈ L
  | [] => by simp [insU]
  | z :: L => by
    unfold insU
    split
    · simp
    · split
      · rename_i h; subst h; simp
      · rw [List.mem_cons, mem_insU, List.mem_cons]
        constructor
        · rintro (h | h | h)
          · exact .inr (.inl h)
          · exact .inl h
          · exact .inr (.inr h)
        · rintro (h | h | h)
          · exact .inr (.inl h)
          · exact .inl h
          · exact .inr (.inr h)

theorem insU_rise {x : Wd} : ∀ {L : List Wd}, Rise L → Rise (insU x L)
  | [], _ => by simp [insU, Rise]
  | y :: L, h => by
    have h1 := List.pairwise_cons.1 h
    unfold insU
    split
    · rename_i hxy
      refine List.pairwise_cons.2 ⟨fun z hz => ?_, h⟩
      rcases List.mem_cons.1 hz with rfl | hz
      · exact hxy
      · exact List.lt_trans hxy (h1.1 z hz)
    · split
      · exact h
      · rename_i h2 h3
        refine List.pairwise_cons.2 ⟨fun z hz => ?_, insU_rise h1.2⟩
        rcases mem_insU.1 hz with rfl | hz
        · exact wd_lt_of_le_ne (List.not_lt.1 h2) (fun e => h3 e.symm)
        · exact h1.1 z hz

/-- Words put in one by one. -/
def putAll (ss : List Wd) : List Wd := ss.foldl (fun L x => insU x L) []

theorem foldl_insU : ∀ (ss : List Wd) (L : List Wd), Rise L → Rise (ss.foldl (fun L x => insU x L) L) ∧ ∀ y, y ∈ ss.foldl (fun L x => insU x L) L ↔ y ∈ L ∨ y ∈ ss
  | [], L, h => ⟨h, by simp⟩
  | s :: ss, L, h => by
    obtain ⟨h1, h2⟩ := foldl_insU ss (insU s L) (insU_rise h)
    refine ⟨h1, fun y => ?_⟩
    rw [List.foldl_cons, h2, mem_insU, List.mem_cons]
    constructor
    · rintro ((h | h) | h)
      · exact .inr (.inl h)
      · exact .inl h
      · exact .inr (.inr h)
    · rintro (h | h | h)
      · exact .inl (.inr h)
      · exact .inl (.inl h)
      · exact .inr h

theorem canon_putAll (ss : List Wd) : canon ss = putAll ss :=
  canon_of_rise (foldl_insU ss [] (by simp [Rise])).1 (fun x => by have := (foldl_insU ss [] (by simp [Rise])).2 x; simp at this; exact this)

/-- All words of so many of two letters. -/
def lvl : Nat → List Wd
  | 0 => [[]]
  | n + 1 => (lvl n).flatMap fun w => [w ++ [97], w ++ [98]]

/-- All shorter ones. -/
def alls : Nat → List Wd
  | 0 => []
  | n + 1 => alls n ++ lvl n

def known (k : Nat) (upto : Bool) : List Wd := if upto then lvl k ++ alls k else lvl k

theorem lvl_len : ∀ k, (lvl k).length = 2 ^ k
  | 0 => rfl
  | k + 1 => by
    have : ∀ L : List Wd, (L.flatMap fun w => [w ++ [97], w ++ [98]]).length = 2 * L.length := by
      intro L
      induction L with
      | nil => rfl
      | cons w L ih => rw [List.flatMap_cons, List.length_append, ih]; simp; omega
    rw [lvl, this, lvl_len k]; omega
theorem alls_len : ∀ k, (alls k).length + 1 = 2 ^ k
  | 0 => rfl
  | k + 1 => by have := alls_len k; rw [alls, List.length_append, lvl_len]; omega
end Go.Proofs.YtdcdhcgfhapbnaaDoor
