/-
  Sorted words, each once, by putting them in one by one. No Go in it, no conditions beyond those that each lemma names.
-/
import Derived.Test.YtlbbjcggjmaehaaDoorDawgO
namespace Go.Proofs.YtlbbjcggjmaehaaDoor
open Go

/-- A word put into a rising list, once. -/
def insU (x : Wd) : List Wd → List Wd
  | [] => [x]
  | y :: L => if x < y then x :: y :: L else if x = y then y :: L else y :: insU x L

theorem mem_insU {x y : Wd} : ∀ {L : List Wd}, y ∈ insU x L ↔ y = x ∨ y ∈ L
  | [] => by simp [insU]
  | z :: L => by
    unfold insU
    split
    · simp
    · split
      · rename_i h; subst h; simp
      · rw [List.mem_cons, mem_insU, List.mem_cons]
        constructor
        · rintro (h | h | h)
          · exact .inr (.inl h)
          · exact .inl h
          · exact .inr (.inr h)
        · rintro (h | h | h)
          · exact .inr (.inl h)
          · exact .inl h
          · exact .inr (.inr h)

theorem insU_rise {x : Wd} : ∀ {L : List Wd}, Rise L → Rise (insU x L)
  | [], _ => by simp [insU, Rise]
  | y :: L, h => by
    have h1 := List.pairwise_cons.1 h
    unfold insU
    split
    · rename_i hxy
      refine List.pairwise_cons.2 ⟨fun z hz => ?_, h⟩
      rcases List.mem_cons.1 hz with rfl | hz
      · exact hxy
      · exact List.lt_trans hxy (h1.1 z hz)
    · split
      · exact h
      · rename_i h2 h3
        refine List.pairwise_cons.2 ⟨fun z hz => ?_, insU_rise h1.2⟩
        rcases mem_insU.1 hz with rfl | hz
        · exact wd_lt_of_le_ne (List.not_lt.1 h2) (fun e => h3 e.symm)
        · exact h1.1 z hz

/-- Words put in one by one. -/
def putAll (ss : List Wd) : List Wd := ss.foldl (fun L x => insU x L) []

theorem foldl_insU : ∀ (ss : List Wd) (L : List Wd), Rise L → Rise (ss.foldl (fun L x => insU x L) L) ∧ ∀ y, y ∈ ss.foldl (fun L x => insU x L) L ↔ y ∈ L ∨ y ∈ ss
  | [], L, h => ⟨h, by simp⟩
  | s :: ss, L, h => by
    obtain ⟨h1, h2⟩ := foldl_insU ss (insU s L) (insU_rise h)
    refine ⟨h1, fun y => ?_⟩
    rw [List.foldl_cons, h2, mem_insU, List.mem_cons]
    constructor
    · rintro ((h | h) | h)
      · exact .inr (.inl h)
      · exact .inl h
      · exact .inr (.inr h)
    · rintro (h | h | h)
      · exact .inl (.inr h)
      · exact .inl (.inl h)
      · exact .inr h

theorem canon_putAll (ss : List Wd) : canon ss = putAll ss :=
  canon_of_rise (foldl_insU ss [] (by simp [Rise])).1 (fun x => by have := (foldl_insU ss [] (by simp [Rise])).2 x; simp at this; exact this)

/-- All words of so many of two letters. -/
def lvl : Nat → List Wd
  | 0 => [[]]
  | n + 1 => (lvl n).flatMap fun w => [w ++ [97], w ++ [98]]

/-- All shorter ones. -/
def alls : Nat → List Wd
  | 0 => []
  | n + 1 => alls n ++ lvl n

def known (k : Nat) (upto : Bool) : List Wd := if upto then lvl k ++ alls k else lvl k

theorem lvl_len : ∀ k, (lvl k).length = 2 ^ k
  | 0 => rfl
  | k + 1 => by
    have : ∀ L : List Wd, (L.flatMap fun w => [w ++ [97], w ++ [98]]).length = 2 * L.length := by
      intro L
      induction L with
      | nil => rfl
      | cons w L ih => rw [List.flatMap_cons, List.length_append, ih]; simp; omega
    rw [lvl, this, lvl_len k]; omega
theorem alls_len : ∀ k, (alls k).length + 1 = 2 ^ k
  | 0 => rfl
  | k + 1 => by have := alls_len k; rw [alls, List.length_append, lvl_len]; omega
end Go.Proofs.YtlbbjcggjmaehaaDoor
