/-
  Plain lists for the laws of layer 8: the groups that a history of depth D holds behind k pushes. No conditions.
-/
import Derived.Test.YtiiaphgencoijaaHistL
namespace Go.Proofs.Ytiiaphgencoijaa
open Go Go.RowKit

/-- The group that HistoryDepth pushes in round j. -/
def grpD (j : Nat) : List Value := [.int .i64 j, .string ⟨#[]⟩, .string ⟨#[]⟩, .int .i64 j, .string ⟨#[]⟩, .string ⟨#[121]⟩]

/-- What can be undone behind k pushes of groups f 0, f 1, ..: the last D of them. -/
def lastU (f : Nat → List Value) (D k : Nat) : List (List Value) := ((List.range k).map f).drop (k - D)

theorem len_lastU (f : Nat → List Value) (D k : Nat) : (lastU f D k).length = min k D := by simp [lastU]; omega

theorem get_lastU (f : Nat → List Value) (D k i : Nat) (h : i < min k D) : (lastU f D k)[i]? = some (f (k - min k D + i)) := by
  simp only [lastU, List.getElem?_drop, List.getElem?_map]
  rw [List.getElem?_range (by omega)]
  simp; congr 1; omega

theorem push_lastU (f : Nat → List Value) (D k : Nat) : pushU D (lastU f D k) (f k) = lastU f D (k + 1) := by
  have hl := len_lastU f D k
  apply List.ext_getElem?
  intro i
  by_cases hi : i < min (k + 1) D
  · rw [get_lastU f D (k + 1) i hi]
    simp only [pushU]
    split
    · rename_i h
      rw [hl] at h
      rcases Nat.lt_or_ge i (lastU f D k).length with h1 | h1
      · rw [List.getElem?_append_left h1, get_lastU f D k i (by omega)]; congr 2; omega
      · rw [List.getElem?_append_right h1, show i - (lastU f D k).length = 0 by omega]
        simp; congr 1; omega
    · rename_i h
      rw [hl] at h
      rw [List.getElem?_tail]
      rcases Nat.lt_or_ge (i + 1) (lastU f D k).length with h1 | h1
      · rw [List.getElem?_append_left h1, get_lastU f D k (i + 1) (by omega)]; congr 2; omega
      · rw [List.getElem?_append_right h1, show i + 1 - (lastU f D k).length = 0 by omega]
        simp; congr 1; omega
  · rw [List.getElem?_eq_none (l := lastU f D (k + 1)) (by rw [len_lastU]; omega)]
    refine List.getElem?_eq_none ?_
    simp only [pushU]
    split <;> simp <;> omega

theorem lastU_zero (f : Nat → List Value) (D : Nat) : lastU f D 0 = [] := by simp [lastU]

theorem take_snoc_get {α : Type} {l : List α} {i : Nat} {x : α} (h : l[i]? = some x) : l.take (i + 1) = l.take i ++ [x] := by
  rw [List.take_add_one, h]; rfl

theorem drop_cons_get {α : Type} {l : List α} {i : Nat} {x : α} (h : l[i]? = some x) : l.drop i = x :: l.drop (i + 1) := by
  obtain ⟨hi, rfl⟩ := List.getElem?_eq_some_iff.1 h
  exact List.drop_eq_getElem_cons hi
end Go.Proofs.Ytiiaphgencoijaa
