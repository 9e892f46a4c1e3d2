/-
  Layer 13's law ClosureCounts: the plain part: so many forms. No conditions beyond those that each lemma names.
-/
import Derived.Test.YtlbbjcggjmaehaaDoorAwake13
namespace Go.Proofs.YtlbbjcggjmaehaaDoor
open Go Go.RowKit Go.Maps

/-- A rule without where its condition lies. -/
def nbR (r : Ru) : Ru := ⟨r.pre, r.flag, r.cross, r.strip, r.add, none, 0, r.cond⟩
def nbE (e : En) : En := ⟨e.word, none, 0, e.flags⟩

theorem formsR_nb (rules : List Ru) (e : En) : formsR (rules.map nbR) (nbE e) = formsR rules e := by
  have h2 : ∀ (l : List Ru) (r : Ru), oneR (l.map nbR) (nbE e) (nbR r) = oneR l e r := fun l r => by
    unfold oneR
    rw [List.flatMap_map]
    rfl
  unfold formsR
  rw [List.flatMap_map]
  congr 1
  exact congrArg (fun f => rules.flatMap f) (funext fun r => h2 rules r)

def digsC : Wd := [49, 50, 51, 52, 53, 54, 55, 56, 57, 48]
def anyIt : It := ⟨true, false, none, 0, []⟩
def sufC (cross : Bool) (C : Option Addr) (k i : Nat) : Ru := ⟨false, 83, cross, [], (digsC.take (i + 1)).drop i, C, k, [anyIt]⟩
def preC (C : Option Addr) (k i : Nat) : Ru := ⟨true, 80, true, [], (digsC.take (i + 1)).drop i, C, k, [anyIt]⟩
def sufsC (cross : Bool) (C : Option Addr) (k n : Nat) : List Ru := (List.range n).map (sufC cross C k)
def presC (C : Option Addr) (k n : Nat) : List Ru := (List.range n).map (preC C k)

def wantC (a b : Nat) (cross : Bool) : Nat := if cross then 1 + a + b + a * b else 1 + a + b

set_option maxRecDepth 100000 in
theorem counts_table : ∀ a ∈ List.range 8, ∀ b ∈ List.range 8, ∀ cross ∈ [true, false],
    (putAll (formsR (sufsC cross none 0 a ++ presC none 0 b) ⟨[119, 111, 114, 100], none, 0, [80, 83]⟩)).length = wantC a b cross ∧
    (putAll (formsR (sufsC cross none 0 a ++ presC none 0 b) ⟨[119, 111, 114, 100], none, 0, [80]⟩)).length = 1 + b := by decide +kernel

theorem sufs_nb (cross : Bool) (C : Option Addr) (k a b : Nat) : (sufsC cross C k a ++ presC C k b).map nbR = sufsC cross none 0 a ++ presC none 0 b := by
  rw [List.map_append]
  unfold sufsC presC
  rw [List.map_map, List.map_map]
  rfl

theorem counts_one {a b : Nat} (ha : a < 8) (hb : b < 8) (cross : Bool) (C : Option Addr) (k : Nat) (F : Option Addr) (fc : Nat) :
    (canon (formsQ (sufsC cross C k a ++ presC C k b) ⟨[119, 111, 114, 100], F, fc, [80, 83]⟩)).length = wantC a b cross ∧
    (canon (formsQ (sufsC cross C k a ++ presC C k b) ⟨[119, 111, 114, 100], F, fc, [80]⟩)).length = 1 + b := by
  have h := counts_table a (List.mem_range.2 ha) b (List.mem_range.2 hb) cross (by cases cross <;> simp)
  rw [forms_canon, forms_canon, ← formsR_nb, ← formsR_nb (e := ⟨[119, 111, 114, 100], F, fc, [80]⟩), sufs_nb]
  exact h

theorem sufs_snoc (cross : Bool) (C : Option Addr) (k n : Nat) : sufsC cross C k (n + 1) = sufsC cross C k n ++ [sufC cross C k n] := by
  unfold sufsC; rw [List.range_succ, List.map_append]; rfl
theorem pres_snoc (C : Option Addr) (k n : Nat) : presC C k (n + 1) = presC C k n ++ [preC C k n] := by
  unfold presC; rw [List.range_succ, List.map_append]; rfl
theorem sufs_len (cross : Bool) (C : Option Addr) (k n : Nat) : (sufsC cross C k n).length = n := by simp [sufsC]
theorem pres_len (C : Option Addr) (k n : Nat) : (presC C k n).length = n := by simp [presC]

theorem rise_next {L : List Wd} (h : Rise L) {i : Nat} {x y : Wd} (hx : L[i]? = some x) (hy : L[i + 1]? = some y) : x < y := by
  have h1 := (List.getElem?_eq_some_iff.1 hx)
  have h2 := (List.getElem?_eq_some_iff.1 hy)
  obtain ⟨a, rfl⟩ := h1
  obtain ⟨b, rfl⟩ := h2
  exact List.pairwise_iff_getElem.1 h i (i + 1) a b (by omega)
end Go.Proofs.YtlbbjcggjmaehaaDoor
