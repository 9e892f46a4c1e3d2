/-
  Layer 15's laws: all: the words that an automaton has: the walk. Conditions: few steps, a short beginning.
-/
import Derived.Test.YtgcaenckjelijaaDoorDawgH
namespace Go.Proofs.YtgcaenckjelijaaDoor
open Go Go.RowKit Go.Maps

/-- The words behind a state, as far as steps go; no more when there are too many. -/
def allS (sts : List DSt) : Nat → Int → Wd → List Wd → List Wd
  | 0, i, head, out => if (stAt sts i).1 then out ++ [head] else out
  | k + 1, i, head, out =>
    let o := if (stAt sts i).1 then out ++ [head] else out
    if 100 < o.length then o
    else ((stAt sts i).2.map (·.1)).foldl (fun o c => match nextS sts i c with | some j => allS sts k j (head ++ [c]) o | none => o) o

theorem allS_many (sts : List DSt) : ∀ (k : Nat) (i : Int) (head : Wd) (out : List Wd), 100 < out.length → (allS sts k i head out).length ≤ out.length + 1
  | 0, i, head, out, h => by unfold allS; split <;> simp
  | k + 1, i, head, out, h => by
    unfold allS
    rw [if_pos (by split <;> (try simp) <;> omega)]
    split <;> simp

set_option maxRecDepth 10000 in
theorem allS_few (sts : List DSt) (hs : ∀ s ∈ sts, s.2.length ≤ 256) : ∀ (k : Nat) (i : Int) (head : Wd) (out : List Wd), out.length ≤ 100 → (allS sts k i head out).length ≤ 101 + 256 * k
  | 0, i, head, out, h => by unfold allS; split <;> (try simp) <;> omega
  | k + 1, i, head, out, h => by
    unfold allS
    generalize ho : (if (stAt sts i).1 = true then out ++ [head] else out) = o
    have hol : o.length ≤ 101 := by rw [← ho]; split <;> (try simp) <;> omega
    simp only
    split
    · omega
    · have key : ∀ (l : List UInt8) (o : List Wd), o.length ≤ 101 + 256 * k + (256 - l.length) → l.length ≤ 256 → (l.foldl (fun o c => match nextS sts i c with | some j => allS sts k j (head ++ [c]) o | none => o) o).length ≤ 101 + 256 * k + 256 := by
        intro l
        induction l with
        | nil => intro o h1 _; simp at h1 ⊢; omega
        | cons c l ih =>
          intro o h1 h2
          rw [List.foldl_cons]
          simp only [List.length_cons] at h1 h2
          refine ih _ ?_ (by omega)
          rcases nextS sts i c with _ | j
          · simp only; omega
          · simp only
            rcases Nat.lt_or_ge 100 o.length with h3 | h3
            · have := allS_many sts k j (head ++ [c]) o h3; omega
            · have := allS_few sts hs k j (head ++ [c]) o h3; omega
      have hst : (stAt sts i).2.length ≤ 256 := by
        unfold stAt
        split
        · simp
        · rcases hh : sts[i.toNat]? with _ | s
          · simp
          · exact hs s (List.mem_of_getElem? hh)
      have := key ((stAt sts i).2.map (·.1)) o (by simp; omega) (by simpa using hst)
      omega
end Go.Proofs.YtgcaenckjelijaaDoor
