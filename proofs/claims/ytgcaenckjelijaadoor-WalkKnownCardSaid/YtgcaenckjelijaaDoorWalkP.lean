/-
  Package walk as plain functions: rows of distances; the walk through an automaton. No conditions.
-/
import Derived.Test.YtgcaenckjelijaaDoorDawgH
import Derived.Lib.DecodeN
namespace Go.Proofs.YtgcaenckjelijaaDoor
open Go

/-- The unit that a text that is not empty begins with: its code point and its bytes. -/
def decB (s : Wd) : Nat × Nat := Lib.decodeN s.length (s.getD 0 0).toNat (s.getD 1 0).toNat (s.getD 2 0).toNat (s.getD 3 0).toNat

/-- Its code; below 0: a byte that is none. -/
def codeB (s : Wd) : Int := if decB s = (65533, 1) then -1 - ((s.getD 0 0).toNat : Int) else (decB s).1

/-- Does a text begin with a whole unit (or a wrong one)? -/
def fullB : Wd → Bool
  | [] => false
  | b0 :: t =>
    if Lib.firstT b0.toNat % 8 ≤ t.length + 1 then true
    else match t with
      | [] => false
      | b1 :: t2 =>
        if b1.toNat < Lib.accLo (Lib.firstT b0.toNat / 16) ∨ Lib.accHi (Lib.firstT b0.toNat / 16) < b1.toNat then true
        else match t2 with
          | [] => false
          | b2 :: _ => decide (b2.toNat < 128) || decide (191 < b2.toNat)

/-- Two codes that have changed places. -/
def turnS (codes : List Int) (last : Option (List Nat)) (before code : Int) (k d : Nat) : Nat :=
  match last with
  | none => d
  | some la => if 0 < k ∧ codes.getD (k - 1) 0 = code ∧ codes.getD k 0 = before then min d (la.getD (k - 1) 0 + 1) else d

/-- One number of a row. -/
def cellS (codes : List Int) (last : Option (List Nat)) (was : List Nat) (before code : Int) (left : Nat) (k : Nat) : Nat :=
  turnS codes last before code k (min (min (was.getD (k + 1) 0 + 1) (left + 1)) (was.getD k 0 + (if codes.getD k 0 = code then 0 else 1)))

theorem turnS_le {codes : List Int} {last : Option (List Nat)} {before code : Int} {k d : Nat} : turnS codes last before code k d ≤ d := by
  unfold turnS
  split
  · exact Nat.le_refl _
  · split
    · exact Nat.min_le_left _ _
    · exact Nat.le_refl _

/-- The first k + 1 numbers of a row. -/
def rowS (codes : List Int) (last : Option (List Nat)) (was : List Nat) (before code : Int) : Nat → List Nat
  | 0 => [was.getD 0 0 + 1]
  | k + 1 => rowS codes last was before code k ++ [cellS codes last was before code ((rowS codes last was before code k).getD k 0) k]

def leastS (row : List Nat) : Nat := row.foldl min (row.headD 0)

/-- What a walk has found. -/
structure Fi where
  l : List (Wd × Nat)
  steps : Nat

/-- The walk from a state on, behind a word. -/
def onS (sts : List DSt) (codes : List Int) (most : Nat) : Nat → Nat → Nat → Option (List Nat) → List Nat → Int → Wd → Fi → Fi
  | 0, _, _, _, _, _, _, f => f
  | fuel + 1, state, part, last, was, before, word, f =>
    (stAt sts state).2.foldl (fun g e =>
      let s := (word ++ [e.1]).drop (word.length - part)
      let g1 : Fi := ⟨g.l, g.steps + 1⟩
      if 0 ≤ codeB s then
        let row := rowS codes last was before (codeB s) codes.length
        if leastS row ≤ most then onS sts codes most fuel e.2 0 (some was) row (codeB s) (word ++ [e.1]) g1 else g1
      else if fullB s then g1
      else onS sts codes most fuel e.2 (part + 1) last was before (word ++ [e.1]) g1)
    (if part = 0 ∧ (stAt sts state).1 = true ∧ was.getD codes.length 0 ≤ most then ⟨f.l ++ [(word, was.getD codes.length 0)], f.steps⟩ else f)

/-- The whole walk. -/
def walkS (sts : List DSt) (start : Nat) (codes : List Int) (most : Nat) : Fi :=
  onS sts codes most (sts.length + 1) start 0 none (List.range (codes.length + 1)) 0 [] ⟨[], 0⟩
end Go.Proofs.YtgcaenckjelijaaDoor
