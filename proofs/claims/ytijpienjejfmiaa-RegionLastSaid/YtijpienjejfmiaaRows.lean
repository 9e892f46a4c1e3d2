/-
  No cell of these rows narrows 'for every input' (looked for: loops, veiled, ifaces, maps, wideKeys, modest, calm, conditions, laid).
  DERIVED. THE GIVEN ROWS OF THIS SEAT. 7 by the template 'for every input the law returns true; each argument reads behind the call as it read before'; 0 by the template 'total and deterministic' (their statements: YtijpienjejfmiaaTotals.lean).
  GIVEN WITH THE SEED: the statements are not yours to turn. If you find one false, say at which input.
  Laid BY PROGRAM, IN A SANDBOX (cutbox-rows.mjs): the forced cells as the released guide's own fill.sh prints them over the translation e9ee65d50e9d2e75… (all of the seat's roots in one cut). By AI agents, Wed Nov 11 2026. No macro, syntax, notation, axiom, sorry.
-/
import Derived.Test.YtijpienjejfmiaaChecked
import GoSem.Claim
import GoSem.ClaimJoined
import GoSem.ClaimMapViews
import Derived.JoinedTies
import Derived.KernelRfl
namespace Go.Proofs.Ytijpienjejfmiaa
/- THE CELL 'sum', in the pinned program and in every row, IS THE sha256 OF THE DUMP (.gsa) THAT YtijpienjejfmiaaProg.lean LOADS. Nothing in Lean hashes anything: it is a label: what it is worth is what the hold of that sum in a sandbox is worth. -/
noncomputable def Try.pinned : Pinned := { name := "ytijpienjejfmiaa", sum := "e9ee65d50e9d2e757afcaabcd3eecc221bf71f5379e1372a53164c4ba4ea56c3", checked := Try.checked }
namespace Rows
def none {H : Type} : Left H := { results := [], args := [] }

/-- 'abecedarylaw21.MarksWrong': WHATEVER THE INPUT: true; the input reads as it did. -/
def marksWrongSpec : ChangeSpec := { name := "marksWrong", fn := fun _ => fun
  | [d1, d2] => { results := [.lit (.bool true)], args := [d1, d2] }
  | _ => none }
def marksWrongRow : OpenClaim := { program := "ytijpienjejfmiaa", sum := "e9ee65d50e9d2e757afcaabcd3eecc221bf71f5379e1372a53164c4ba4ea56c3", func := "abecedary/abecedarylaw21.MarksWrong", spec := "marksWrong", unfollowed := true, recurses := true, apart := false }
def MarksWrongSaid : Prop := marksWrongRow.holds Try.pinned (OpenSpec.ofChange marksWrongSpec)

/-- ITS FALSE NEIGHBOUR: 'it returns false'. Refute it at one input. -/
def marksWrongWrong : ChangeSpec := { name := "marksWrong", fn := fun _ => fun
  | [d1, d2] => { results := [.lit (.bool false)], args := [d1, d2] }
  | _ => none }
def MarksWrongWrongFalsely : Prop := marksWrongRow.holds Try.pinned (OpenSpec.ofChange marksWrongWrong)

/-- 'abecedarylaw21.MarksOver': WHATEVER THE INPUT: true; the input reads as it did. -/
def marksOverSpec : ChangeSpec := { name := "marksOver", fn := fun _ => fun
  | [d1, d2, d3] => { results := [.lit (.bool true)], args := [d1, d2, d3] }
  | _ => none }
def marksOverRow : OpenClaim := { program := "ytijpienjejfmiaa", sum := "e9ee65d50e9d2e757afcaabcd3eecc221bf71f5379e1372a53164c4ba4ea56c3", func := "abecedary/abecedarylaw21.MarksOver", spec := "marksOver", unfollowed := true, recurses := true, apart := false }
def MarksOverSaid : Prop := marksOverRow.holds Try.pinned (OpenSpec.ofChange marksOverSpec)

/-- ITS FALSE NEIGHBOUR: 'it returns false'. Refute it at one input. -/
def marksOverWrong : ChangeSpec := { name := "marksOver", fn := fun _ => fun
  | [d1, d2, d3] => { results := [.lit (.bool false)], args := [d1, d2, d3] }
  | _ => none }
def MarksOverWrongFalsely : Prop := marksOverRow.holds Try.pinned (OpenSpec.ofChange marksOverWrong)

/-- 'abecedarylaw22.RegionPlays': WHATEVER THE INPUT: true; the input reads as it did. -/
def regionPlaysSpec : ChangeSpec := { name := "regionPlays", fn := fun _ => fun
  | [d1, d2] => { results := [.lit (.bool true)], args := [d1, d2] }
  | _ => none }
def regionPlaysRow : OpenClaim := { program := "ytijpienjejfmiaa", sum := "e9ee65d50e9d2e757afcaabcd3eecc221bf71f5379e1372a53164c4ba4ea56c3", func := "abecedary/abecedarylaw22.RegionPlays", spec := "regionPlays", unfollowed := true, recurses := true, apart := false }
def RegionPlaysSaid : Prop := regionPlaysRow.holds Try.pinned (OpenSpec.ofChange regionPlaysSpec)

/-- ITS FALSE NEIGHBOUR: 'it returns false'. Refute it at one input. -/
def regionPlaysWrong : ChangeSpec := { name := "regionPlays", fn := fun _ => fun
  | [d1, d2] => { results := [.lit (.bool false)], args := [d1, d2] }
  | _ => none }
def RegionPlaysWrongFalsely : Prop := regionPlaysRow.holds Try.pinned (OpenSpec.ofChange regionPlaysWrong)

/-- 'abecedarylaw22.RegionNumbers': WHATEVER THE INPUT: true; the input reads as it did. -/
def regionNumbersSpec : ChangeSpec := { name := "regionNumbers", fn := fun _ => fun
  | [d] => { results := [.lit (.bool true)], args := [d] }
  | _ => none }
def regionNumbersRow : OpenClaim := { program := "ytijpienjejfmiaa", sum := "e9ee65d50e9d2e757afcaabcd3eecc221bf71f5379e1372a53164c4ba4ea56c3", func := "abecedary/abecedarylaw22.RegionNumbers", spec := "regionNumbers", unfollowed := true, recurses := true, apart := false }
def RegionNumbersSaid : Prop := regionNumbersRow.holds Try.pinned (OpenSpec.ofChange regionNumbersSpec)

/-- ITS FALSE NEIGHBOUR: 'it returns false'. Refute it at one input. -/
def regionNumbersWrong : ChangeSpec := { name := "regionNumbers", fn := fun _ => fun
  | [d] => { results := [.lit (.bool false)], args := [d] }
  | _ => none }
def RegionNumbersWrongFalsely : Prop := regionNumbersRow.holds Try.pinned (OpenSpec.ofChange regionNumbersWrong)

/-- 'abecedarylaw22.RegionTyped': WHATEVER THE INPUT: true; the input reads as it did. -/
def regionTypedSpec : ChangeSpec := { name := "regionTyped", fn := fun _ => fun
  | [d1, d2, d3, d4, d5] => { results := [.lit (.bool true)], args := [d1, d2, d3, d4, d5] }
  | _ => none }
def regionTypedRow : OpenClaim := { program := "ytijpienjejfmiaa", sum := "e9ee65d50e9d2e757afcaabcd3eecc221bf71f5379e1372a53164c4ba4ea56c3", func := "abecedary/abecedarylaw22.RegionTyped", spec := "regionTyped", unfollowed := true, recurses := true, apart := false }
def RegionTypedSaid : Prop := regionTypedRow.holds Try.pinned (OpenSpec.ofChange regionTypedSpec)

/-- ITS FALSE NEIGHBOUR: 'it returns false'. Refute it at one input. -/
def regionTypedWrong : ChangeSpec := { name := "regionTyped", fn := fun _ => fun
  | [d1, d2, d3, d4, d5] => { results := [.lit (.bool false)], args := [d1, d2, d3, d4, d5] }
  | _ => none }
def RegionTypedWrongFalsely : Prop := regionTypedRow.holds Try.pinned (OpenSpec.ofChange regionTypedWrong)

/-- 'abecedarylaw22.RegionLast': WHATEVER THE INPUT: true; the input reads as it did. -/
def regionLastSpec : ChangeSpec := { name := "regionLast", fn := fun _ => fun
  | [d] => { results := [.lit (.bool true)], args := [d] }
  | _ => none }
def regionLastRow : OpenClaim := { program := "ytijpienjejfmiaa", sum := "e9ee65d50e9d2e757afcaabcd3eecc221bf71f5379e1372a53164c4ba4ea56c3", func := "abecedary/abecedarylaw22.RegionLast", spec := "regionLast", unfollowed := true, recurses := true, apart := false }
def RegionLastSaid : Prop := regionLastRow.holds Try.pinned (OpenSpec.ofChange regionLastSpec)

/-- ITS FALSE NEIGHBOUR: 'it returns false'. Refute it at one input. -/
def regionLastWrong : ChangeSpec := { name := "regionLast", fn := fun _ => fun
  | [d] => { results := [.lit (.bool false)], args := [d] }
  | _ => none }
def RegionLastWrongFalsely : Prop := regionLastRow.holds Try.pinned (OpenSpec.ofChange regionLastWrong)

/-- 'abecedarylaw22.RegionMoves': WHATEVER THE INPUT: true; the input reads as it did. -/
def regionMovesSpec : ChangeSpec := { name := "regionMoves", fn := fun _ => fun
  | [d1, d2] => { results := [.lit (.bool true)], args := [d1, d2] }
  | _ => none }
def regionMovesRow : OpenClaim := { program := "ytijpienjejfmiaa", sum := "e9ee65d50e9d2e757afcaabcd3eecc221bf71f5379e1372a53164c4ba4ea56c3", func := "abecedary/abecedarylaw22.RegionMoves", spec := "regionMoves", unfollowed := true, recurses := true, apart := false }
def RegionMovesSaid : Prop := regionMovesRow.holds Try.pinned (OpenSpec.ofChange regionMovesSpec)

/-- ITS FALSE NEIGHBOUR: 'it returns false'. Refute it at one input. -/
def regionMovesWrong : ChangeSpec := { name := "regionMoves", fn := fun _ => fun
  | [d1, d2] => { results := [.lit (.bool false)], args := [d1, d2] }
  | _ => none }
def RegionMovesWrongFalsely : Prop := regionMovesRow.holds Try.pinned (OpenSpec.ofChange regionMovesWrong)

/- THE SECOND FORM. 'bulk': how many values and letters a reading holds, each counted each time it is reached (what is shared counts as often as it is met; a slice's spare places count too). A statement '..UptoSaid' is the law's where the arguments, and the package variables that the reading takes, are together of bulk at most 1048576: NARROWER than '..Said'. Prove '..Said' where nothing that the law and all that it calls make is longer than what came in: it says more and counts as full. Else prove '..UptoSaid'. A law counts once. -/
mutual
def uptoBulk {H : Type} : DataW H → Nat
  | .lit (.string bytes) => bytes.length + 1
  | .lit _ => 1
  | .nil => 1
  | .ptr d => uptoBulk d + 1
  | .slice elems spare => uptoBulkAll elems + uptoBulkAll spare + 1
  | .agg parts => uptoBulkAll parts + 1
  | .iface _ d => uptoBulk d + 1
  | .map entries => uptoBulkEntries entries + 1
  | .held _ => 1
def uptoBulkAll {H : Type} : List (DataW H) → Nat
  | [] => 0
  | d :: r => uptoBulk d + uptoBulkAll r
def uptoBulkEntries {H : Type} : List (Lit × DataW H) → Nat
  | [] => 0
  | x :: r => uptoBulkEntry x + uptoBulkEntries r
def uptoBulkEntry {H : Type} : Lit × DataW H → Nat
  | (.string bytes, d) => bytes.length + uptoBulk d + 1
  | (_, d) => uptoBulk d + 1
 end
def uptoSmall : (H : Type) → List (DataW H) → Bool := fun _ ds => decide (uptoBulkAll ds ≤ 1048576)
def OpenSpec.upto (s : _root_.Go.ChangeSpec) : _root_.Go.OpenSpec := { _root_.Go.OpenSpec.ofChange s with cond := some uptoSmall }

/-- 'abecedarylaw21.MarksWrong', WHERE WHAT IT READS IS OF BULK AT MOST 1048576: true; the input reads as it did. -/
def marksWrongUptoRow : OpenClaim := { program := "ytijpienjejfmiaa", sum := "e9ee65d50e9d2e757afcaabcd3eecc221bf71f5379e1372a53164c4ba4ea56c3", func := "abecedary/abecedarylaw21.MarksWrong", spec := "marksWrong", unfollowed := true, recurses := true, apart := false, narrowed := true }
def MarksWrongUptoSaid : Prop := marksWrongUptoRow.holds Try.pinned (OpenSpec.upto marksWrongSpec)

/-- 'abecedarylaw21.MarksOver', WHERE WHAT IT READS IS OF BULK AT MOST 1048576: true; the input reads as it did. -/
def marksOverUptoRow : OpenClaim := { program := "ytijpienjejfmiaa", sum := "e9ee65d50e9d2e757afcaabcd3eecc221bf71f5379e1372a53164c4ba4ea56c3", func := "abecedary/abecedarylaw21.MarksOver", spec := "marksOver", unfollowed := true, recurses := true, apart := false, narrowed := true }
def MarksOverUptoSaid : Prop := marksOverUptoRow.holds Try.pinned (OpenSpec.upto marksOverSpec)

/-- 'abecedarylaw22.RegionPlays', WHERE WHAT IT READS IS OF BULK AT MOST 1048576: true; the input reads as it did. -/
def regionPlaysUptoRow : OpenClaim := { program := "ytijpienjejfmiaa", sum := "e9ee65d50e9d2e757afcaabcd3eecc221bf71f5379e1372a53164c4ba4ea56c3", func := "abecedary/abecedarylaw22.RegionPlays", spec := "regionPlays", unfollowed := true, recurses := true, apart := false, narrowed := true }
def RegionPlaysUptoSaid : Prop := regionPlaysUptoRow.holds Try.pinned (OpenSpec.upto regionPlaysSpec)

/-- 'abecedarylaw22.RegionNumbers', WHERE WHAT IT READS IS OF BULK AT MOST 1048576: true; the input reads as it did. -/
def regionNumbersUptoRow : OpenClaim := { program := "ytijpienjejfmiaa", sum := "e9ee65d50e9d2e757afcaabcd3eecc221bf71f5379e1372a53164c4ba4ea56c3", func := "abecedary/abecedarylaw22.RegionNumbers", spec := "regionNumbers", unfollowed := true, recurses := true, apart := false, narrowed := true }
def RegionNumbersUptoSaid : Prop := regionNumbersUptoRow.holds Try.pinned (OpenSpec.upto regionNumbersSpec)

/-- 'abecedarylaw22.RegionTyped', WHERE WHAT IT READS IS OF BULK AT MOST 1048576: true; the input reads as it did. -/
def regionTypedUptoRow : OpenClaim := { program := "ytijpienjejfmiaa", sum := "e9ee65d50e9d2e757afcaabcd3eecc221bf71f5379e1372a53164c4ba4ea56c3", func := "abecedary/abecedarylaw22.RegionTyped", spec := "regionTyped", unfollowed := true, recurses := true, apart := false, narrowed := true }
def RegionTypedUptoSaid : Prop := regionTypedUptoRow.holds Try.pinned (OpenSpec.upto regionTypedSpec)

/-- 'abecedarylaw22.RegionLast', WHERE WHAT IT READS IS OF BULK AT MOST 1048576: true; the input reads as it did. -/
def regionLastUptoRow : OpenClaim := { program := "ytijpienjejfmiaa", sum := "e9ee65d50e9d2e757afcaabcd3eecc221bf71f5379e1372a53164c4ba4ea56c3", func := "abecedary/abecedarylaw22.RegionLast", spec := "regionLast", unfollowed := true, recurses := true, apart := false, narrowed := true }
def RegionLastUptoSaid : Prop := regionLastUptoRow.holds Try.pinned (OpenSpec.upto regionLastSpec)

/-- 'abecedarylaw22.RegionMoves', WHERE WHAT IT READS IS OF BULK AT MOST 1048576: true; the input reads as it did. -/
def regionMovesUptoRow : OpenClaim := { program := "ytijpienjejfmiaa", sum := "e9ee65d50e9d2e757afcaabcd3eecc221bf71f5379e1372a53164c4ba4ea56c3", func := "abecedary/abecedarylaw22.RegionMoves", spec := "regionMoves", unfollowed := true, recurses := true, apart := false, narrowed := true }
def RegionMovesUptoSaid : Prop := regionMovesUptoRow.holds Try.pinned (OpenSpec.upto regionMovesSpec)

end Rows
end Go.Proofs.Ytijpienjejfmiaa
