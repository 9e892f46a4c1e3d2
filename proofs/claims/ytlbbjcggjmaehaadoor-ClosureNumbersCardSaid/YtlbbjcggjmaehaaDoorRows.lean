/-
  NARROWER THAN 'FOR EVERY INPUT', by the rows' own cells (each row's printed sentence says how): ClosureAll: laid · ClosureNumbers: laid · ClosureCounts: laid · ClosureFlags: laid · ClosureGrows: laid.
  DERIVED. THE GIVEN ROWS OF THIS SEAT. 5 by the template 'for every input the law returns true; each argument reads behind the call as it read before'; 0 by the template 'total and deterministic' (their statements: YtlbbjcggjmaehaaDoorTotals.lean).
  GIVEN WITH THE SEED: the statements are not yours to turn. If you find one false, say at which input.
  Laid BY PROGRAM, IN A SANDBOX (cutbox-rows.mjs): the forced cells as the released guide's own fill.sh prints them over the translation 21148cdccd11459e… (all of the seat's roots in one cut). By AI agents, Wed Nov 11 2026. No macro, syntax, notation, axiom, sorry.
-/
import Derived.Test.YtlbbjcggjmaehaaDoorChecked
import GoSem.PinnedTables
import GoSem.Claim
import GoSem.ClaimJoined
import GoSem.ClaimMapViews
import Derived.JoinedTies
import Derived.KernelRfl
namespace Go.Proofs.YtlbbjcggjmaehaaDoor
/- THE CELL 'sum', in the pinned program and in every row, IS THE sha256 OF THE DUMP (.gsa) THAT YtlbbjcggjmaehaaDoorProg.lean LOADS. Nothing in Lean hashes anything: it is a label: what it is worth is what the hold of that sum in a sandbox is worth. -/
noncomputable def Tryd.pinned : Pinned := { name := "ytlbbjcggjmaehaadoor", sum := "21148cdccd11459ef37aa9c430f825a7af9f1d80c4e98d94b2df6c9414487c65", checked := Tryd.checked }
namespace Rows
def none {H : Type} : Left H := { results := [], args := [] }

/- WHAT THE LISTED PACKAGE-LEVEL VARIABLES READ AS WHEN THE CALL BEGINS. Each datum BY PROGRAM (the guide's laid-datum.mjs) off the statement by which the dump's own 'gosem.cut.vars' lays the variable. In a bare row this is a premise. The card (YtlbbjcggjmaehaaDoorCards.lean) ties it to the program's text. -/
def laid_unicode_utf8_acceptRanges {H : Type} : DataW H := .agg [.agg [.lit (.int .u8 128), .lit (.int .u8 191)], .agg [.lit (.int .u8 160), .lit (.int .u8 191)], .agg [.lit (.int .u8 128), .lit (.int .u8 159)], .agg [.lit (.int .u8 144), .lit (.int .u8 191)], .agg [.lit (.int .u8 128), .lit (.int .u8 143)], .agg [.lit (.int .u8 0), .lit (.int .u8 0)], .agg [.lit (.int .u8 0), .lit (.int .u8 0)], .agg [.lit (.int .u8 0), .lit (.int .u8 0)], .agg [.lit (.int .u8 0), .lit (.int .u8 0)], .agg [.lit (.int .u8 0), .lit (.int .u8 0)], .agg [.lit (.int .u8 0), .lit (.int .u8 0)], .agg [.lit (.int .u8 0), .lit (.int .u8 0)], .agg [.lit (.int .u8 0), .lit (.int .u8 0)], .agg [.lit (.int .u8 0), .lit (.int .u8 0)], .agg [.lit (.int .u8 0), .lit (.int .u8 0)], .agg [.lit (.int .u8 0), .lit (.int .u8 0)]]
/-- One of Go's own tables, pinned by name: the form's constant. -/
def laid_unicode_utf8_first : DataW Unit := Go.Pinned.utf8First

/-- 'abecedarylaw13.ClosureAll': WHATEVER THE INPUT: true; the input reads as it did. -/
def closureAllSpec : ChangeSpec := { name := "closureAll", fn := fun _ => fun
  | [d1, d2] => { results := [.lit (.bool true)], args := [d1, d2] }
  | _ => none }
def closureAllRow : OpenClaim := { program := "ytlbbjcggjmaehaadoor", sum := "21148cdccd11459ef37aa9c430f825a7af9f1d80c4e98d94b2df6c9414487c65", func := "abecedary/abecedarylaw13.ClosureAll", spec := "closureAll", unfollowed := true, recurses := true, named := ["unicode/utf8.first", "unicode/utf8.acceptRanges"], apart := false, laid := [("unicode/utf8.acceptRanges", laid_unicode_utf8_acceptRanges), ("unicode/utf8.first", laid_unicode_utf8_first)] }
def ClosureAllSaid : Prop := closureAllRow.holds Tryd.pinned (OpenSpec.ofChange closureAllSpec)

/-- ITS FALSE NEIGHBOUR: 'it returns false'. Refute it at one input. -/
def closureAllWrong : ChangeSpec := { name := "closureAll", fn := fun _ => fun
  | [d1, d2] => { results := [.lit (.bool false)], args := [d1, d2] }
  | _ => none }
def ClosureAllWrongFalsely : Prop := closureAllRow.holds Tryd.pinned (OpenSpec.ofChange closureAllWrong)

/-- 'abecedarylaw13.ClosureNumbers': WHATEVER THE INPUT: true; the input reads as it did. -/
def closureNumbersSpec : ChangeSpec := { name := "closureNumbers", fn := fun _ => fun
  | [d1, d2, d3] => { results := [.lit (.bool true)], args := [d1, d2, d3] }
  | _ => none }
def closureNumbersRow : OpenClaim := { program := "ytlbbjcggjmaehaadoor", sum := "21148cdccd11459ef37aa9c430f825a7af9f1d80c4e98d94b2df6c9414487c65", func := "abecedary/abecedarylaw13.ClosureNumbers", spec := "closureNumbers", unfollowed := true, recurses := true, named := ["unicode/utf8.first", "unicode/utf8.acceptRanges"], apart := false, laid := [("unicode/utf8.acceptRanges", laid_unicode_utf8_acceptRanges), ("unicode/utf8.first", laid_unicode_utf8_first)] }
def ClosureNumbersSaid : Prop := closureNumbersRow.holds Tryd.pinned (OpenSpec.ofChange closureNumbersSpec)

/-- ITS FALSE NEIGHBOUR: 'it returns false'. Refute it at one input. -/
def closureNumbersWrong : ChangeSpec := { name := "closureNumbers", fn := fun _ => fun
  | [d1, d2, d3] => { results := [.lit (.bool false)], args := [d1, d2, d3] }
  | _ => none }
def ClosureNumbersWrongFalsely : Prop := closureNumbersRow.holds Tryd.pinned (OpenSpec.ofChange closureNumbersWrong)

/-- 'abecedarylaw13.ClosureCounts': WHATEVER THE INPUT: true; the input reads as it did. -/
def closureCountsSpec : ChangeSpec := { name := "closureCounts", fn := fun _ => fun
  | [d1, d2, d3] => { results := [.lit (.bool true)], args := [d1, d2, d3] }
  | _ => none }
def closureCountsRow : OpenClaim := { program := "ytlbbjcggjmaehaadoor", sum := "21148cdccd11459ef37aa9c430f825a7af9f1d80c4e98d94b2df6c9414487c65", func := "abecedary/abecedarylaw13.ClosureCounts", spec := "closureCounts", unfollowed := true, recurses := true, named := ["unicode/utf8.first", "unicode/utf8.acceptRanges"], apart := false, laid := [("unicode/utf8.acceptRanges", laid_unicode_utf8_acceptRanges), ("unicode/utf8.first", laid_unicode_utf8_first)] }
def ClosureCountsSaid : Prop := closureCountsRow.holds Tryd.pinned (OpenSpec.ofChange closureCountsSpec)

/-- ITS FALSE NEIGHBOUR: 'it returns false'. Refute it at one input. -/
def closureCountsWrong : ChangeSpec := { name := "closureCounts", fn := fun _ => fun
  | [d1, d2, d3] => { results := [.lit (.bool false)], args := [d1, d2, d3] }
  | _ => none }
def ClosureCountsWrongFalsely : Prop := closureCountsRow.holds Tryd.pinned (OpenSpec.ofChange closureCountsWrong)

/-- 'abecedarylaw13.ClosureFlags': WHATEVER THE INPUT: true; the input reads as it did. -/
def closureFlagsSpec : ChangeSpec := { name := "closureFlags", fn := fun _ => fun
  | [d1, d2, d3] => { results := [.lit (.bool true)], args := [d1, d2, d3] }
  | _ => none }
def closureFlagsRow : OpenClaim := { program := "ytlbbjcggjmaehaadoor", sum := "21148cdccd11459ef37aa9c430f825a7af9f1d80c4e98d94b2df6c9414487c65", func := "abecedary/abecedarylaw13.ClosureFlags", spec := "closureFlags", unfollowed := true, recurses := true, named := ["unicode/utf8.first", "unicode/utf8.acceptRanges"], apart := false, laid := [("unicode/utf8.acceptRanges", laid_unicode_utf8_acceptRanges), ("unicode/utf8.first", laid_unicode_utf8_first)] }
def ClosureFlagsSaid : Prop := closureFlagsRow.holds Tryd.pinned (OpenSpec.ofChange closureFlagsSpec)

/-- ITS FALSE NEIGHBOUR: 'it returns false'. Refute it at one input. -/
def closureFlagsWrong : ChangeSpec := { name := "closureFlags", fn := fun _ => fun
  | [d1, d2, d3] => { results := [.lit (.bool false)], args := [d1, d2, d3] }
  | _ => none }
def ClosureFlagsWrongFalsely : Prop := closureFlagsRow.holds Tryd.pinned (OpenSpec.ofChange closureFlagsWrong)

/-- 'abecedarylaw13.ClosureGrows': WHATEVER THE INPUT: true; the input reads as it did. -/
def closureGrowsSpec : ChangeSpec := { name := "closureGrows", fn := fun _ => fun
  | [d1, d2] => { results := [.lit (.bool true)], args := [d1, d2] }
  | _ => none }
def closureGrowsRow : OpenClaim := { program := "ytlbbjcggjmaehaadoor", sum := "21148cdccd11459ef37aa9c430f825a7af9f1d80c4e98d94b2df6c9414487c65", func := "abecedary/abecedarylaw13.ClosureGrows", spec := "closureGrows", unfollowed := true, recurses := true, named := ["unicode/utf8.first", "unicode/utf8.acceptRanges"], apart := false, laid := [("unicode/utf8.acceptRanges", laid_unicode_utf8_acceptRanges), ("unicode/utf8.first", laid_unicode_utf8_first)] }
def ClosureGrowsSaid : Prop := closureGrowsRow.holds Tryd.pinned (OpenSpec.ofChange closureGrowsSpec)

/-- ITS FALSE NEIGHBOUR: 'it returns false'. Refute it at one input. -/
def closureGrowsWrong : ChangeSpec := { name := "closureGrows", fn := fun _ => fun
  | [d1, d2] => { results := [.lit (.bool false)], args := [d1, d2] }
  | _ => none }
def ClosureGrowsWrongFalsely : Prop := closureGrowsRow.holds Tryd.pinned (OpenSpec.ofChange closureGrowsWrong)

/- THE SECOND FORM. 'bulk': how many values and letters a reading holds, each counted each time it is reached (what is shared counts as often as it is met; a slice's spare places count too). A statement '..UptoSaid' is the law's where the arguments, and the package variables that the reading takes, are together of bulk at most 1048576: NARROWER than '..Said'. Prove '..Said' where nothing that the law and all that it calls make is longer than what came in: it says more and counts as full. Else prove '..UptoSaid'. A law counts once. -/
mutual
def uptoBulk {H : Type} : DataW H → Nat
  | .lit (.string bytes) => bytes.length + 1
  | .lit _ => 1
  | .nil => 1
  | .ptr d => uptoBulk d + 1
  | .slice elems spare => uptoBulkAll elems + uptoBulkAll spare + 1
  | .agg parts => uptoBulkAll parts + 1
  | .iface _ d => uptoBulk d + 1
  | .map entries => uptoBulkEntries entries + 1
  | .held _ => 1
def uptoBulkAll {H : Type} : List (DataW H) → Nat
  | [] => 0
  | d :: r => uptoBulk d + uptoBulkAll r
def uptoBulkEntries {H : Type} : List (Lit × DataW H) → Nat
  | [] => 0
  | x :: r => uptoBulkEntry x + uptoBulkEntries r
def uptoBulkEntry {H : Type} : Lit × DataW H → Nat
  | (.string bytes, d) => bytes.length + uptoBulk d + 1
  | (_, d) => uptoBulk d + 1
 end
def uptoSmall : (H : Type) → List (DataW H) → Bool := fun _ ds => decide (uptoBulkAll ds ≤ 1048576)
def OpenSpec.upto (s : _root_.Go.ChangeSpec) : _root_.Go.OpenSpec := { _root_.Go.OpenSpec.ofChange s with cond := some uptoSmall }

/-- 'abecedarylaw13.ClosureAll', WHERE WHAT IT READS IS OF BULK AT MOST 1048576: true; the input reads as it did. -/
def closureAllUptoRow : OpenClaim := { program := "ytlbbjcggjmaehaadoor", sum := "21148cdccd11459ef37aa9c430f825a7af9f1d80c4e98d94b2df6c9414487c65", func := "abecedary/abecedarylaw13.ClosureAll", spec := "closureAll", unfollowed := true, recurses := true, named := ["unicode/utf8.first", "unicode/utf8.acceptRanges"], apart := false, laid := [("unicode/utf8.acceptRanges", laid_unicode_utf8_acceptRanges), ("unicode/utf8.first", laid_unicode_utf8_first)], narrowed := true }
def ClosureAllUptoSaid : Prop := closureAllUptoRow.holds Tryd.pinned (OpenSpec.upto closureAllSpec)

/-- 'abecedarylaw13.ClosureNumbers', WHERE WHAT IT READS IS OF BULK AT MOST 1048576: true; the input reads as it did. -/
def closureNumbersUptoRow : OpenClaim := { program := "ytlbbjcggjmaehaadoor", sum := "21148cdccd11459ef37aa9c430f825a7af9f1d80c4e98d94b2df6c9414487c65", func := "abecedary/abecedarylaw13.ClosureNumbers", spec := "closureNumbers", unfollowed := true, recurses := true, named := ["unicode/utf8.first", "unicode/utf8.acceptRanges"], apart := false, laid := [("unicode/utf8.acceptRanges", laid_unicode_utf8_acceptRanges), ("unicode/utf8.first", laid_unicode_utf8_first)], narrowed := true }
def ClosureNumbersUptoSaid : Prop := closureNumbersUptoRow.holds Tryd.pinned (OpenSpec.upto closureNumbersSpec)

/-- 'abecedarylaw13.ClosureCounts', WHERE WHAT IT READS IS OF BULK AT MOST 1048576: true; the input reads as it did. -/
def closureCountsUptoRow : OpenClaim := { program := "ytlbbjcggjmaehaadoor", sum := "21148cdccd11459ef37aa9c430f825a7af9f1d80c4e98d94b2df6c9414487c65", func := "abecedary/abecedarylaw13.ClosureCounts", spec := "closureCounts", unfollowed := true, recurses := true, named := ["unicode/utf8.first", "unicode/utf8.acceptRanges"], apart := false, laid := [("unicode/utf8.acceptRanges", laid_unicode_utf8_acceptRanges), ("unicode/utf8.first", laid_unicode_utf8_first)], narrowed := true }
def ClosureCountsUptoSaid : Prop := closureCountsUptoRow.holds Tryd.pinned (OpenSpec.upto closureCountsSpec)

/-- 'abecedarylaw13.ClosureFlags', WHERE WHAT IT READS IS OF BULK AT MOST 1048576: true; the input reads as it did. -/
def closureFlagsUptoRow : OpenClaim := { program := "ytlbbjcggjmaehaadoor", sum := "21148cdccd11459ef37aa9c430f825a7af9f1d80c4e98d94b2df6c9414487c65", func := "abecedary/abecedarylaw13.ClosureFlags", spec := "closureFlags", unfollowed := true, recurses := true, named := ["unicode/utf8.first", "unicode/utf8.acceptRanges"], apart := false, laid := [("unicode/utf8.acceptRanges", laid_unicode_utf8_acceptRanges), ("unicode/utf8.first", laid_unicode_utf8_first)], narrowed := true }
def ClosureFlagsUptoSaid : Prop := closureFlagsUptoRow.holds Tryd.pinned (OpenSpec.upto closureFlagsSpec)

/-- 'abecedarylaw13.ClosureGrows', WHERE WHAT IT READS IS OF BULK AT MOST 1048576: true; the input reads as it did. -/
def closureGrowsUptoRow : OpenClaim := { program := "ytlbbjcggjmaehaadoor", sum := "21148cdccd11459ef37aa9c430f825a7af9f1d80c4e98d94b2df6c9414487c65", func := "abecedary/abecedarylaw13.ClosureGrows", spec := "closureGrows", unfollowed := true, recurses := true, named := ["unicode/utf8.first", "unicode/utf8.acceptRanges"], apart := false, laid := [("unicode/utf8.acceptRanges", laid_unicode_utf8_acceptRanges), ("unicode/utf8.first", laid_unicode_utf8_first)], narrowed := true }
def ClosureGrowsUptoSaid : Prop := closureGrowsUptoRow.holds Tryd.pinned (OpenSpec.upto closureGrowsSpec)

end Rows
end Go.Proofs.YtlbbjcggjmaehaaDoor
