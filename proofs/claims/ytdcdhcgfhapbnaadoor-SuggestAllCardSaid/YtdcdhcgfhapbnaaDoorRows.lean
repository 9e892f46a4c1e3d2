/-
  NARROWER THAN 'FOR EVERY INPUT', by the rows' own cells (each row's printed sentence says how): SuggestAll: laid · SuggestNumbers: laid · SuggestOrder: laid · SuggestCuts: laid · SuggestLong: laid.
  DERIVED. THE GIVEN ROWS OF THIS SEAT. 5 by the template 'for every input the law returns true; each argument reads behind the call as it read before'; 0 by the template 'total and deterministic' (their statements: YtdcdhcgfhapbnaaDoorTotals.lean).
  GIVEN WITH THE SEED: the statements are not yours to turn. If you find one false, say at which input.
  Laid BY PROGRAM, IN A SANDBOX (cutbox-rows.mjs): the forced cells as the released guide's own fill.sh prints them over the translation 49d4ee7286e98932… (all of the seat's roots in one cut). By AI agents, Wed Nov 11 2026. No macro, syntax, notation, axiom, sorry.
-/
import Derived.Test.YtdcdhcgfhapbnaaDoorChecked
import GoSem.PinnedTables
import GoSem.Claim
import GoSem.ClaimJoined
import GoSem.ClaimMapViews
import Derived.JoinedTies
import Derived.KernelRfl
namespace Go.Proofs.YtdcdhcgfhapbnaaDoor
/- THE CELL 'sum', in the pinned program and in every row, IS THE sha256 OF THE DUMP (.gsa) THAT YtdcdhcgfhapbnaaDoorProg.lean LOADS. Nothing in Lean hashes anything: it is a label: what it is worth is what the hold of that sum in a sandbox is worth. -/
noncomputable def Tryd.pinned : Pinned := { name := "ytdcdhcgfhapbnaadoor", sum := "49d4ee7286e98932769296fc2a9c29e4ef565d770dc0e4cc1d410a4c85479ac1", checked := Tryd.checked }
namespace Rows
def none {H : Type} : Left H := { results := [], args := [] }

/- WHAT THE LISTED PACKAGE-LEVEL VARIABLES READ AS WHEN THE CALL BEGINS. Each datum BY PROGRAM (the guide's laid-datum.mjs) off the statement by which the dump's own 'gosem.cut.vars' lays the variable. In a bare row this is a premise. The card (YtdcdhcgfhapbnaaDoorCards.lean) ties it to the program's text. -/
def laid_unicode_utf8_acceptRanges {H : Type} : DataW H := .agg [.agg [.lit (.int .u8 128), .lit (.int .u8 191)], .agg [.lit (.int .u8 160), .lit (.int .u8 191)], .agg [.lit (.int .u8 128), .lit (.int .u8 159)], .agg [.lit (.int .u8 144), .lit (.int .u8 191)], .agg [.lit (.int .u8 128), .lit (.int .u8 143)], .agg [.lit (.int .u8 0), .lit (.int .u8 0)], .agg [.lit (.int .u8 0), .lit (.int .u8 0)], .agg [.lit (.int .u8 0), .lit (.int .u8 0)], .agg [.lit (.int .u8 0), .lit (.int .u8 0)], .agg [.lit (.int .u8 0), .lit (.int .u8 0)], .agg [.lit (.int .u8 0), .lit (.int .u8 0)], .agg [.lit (.int .u8 0), .lit (.int .u8 0)], .agg [.lit (.int .u8 0), .lit (.int .u8 0)], .agg [.lit (.int .u8 0), .lit (.int .u8 0)], .agg [.lit (.int .u8 0), .lit (.int .u8 0)], .agg [.lit (.int .u8 0), .lit (.int .u8 0)]]
/-- One of Go's own tables, pinned by name: the form's constant. -/
def laid_unicode_utf8_first : DataW Unit := Go.Pinned.utf8First

/-- 'abecedarylaw19.SuggestAll': WHATEVER THE INPUT: true; the input reads as it did. -/
def suggestAllSpec : ChangeSpec := { name := "suggestAll", fn := fun _ => fun
  | [d1, d2, d3, d4] => { results := [.lit (.bool true)], args := [d1, d2, d3, d4] }
  | _ => none }
def suggestAllRow : OpenClaim := { program := "ytdcdhcgfhapbnaadoor", sum := "49d4ee7286e98932769296fc2a9c29e4ef565d770dc0e4cc1d410a4c85479ac1", func := "abecedary/abecedarylaw19.SuggestAll", spec := "suggestAll", inPlace := ["internal/abi.NoEscape", "internal/bytealg.abigen_runtime_cmpstring"], unfollowed := true, recurses := true, named := ["unicode/utf8.first", "unicode/utf8.acceptRanges"], plainKeys := false, apart := false, laid := [("unicode/utf8.acceptRanges", laid_unicode_utf8_acceptRanges), ("unicode/utf8.first", laid_unicode_utf8_first)] }
def SuggestAllSaid : Prop := suggestAllRow.holds Tryd.pinned (OpenSpec.ofChange suggestAllSpec)

/-- ITS FALSE NEIGHBOUR: 'it returns false'. Refute it at one input. -/
def suggestAllWrong : ChangeSpec := { name := "suggestAll", fn := fun _ => fun
  | [d1, d2, d3, d4] => { results := [.lit (.bool false)], args := [d1, d2, d3, d4] }
  | _ => none }
def SuggestAllWrongFalsely : Prop := suggestAllRow.holds Tryd.pinned (OpenSpec.ofChange suggestAllWrong)

/-- 'abecedarylaw19.SuggestNumbers': WHATEVER THE INPUT: true; the input reads as it did. -/
def suggestNumbersSpec : ChangeSpec := { name := "suggestNumbers", fn := fun _ => fun
  | [d1, d2, d3, d4] => { results := [.lit (.bool true)], args := [d1, d2, d3, d4] }
  | _ => none }
def suggestNumbersRow : OpenClaim := { program := "ytdcdhcgfhapbnaadoor", sum := "49d4ee7286e98932769296fc2a9c29e4ef565d770dc0e4cc1d410a4c85479ac1", func := "abecedary/abecedarylaw19.SuggestNumbers", spec := "suggestNumbers", inPlace := ["internal/abi.NoEscape", "internal/bytealg.abigen_runtime_cmpstring"], unfollowed := true, recurses := true, named := ["unicode/utf8.first", "unicode/utf8.acceptRanges"], plainKeys := false, apart := false, laid := [("unicode/utf8.acceptRanges", laid_unicode_utf8_acceptRanges), ("unicode/utf8.first", laid_unicode_utf8_first)] }
def SuggestNumbersSaid : Prop := suggestNumbersRow.holds Tryd.pinned (OpenSpec.ofChange suggestNumbersSpec)

/-- ITS FALSE NEIGHBOUR: 'it returns false'. Refute it at one input. -/
def suggestNumbersWrong : ChangeSpec := { name := "suggestNumbers", fn := fun _ => fun
  | [d1, d2, d3, d4] => { results := [.lit (.bool false)], args := [d1, d2, d3, d4] }
  | _ => none }
def SuggestNumbersWrongFalsely : Prop := suggestNumbersRow.holds Tryd.pinned (OpenSpec.ofChange suggestNumbersWrong)

/-- 'abecedarylaw19.SuggestOrder': WHATEVER THE INPUT: true; the input reads as it did. -/
def suggestOrderSpec : ChangeSpec := { name := "suggestOrder", fn := fun _ => fun
  | [d1, d2, d3] => { results := [.lit (.bool true)], args := [d1, d2, d3] }
  | _ => none }
def suggestOrderRow : OpenClaim := { program := "ytdcdhcgfhapbnaadoor", sum := "49d4ee7286e98932769296fc2a9c29e4ef565d770dc0e4cc1d410a4c85479ac1", func := "abecedary/abecedarylaw19.SuggestOrder", spec := "suggestOrder", inPlace := ["internal/abi.NoEscape", "internal/bytealg.abigen_runtime_cmpstring"], unfollowed := true, recurses := true, named := ["unicode/utf8.first", "unicode/utf8.acceptRanges"], plainKeys := false, apart := false, laid := [("unicode/utf8.acceptRanges", laid_unicode_utf8_acceptRanges), ("unicode/utf8.first", laid_unicode_utf8_first)] }
def SuggestOrderSaid : Prop := suggestOrderRow.holds Tryd.pinned (OpenSpec.ofChange suggestOrderSpec)

/-- ITS FALSE NEIGHBOUR: 'it returns false'. Refute it at one input. -/
def suggestOrderWrong : ChangeSpec := { name := "suggestOrder", fn := fun _ => fun
  | [d1, d2, d3] => { results := [.lit (.bool false)], args := [d1, d2, d3] }
  | _ => none }
def SuggestOrderWrongFalsely : Prop := suggestOrderRow.holds Tryd.pinned (OpenSpec.ofChange suggestOrderWrong)

/-- 'abecedarylaw19.SuggestCuts': WHATEVER THE INPUT: true; the input reads as it did. -/
def suggestCutsSpec : ChangeSpec := { name := "suggestCuts", fn := fun _ => fun
  | [d1, d2] => { results := [.lit (.bool true)], args := [d1, d2] }
  | _ => none }
def suggestCutsRow : OpenClaim := { program := "ytdcdhcgfhapbnaadoor", sum := "49d4ee7286e98932769296fc2a9c29e4ef565d770dc0e4cc1d410a4c85479ac1", func := "abecedary/abecedarylaw19.SuggestCuts", spec := "suggestCuts", inPlace := ["internal/abi.NoEscape", "internal/bytealg.abigen_runtime_cmpstring"], unfollowed := true, recurses := true, named := ["unicode/utf8.first", "unicode/utf8.acceptRanges"], plainKeys := false, apart := false, laid := [("unicode/utf8.acceptRanges", laid_unicode_utf8_acceptRanges), ("unicode/utf8.first", laid_unicode_utf8_first)] }
def SuggestCutsSaid : Prop := suggestCutsRow.holds Tryd.pinned (OpenSpec.ofChange suggestCutsSpec)

/-- ITS FALSE NEIGHBOUR: 'it returns false'. Refute it at one input. -/
def suggestCutsWrong : ChangeSpec := { name := "suggestCuts", fn := fun _ => fun
  | [d1, d2] => { results := [.lit (.bool false)], args := [d1, d2] }
  | _ => none }
def SuggestCutsWrongFalsely : Prop := suggestCutsRow.holds Tryd.pinned (OpenSpec.ofChange suggestCutsWrong)

/-- 'abecedarylaw19.SuggestLong': WHATEVER THE INPUT: true; the input reads as it did. -/
def suggestLongSpec : ChangeSpec := { name := "suggestLong", fn := fun _ => fun
  | [d1, d2] => { results := [.lit (.bool true)], args := [d1, d2] }
  | _ => none }
def suggestLongRow : OpenClaim := { program := "ytdcdhcgfhapbnaadoor", sum := "49d4ee7286e98932769296fc2a9c29e4ef565d770dc0e4cc1d410a4c85479ac1", func := "abecedary/abecedarylaw19.SuggestLong", spec := "suggestLong", inPlace := ["internal/abi.NoEscape", "internal/bytealg.abigen_runtime_cmpstring"], unfollowed := true, recurses := true, named := ["unicode/utf8.first", "unicode/utf8.acceptRanges"], plainKeys := false, apart := false, laid := [("unicode/utf8.acceptRanges", laid_unicode_utf8_acceptRanges), ("unicode/utf8.first", laid_unicode_utf8_first)] }
def SuggestLongSaid : Prop := suggestLongRow.holds Tryd.pinned (OpenSpec.ofChange suggestLongSpec)

/-- ITS FALSE NEIGHBOUR: 'it returns false'. Refute it at one input. -/
def suggestLongWrong : ChangeSpec := { name := "suggestLong", fn := fun _ => fun
  | [d1, d2] => { results := [.lit (.bool false)], args := [d1, d2] }
  | _ => none }
def SuggestLongWrongFalsely : Prop := suggestLongRow.holds Tryd.pinned (OpenSpec.ofChange suggestLongWrong)

/- THE SECOND FORM. 'bulk': how many values and letters a reading holds, each counted each time it is reached (what is shared counts as often as it is met; a slice's spare places count too). A statement '..UptoSaid' is the law's where the arguments, and the package variables that the reading takes, are together of bulk at most 1048576: NARROWER than '..Said'. Prove '..Said' where nothing that the law and all that it calls make is longer than what came in: it says more and counts as full. Else prove '..UptoSaid'. A law counts once. -/
mutual
def uptoBulk {H : Type} : DataW H → Nat
  | .lit (.string bytes) => bytes.length + 1
  | .lit _ => 1
  | .nil => 1
  | .ptr d => uptoBulk d + 1
  | .slice elems spare => uptoBulkAll elems + uptoBulkAll spare + 1
  | .agg parts => uptoBulkAll parts + 1
  | .iface _ d => uptoBulk d + 1
  | .map entries => uptoBulkEntries entries + 1
  | .held _ => 1
def uptoBulkAll {H : Type} : List (DataW H) → Nat
  | [] => 0
  | d :: r => uptoBulk d + uptoBulkAll r
def uptoBulkEntries {H : Type} : List (Lit × DataW H) → Nat
  | [] => 0
  | x :: r => uptoBulkEntry x + uptoBulkEntries r
def uptoBulkEntry {H : Type} : Lit × DataW H → Nat
  | (.string bytes, d) => bytes.length + uptoBulk d + 1
  | (_, d) => uptoBulk d + 1
 end
def uptoSmall : (H : Type) → List (DataW H) → Bool := fun _ ds => decide (uptoBulkAll ds ≤ 1048576)
def OpenSpec.upto (s : _root_.Go.ChangeSpec) : _root_.Go.OpenSpec := { _root_.Go.OpenSpec.ofChange s with cond := some uptoSmall }

/-- 'abecedarylaw19.SuggestAll', WHERE WHAT IT READS IS OF BULK AT MOST 1048576: true; the input reads as it did. -/
def suggestAllUptoRow : OpenClaim := { program := "ytdcdhcgfhapbnaadoor", sum := "49d4ee7286e98932769296fc2a9c29e4ef565d770dc0e4cc1d410a4c85479ac1", func := "abecedary/abecedarylaw19.SuggestAll", spec := "suggestAll", inPlace := ["internal/abi.NoEscape", "internal/bytealg.abigen_runtime_cmpstring"], unfollowed := true, recurses := true, named := ["unicode/utf8.first", "unicode/utf8.acceptRanges"], plainKeys := false, apart := false, laid := [("unicode/utf8.acceptRanges", laid_unicode_utf8_acceptRanges), ("unicode/utf8.first", laid_unicode_utf8_first)], narrowed := true }
def SuggestAllUptoSaid : Prop := suggestAllUptoRow.holds Tryd.pinned (OpenSpec.upto suggestAllSpec)

/-- 'abecedarylaw19.SuggestNumbers', WHERE WHAT IT READS IS OF BULK AT MOST 1048576: true; the input reads as it did. -/
def suggestNumbersUptoRow : OpenClaim := { program := "ytdcdhcgfhapbnaadoor", sum := "49d4ee7286e98932769296fc2a9c29e4ef565d770dc0e4cc1d410a4c85479ac1", func := "abecedary/abecedarylaw19.SuggestNumbers", spec := "suggestNumbers", inPlace := ["internal/abi.NoEscape", "internal/bytealg.abigen_runtime_cmpstring"], unfollowed := true, recurses := true, named := ["unicode/utf8.first", "unicode/utf8.acceptRanges"], plainKeys := false, apart := false, laid := [("unicode/utf8.acceptRanges", laid_unicode_utf8_acceptRanges), ("unicode/utf8.first", laid_unicode_utf8_first)], narrowed := true }
def SuggestNumbersUptoSaid : Prop := suggestNumbersUptoRow.holds Tryd.pinned (OpenSpec.upto suggestNumbersSpec)

/-- 'abecedarylaw19.SuggestOrder', WHERE WHAT IT READS IS OF BULK AT MOST 1048576: true; the input reads as it did. -/
def suggestOrderUptoRow : OpenClaim := { program := "ytdcdhcgfhapbnaadoor", sum := "49d4ee7286e98932769296fc2a9c29e4ef565d770dc0e4cc1d410a4c85479ac1", func := "abecedary/abecedarylaw19.SuggestOrder", spec := "suggestOrder", inPlace := ["internal/abi.NoEscape", "internal/bytealg.abigen_runtime_cmpstring"], unfollowed := true, recurses := true, named := ["unicode/utf8.first", "unicode/utf8.acceptRanges"], plainKeys := false, apart := false, laid := [("unicode/utf8.acceptRanges", laid_unicode_utf8_acceptRanges), ("unicode/utf8.first", laid_unicode_utf8_first)], narrowed := true }
def SuggestOrderUptoSaid : Prop := suggestOrderUptoRow.holds Tryd.pinned (OpenSpec.upto suggestOrderSpec)

/-- 'abecedarylaw19.SuggestCuts', WHERE WHAT IT READS IS OF BULK AT MOST 1048576: true; the input reads as it did. -/
def suggestCutsUptoRow : OpenClaim := { program := "ytdcdhcgfhapbnaadoor", sum := "49d4ee7286e98932769296fc2a9c29e4ef565d770dc0e4cc1d410a4c85479ac1", func := "abecedary/abecedarylaw19.SuggestCuts", spec := "suggestCuts", inPlace := ["internal/abi.NoEscape", "internal/bytealg.abigen_runtime_cmpstring"], unfollowed := true, recurses := true, named := ["unicode/utf8.first", "unicode/utf8.acceptRanges"], plainKeys := false, apart := false, laid := [("unicode/utf8.acceptRanges", laid_unicode_utf8_acceptRanges), ("unicode/utf8.first", laid_unicode_utf8_first)], narrowed := true }
def SuggestCutsUptoSaid : Prop := suggestCutsUptoRow.holds Tryd.pinned (OpenSpec.upto suggestCutsSpec)

/-- 'abecedarylaw19.SuggestLong', WHERE WHAT IT READS IS OF BULK AT MOST 1048576: true; the input reads as it did. -/
def suggestLongUptoRow : OpenClaim := { program := "ytdcdhcgfhapbnaadoor", sum := "49d4ee7286e98932769296fc2a9c29e4ef565d770dc0e4cc1d410a4c85479ac1", func := "abecedary/abecedarylaw19.SuggestLong", spec := "suggestLong", inPlace := ["internal/abi.NoEscape", "internal/bytealg.abigen_runtime_cmpstring"], unfollowed := true, recurses := true, named := ["unicode/utf8.first", "unicode/utf8.acceptRanges"], plainKeys := false, apart := false, laid := [("unicode/utf8.acceptRanges", laid_unicode_utf8_acceptRanges), ("unicode/utf8.first", laid_unicode_utf8_first)], narrowed := true }
def SuggestLongUptoSaid : Prop := suggestLongUptoRow.holds Tryd.pinned (OpenSpec.upto suggestLongSpec)

end Rows
end Go.Proofs.YtdcdhcgfhapbnaaDoor
