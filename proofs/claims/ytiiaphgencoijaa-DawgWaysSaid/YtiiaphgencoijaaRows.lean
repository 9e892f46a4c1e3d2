/-
  No cell of these rows narrows 'for every input' (looked for: loops, veiled, ifaces, maps, wideKeys, modest, calm, conditions, laid).
  DERIVED. THE GIVEN ROWS OF THIS SEAT. 9 by the template 'for every input the law returns true; each argument reads behind the call as it read before'; 0 by the template 'total and deterministic' (their statements: YtiiaphgencoijaaTotals.lean).
  GIVEN WITH THE SEED: the statements are not yours to turn. If you find one false, say at which input.
  Laid BY PROGRAM, IN A SANDBOX (cutbox-rows.mjs): the forced cells as the released guide's own fill.sh prints them over the translation 755baa269e8c9f4f… (all of the seat's roots in one cut). By AI agents, Wed Nov 11 2026. No macro, syntax, notation, axiom, sorry.
-/
import Derived.Test.YtiiaphgencoijaaChecked
import GoSem.Claim
import GoSem.ClaimJoined
import GoSem.ClaimMapViews
import Derived.JoinedTies
import Derived.KernelRfl
namespace Go.Proofs.Ytiiaphgencoijaa
/- THE CELL 'sum', in the pinned program and in every row, IS THE sha256 OF THE DUMP (.gsa) THAT YtiiaphgencoijaaProg.lean LOADS. Nothing in Lean hashes anything: it is a label: what it is worth is what the hold of that sum in a sandbox is worth. -/
noncomputable def Try.pinned : Pinned := { name := "ytiiaphgencoijaa", sum := "755baa269e8c9f4f08d865c6d949913c035bad6645372f75057b447257729186", checked := Try.checked }
namespace Rows
def none {H : Type} : Left H := { results := [], args := [] }

/-- 'abecedarylaw08.HistoryPlays': WHATEVER THE INPUT: true; the input reads as it did. -/
def historyPlaysSpec : ChangeSpec := { name := "historyPlays", fn := fun _ => fun
  | [d1, d2, d3] => { results := [.lit (.bool true)], args := [d1, d2, d3] }
  | _ => none }
def historyPlaysRow : OpenClaim := { program := "ytiiaphgencoijaa", sum := "755baa269e8c9f4f08d865c6d949913c035bad6645372f75057b447257729186", func := "abecedary/abecedarylaw08.HistoryPlays", spec := "historyPlays", plainKeys := false, apart := false }
def HistoryPlaysSaid : Prop := historyPlaysRow.holds Try.pinned (OpenSpec.ofChange historyPlaysSpec)

/-- ITS FALSE NEIGHBOUR: 'it returns false'. Refute it at one input. -/
def historyPlaysWrong : ChangeSpec := { name := "historyPlays", fn := fun _ => fun
  | [d1, d2, d3] => { results := [.lit (.bool false)], args := [d1, d2, d3] }
  | _ => none }
def HistoryPlaysWrongFalsely : Prop := historyPlaysRow.holds Try.pinned (OpenSpec.ofChange historyPlaysWrong)

/-- 'abecedarylaw08.HistoryDepth': WHATEVER THE INPUT: true; the input reads as it did. -/
def historyDepthSpec : ChangeSpec := { name := "historyDepth", fn := fun _ => fun
  | [d1, d2] => { results := [.lit (.bool true)], args := [d1, d2] }
  | _ => none }
def historyDepthRow : OpenClaim := { program := "ytiiaphgencoijaa", sum := "755baa269e8c9f4f08d865c6d949913c035bad6645372f75057b447257729186", func := "abecedary/abecedarylaw08.HistoryDepth", spec := "historyDepth", plainKeys := false, apart := false }
def HistoryDepthSaid : Prop := historyDepthRow.holds Try.pinned (OpenSpec.ofChange historyDepthSpec)

/-- ITS FALSE NEIGHBOUR: 'it returns false'. Refute it at one input. -/
def historyDepthWrong : ChangeSpec := { name := "historyDepth", fn := fun _ => fun
  | [d1, d2] => { results := [.lit (.bool false)], args := [d1, d2] }
  | _ => none }
def HistoryDepthWrongFalsely : Prop := historyDepthRow.holds Try.pinned (OpenSpec.ofChange historyDepthWrong)

/-- 'abecedarylaw08.HistoryCleared': WHATEVER THE INPUT: true; the input reads as it did. -/
def historyClearedSpec : ChangeSpec := { name := "historyCleared", fn := fun _ => fun
  | [d1, d2, d3] => { results := [.lit (.bool true)], args := [d1, d2, d3] }
  | _ => none }
def historyClearedRow : OpenClaim := { program := "ytiiaphgencoijaa", sum := "755baa269e8c9f4f08d865c6d949913c035bad6645372f75057b447257729186", func := "abecedary/abecedarylaw08.HistoryCleared", spec := "historyCleared", plainKeys := false, apart := false }
def HistoryClearedSaid : Prop := historyClearedRow.holds Try.pinned (OpenSpec.ofChange historyClearedSpec)

/-- ITS FALSE NEIGHBOUR: 'it returns false'. Refute it at one input. -/
def historyClearedWrong : ChangeSpec := { name := "historyCleared", fn := fun _ => fun
  | [d1, d2, d3] => { results := [.lit (.bool false)], args := [d1, d2, d3] }
  | _ => none }
def HistoryClearedWrongFalsely : Prop := historyClearedRow.holds Try.pinned (OpenSpec.ofChange historyClearedWrong)

/-- 'abecedarylaw08.HistoryKeeps': WHATEVER THE INPUT: true; the input reads as it did. -/
def historyKeepsSpec : ChangeSpec := { name := "historyKeeps", fn := fun _ => fun
  | [d1, d2] => { results := [.lit (.bool true)], args := [d1, d2] }
  | _ => none }
def historyKeepsRow : OpenClaim := { program := "ytiiaphgencoijaa", sum := "755baa269e8c9f4f08d865c6d949913c035bad6645372f75057b447257729186", func := "abecedary/abecedarylaw08.HistoryKeeps", spec := "historyKeeps", plainKeys := false, apart := false }
def HistoryKeepsSaid : Prop := historyKeepsRow.holds Try.pinned (OpenSpec.ofChange historyKeepsSpec)

/-- ITS FALSE NEIGHBOUR: 'it returns false'. Refute it at one input. -/
def historyKeepsWrong : ChangeSpec := { name := "historyKeeps", fn := fun _ => fun
  | [d1, d2] => { results := [.lit (.bool false)], args := [d1, d2] }
  | _ => none }
def HistoryKeepsWrongFalsely : Prop := historyKeepsRow.holds Try.pinned (OpenSpec.ofChange historyKeepsWrong)

/-- 'abecedarylaw15.DawgKnown': WHATEVER THE INPUT: true; the input reads as it did. -/
def dawgKnownSpec : ChangeSpec := { name := "dawgKnown", fn := fun _ => fun
  | [d1, d2] => { results := [.lit (.bool true)], args := [d1, d2] }
  | _ => none }
def dawgKnownRow : OpenClaim := { program := "ytiiaphgencoijaa", sum := "755baa269e8c9f4f08d865c6d949913c035bad6645372f75057b447257729186", func := "abecedary/abecedarylaw15.DawgKnown", spec := "dawgKnown", inPlace := ["internal/abi.NoEscape"], unfollowed := true, recurses := true, plainKeys := false, apart := false }
def DawgKnownSaid : Prop := dawgKnownRow.holds Try.pinned (OpenSpec.ofChange dawgKnownSpec)

/-- ITS FALSE NEIGHBOUR: 'it returns false'. Refute it at one input. -/
def dawgKnownWrong : ChangeSpec := { name := "dawgKnown", fn := fun _ => fun
  | [d1, d2] => { results := [.lit (.bool false)], args := [d1, d2] }
  | _ => none }
def DawgKnownWrongFalsely : Prop := dawgKnownRow.holds Try.pinned (OpenSpec.ofChange dawgKnownWrong)

/-- 'abecedarylaw15.DawgBig': WHATEVER THE INPUT: true; the input reads as it did. -/
def dawgBigSpec : ChangeSpec := { name := "dawgBig", fn := fun _ => fun
  | [d] => { results := [.lit (.bool true)], args := [d] }
  | _ => none }
def dawgBigRow : OpenClaim := { program := "ytiiaphgencoijaa", sum := "755baa269e8c9f4f08d865c6d949913c035bad6645372f75057b447257729186", func := "abecedary/abecedarylaw15.DawgBig", spec := "dawgBig", inPlace := ["internal/abi.NoEscape"], unfollowed := true, recurses := true, plainKeys := false, apart := false }
def DawgBigSaid : Prop := dawgBigRow.holds Try.pinned (OpenSpec.ofChange dawgBigSpec)

/-- ITS FALSE NEIGHBOUR: 'it returns false'. Refute it at one input. -/
def dawgBigWrong : ChangeSpec := { name := "dawgBig", fn := fun _ => fun
  | [d] => { results := [.lit (.bool false)], args := [d] }
  | _ => none }
def DawgBigWrongFalsely : Prop := dawgBigRow.holds Try.pinned (OpenSpec.ofChange dawgBigWrong)

/-- 'abecedarylaw15.DawgBuilds': WHATEVER THE INPUT: true; the input reads as it did. -/
def dawgBuildsSpec : ChangeSpec := { name := "dawgBuilds", fn := fun _ => fun
  | [d1, d2] => { results := [.lit (.bool true)], args := [d1, d2] }
  | _ => none }
def dawgBuildsRow : OpenClaim := { program := "ytiiaphgencoijaa", sum := "755baa269e8c9f4f08d865c6d949913c035bad6645372f75057b447257729186", func := "abecedary/abecedarylaw15.DawgBuilds", spec := "dawgBuilds", inPlace := ["internal/abi.NoEscape"], unfollowed := true, recurses := true, plainKeys := false, apart := false }
def DawgBuildsSaid : Prop := dawgBuildsRow.holds Try.pinned (OpenSpec.ofChange dawgBuildsSpec)

/-- ITS FALSE NEIGHBOUR: 'it returns false'. Refute it at one input. -/
def dawgBuildsWrong : ChangeSpec := { name := "dawgBuilds", fn := fun _ => fun
  | [d1, d2] => { results := [.lit (.bool false)], args := [d1, d2] }
  | _ => none }
def DawgBuildsWrongFalsely : Prop := dawgBuildsRow.holds Try.pinned (OpenSpec.ofChange dawgBuildsWrong)

/-- 'abecedarylaw15.DawgOrder': WHATEVER THE INPUT: true; the input reads as it did. -/
def dawgOrderSpec : ChangeSpec := { name := "dawgOrder", fn := fun _ => fun
  | [d1, d2] => { results := [.lit (.bool true)], args := [d1, d2] }
  | _ => none }
def dawgOrderRow : OpenClaim := { program := "ytiiaphgencoijaa", sum := "755baa269e8c9f4f08d865c6d949913c035bad6645372f75057b447257729186", func := "abecedary/abecedarylaw15.DawgOrder", spec := "dawgOrder", inPlace := ["internal/abi.NoEscape"], unfollowed := true, recurses := true, plainKeys := false, apart := false }
def DawgOrderSaid : Prop := dawgOrderRow.holds Try.pinned (OpenSpec.ofChange dawgOrderSpec)

/-- ITS FALSE NEIGHBOUR: 'it returns false'. Refute it at one input. -/
def dawgOrderWrong : ChangeSpec := { name := "dawgOrder", fn := fun _ => fun
  | [d1, d2] => { results := [.lit (.bool false)], args := [d1, d2] }
  | _ => none }
def DawgOrderWrongFalsely : Prop := dawgOrderRow.holds Try.pinned (OpenSpec.ofChange dawgOrderWrong)

/-- 'abecedarylaw15.DawgWays': WHATEVER THE INPUT: true; the input reads as it did. -/
def dawgWaysSpec : ChangeSpec := { name := "dawgWays", fn := fun _ => fun
  | [d1, d2, d3] => { results := [.lit (.bool true)], args := [d1, d2, d3] }
  | _ => none }
def dawgWaysRow : OpenClaim := { program := "ytiiaphgencoijaa", sum := "755baa269e8c9f4f08d865c6d949913c035bad6645372f75057b447257729186", func := "abecedary/abecedarylaw15.DawgWays", spec := "dawgWays", inPlace := ["internal/abi.NoEscape"], unfollowed := true, recurses := true, plainKeys := false, apart := false }
def DawgWaysSaid : Prop := dawgWaysRow.holds Try.pinned (OpenSpec.ofChange dawgWaysSpec)

/-- ITS FALSE NEIGHBOUR: 'it returns false'. Refute it at one input. -/
def dawgWaysWrong : ChangeSpec := { name := "dawgWays", fn := fun _ => fun
  | [d1, d2, d3] => { results := [.lit (.bool false)], args := [d1, d2, d3] }
  | _ => none }
def DawgWaysWrongFalsely : Prop := dawgWaysRow.holds Try.pinned (OpenSpec.ofChange dawgWaysWrong)

/- THE SECOND FORM. 'bulk': how many values and letters a reading holds, each counted each time it is reached (what is shared counts as often as it is met; a slice's spare places count too). A statement '..UptoSaid' is the law's where the arguments, and the package variables that the reading takes, are together of bulk at most 1048576: NARROWER than '..Said'. Prove '..Said' where nothing that the law and all that it calls make is longer than what came in: it says more and counts as full. Else prove '..UptoSaid'. A law counts once. -/
mutual
def uptoBulk {H : Type} : DataW H → Nat
  | .lit (.string bytes) => bytes.length + 1
  | .lit _ => 1
  | .nil => 1
  | .ptr d => uptoBulk d + 1
  | .slice elems spare => uptoBulkAll elems + uptoBulkAll spare + 1
  | .agg parts => uptoBulkAll parts + 1
  | .iface _ d => uptoBulk d + 1
  | .map entries => uptoBulkEntries entries + 1
  | .held _ => 1
def uptoBulkAll {H : Type} : List (DataW H) → Nat
  | [] => 0
  | d :: r => uptoBulk d + uptoBulkAll r
def uptoBulkEntries {H : Type} : List (Lit × DataW H) → Nat
  | [] => 0
  | x :: r => uptoBulkEntry x + uptoBulkEntries r
def uptoBulkEntry {H : Type} : Lit × DataW H → Nat
  | (.string bytes, d) => bytes.length + uptoBulk d + 1
  | (_, d) => uptoBulk d + 1
 end
def uptoSmall : (H : Type) → List (DataW H) → Bool := fun _ ds => decide (uptoBulkAll ds ≤ 1048576)
def OpenSpec.upto (s : _root_.Go.ChangeSpec) : _root_.Go.OpenSpec := { _root_.Go.OpenSpec.ofChange s with cond := some uptoSmall }

/-- 'abecedarylaw08.HistoryPlays', WHERE WHAT IT READS IS OF BULK AT MOST 1048576: true; the input reads as it did. -/
def historyPlaysUptoRow : OpenClaim := { program := "ytiiaphgencoijaa", sum := "755baa269e8c9f4f08d865c6d949913c035bad6645372f75057b447257729186", func := "abecedary/abecedarylaw08.HistoryPlays", spec := "historyPlays", plainKeys := false, apart := false, narrowed := true }
def HistoryPlaysUptoSaid : Prop := historyPlaysUptoRow.holds Try.pinned (OpenSpec.upto historyPlaysSpec)

/-- 'abecedarylaw08.HistoryDepth', WHERE WHAT IT READS IS OF BULK AT MOST 1048576: true; the input reads as it did. -/
def historyDepthUptoRow : OpenClaim := { program := "ytiiaphgencoijaa", sum := "755baa269e8c9f4f08d865c6d949913c035bad6645372f75057b447257729186", func := "abecedary/abecedarylaw08.HistoryDepth", spec := "historyDepth", plainKeys := false, apart := false, narrowed := true }
def HistoryDepthUptoSaid : Prop := historyDepthUptoRow.holds Try.pinned (OpenSpec.upto historyDepthSpec)

/-- 'abecedarylaw08.HistoryCleared', WHERE WHAT IT READS IS OF BULK AT MOST 1048576: true; the input reads as it did. -/
def historyClearedUptoRow : OpenClaim := { program := "ytiiaphgencoijaa", sum := "755baa269e8c9f4f08d865c6d949913c035bad6645372f75057b447257729186", func := "abecedary/abecedarylaw08.HistoryCleared", spec := "historyCleared", plainKeys := false, apart := false, narrowed := true }
def HistoryClearedUptoSaid : Prop := historyClearedUptoRow.holds Try.pinned (OpenSpec.upto historyClearedSpec)

/-- 'abecedarylaw08.HistoryKeeps', WHERE WHAT IT READS IS OF BULK AT MOST 1048576: true; the input reads as it did. -/
def historyKeepsUptoRow : OpenClaim := { program := "ytiiaphgencoijaa", sum := "755baa269e8c9f4f08d865c6d949913c035bad6645372f75057b447257729186", func := "abecedary/abecedarylaw08.HistoryKeeps", spec := "historyKeeps", plainKeys := false, apart := false, narrowed := true }
def HistoryKeepsUptoSaid : Prop := historyKeepsUptoRow.holds Try.pinned (OpenSpec.upto historyKeepsSpec)

/-- 'abecedarylaw15.DawgKnown', WHERE WHAT IT READS IS OF BULK AT MOST 1048576: true; the input reads as it did. -/
def dawgKnownUptoRow : OpenClaim := { program := "ytiiaphgencoijaa", sum := "755baa269e8c9f4f08d865c6d949913c035bad6645372f75057b447257729186", func := "abecedary/abecedarylaw15.DawgKnown", spec := "dawgKnown", inPlace := ["internal/abi.NoEscape"], unfollowed := true, recurses := true, plainKeys := false, apart := false, narrowed := true }
def DawgKnownUptoSaid : Prop := dawgKnownUptoRow.holds Try.pinned (OpenSpec.upto dawgKnownSpec)

/-- 'abecedarylaw15.DawgBig', WHERE WHAT IT READS IS OF BULK AT MOST 1048576: true; the input reads as it did. -/
def dawgBigUptoRow : OpenClaim := { program := "ytiiaphgencoijaa", sum := "755baa269e8c9f4f08d865c6d949913c035bad6645372f75057b447257729186", func := "abecedary/abecedarylaw15.DawgBig", spec := "dawgBig", inPlace := ["internal/abi.NoEscape"], unfollowed := true, recurses := true, plainKeys := false, apart := false, narrowed := true }
def DawgBigUptoSaid : Prop := dawgBigUptoRow.holds Try.pinned (OpenSpec.upto dawgBigSpec)

/-- 'abecedarylaw15.DawgBuilds', WHERE WHAT IT READS IS OF BULK AT MOST 1048576: true; the input reads as it did. -/
def dawgBuildsUptoRow : OpenClaim := { program := "ytiiaphgencoijaa", sum := "755baa269e8c9f4f08d865c6d949913c035bad6645372f75057b447257729186", func := "abecedary/abecedarylaw15.DawgBuilds", spec := "dawgBuilds", inPlace := ["internal/abi.NoEscape"], unfollowed := true, recurses := true, plainKeys := false, apart := false, narrowed := true }
def DawgBuildsUptoSaid : Prop := dawgBuildsUptoRow.holds Try.pinned (OpenSpec.upto dawgBuildsSpec)

/-- 'abecedarylaw15.DawgOrder', WHERE WHAT IT READS IS OF BULK AT MOST 1048576: true; the input reads as it did. -/
def dawgOrderUptoRow : OpenClaim := { program := "ytiiaphgencoijaa", sum := "755baa269e8c9f4f08d865c6d949913c035bad6645372f75057b447257729186", func := "abecedary/abecedarylaw15.DawgOrder", spec := "dawgOrder", inPlace := ["internal/abi.NoEscape"], unfollowed := true, recurses := true, plainKeys := false, apart := false, narrowed := true }
def DawgOrderUptoSaid : Prop := dawgOrderUptoRow.holds Try.pinned (OpenSpec.upto dawgOrderSpec)

/-- 'abecedarylaw15.DawgWays', WHERE WHAT IT READS IS OF BULK AT MOST 1048576: true; the input reads as it did. -/
def dawgWaysUptoRow : OpenClaim := { program := "ytiiaphgencoijaa", sum := "755baa269e8c9f4f08d865c6d949913c035bad6645372f75057b447257729186", func := "abecedary/abecedarylaw15.DawgWays", spec := "dawgWays", inPlace := ["internal/abi.NoEscape"], unfollowed := true, recurses := true, plainKeys := false, apart := false, narrowed := true }
def DawgWaysUptoSaid : Prop := dawgWaysUptoRow.holds Try.pinned (OpenSpec.upto dawgWaysSpec)

end Rows
end Go.Proofs.Ytiiaphgencoijaa
