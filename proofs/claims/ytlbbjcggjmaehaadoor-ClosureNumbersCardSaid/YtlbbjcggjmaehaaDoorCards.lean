/-
  DERIVED. GIVEN WITH THE SEED: THE CARDS: each row of YtlbbjcggjmaehaaDoorRows.lean that lists a variable, with what it lists TIED to the program's text (the seventh form; the later family's looks); each row that meets fmt, with fmt's text TOLD by the authors' own Lean function (tested against real Go, not proved from fmt's source: count such statements apart). THE CARD IS WHAT COUNTS. Prove the row's statement (the work); the ties are given (YtlbbjcggjmaehaaDoorTie.lean); close each card by the builder's one call (the guide's Derived/Test/ToyasCard.lean, 'card_holds'). Laid BY PROGRAM, IN A SANDBOX (cutbox-door.mjs). By AI agents, Wed Nov 11 2026. No macro, syntax, notation, axiom, sorry.
-/
import Derived.Test.YtlbbjcggjmaehaaDoorRows
import GoSem.ClaimSeven
namespace Go.Proofs.YtlbbjcggjmaehaaDoor
namespace Rows

/-- THE TIED CARD OF 'abecedarylaw13.ClosureAll'. -/
def closureAllCard : Claim7 := { stood := { row := closureAllRow, standIns := [], harness := (true, "85212339891d3e1f467f3518d7edb545f4d0a7712845d05fa2c30c49a274792e"), looks := false }, kinds := [], alts := [], laidByText := true, laidKinds := [.data, .pinned], laidTests := true, laidLooks := .later }
def ClosureAllCardSaid : Prop := Claim7.holds Tryd.pinned (.plain (OpenSpec.ofChange closureAllSpec)) closureAllCard

/-- THE TIED CARD OF 'abecedarylaw13.ClosureNumbers'. -/
def closureNumbersCard : Claim7 := { stood := { row := closureNumbersRow, standIns := [], harness := (true, "85212339891d3e1f467f3518d7edb545f4d0a7712845d05fa2c30c49a274792e"), looks := false }, kinds := [], alts := [], laidByText := true, laidKinds := [.data, .pinned], laidTests := true, laidLooks := .later }
def ClosureNumbersCardSaid : Prop := Claim7.holds Tryd.pinned (.plain (OpenSpec.ofChange closureNumbersSpec)) closureNumbersCard

/-- THE TIED CARD OF 'abecedarylaw13.ClosureCounts'. -/
def closureCountsCard : Claim7 := { stood := { row := closureCountsRow, standIns := [], harness := (true, "85212339891d3e1f467f3518d7edb545f4d0a7712845d05fa2c30c49a274792e"), looks := false }, kinds := [], alts := [], laidByText := true, laidKinds := [.data, .pinned], laidTests := true, laidLooks := .later }
def ClosureCountsCardSaid : Prop := Claim7.holds Tryd.pinned (.plain (OpenSpec.ofChange closureCountsSpec)) closureCountsCard

/-- THE TIED CARD OF 'abecedarylaw13.ClosureFlags'. -/
def closureFlagsCard : Claim7 := { stood := { row := closureFlagsRow, standIns := [], harness := (true, "85212339891d3e1f467f3518d7edb545f4d0a7712845d05fa2c30c49a274792e"), looks := false }, kinds := [], alts := [], laidByText := true, laidKinds := [.data, .pinned], laidTests := true, laidLooks := .later }
def ClosureFlagsCardSaid : Prop := Claim7.holds Tryd.pinned (.plain (OpenSpec.ofChange closureFlagsSpec)) closureFlagsCard

/-- THE TIED CARD OF 'abecedarylaw13.ClosureGrows'. -/
def closureGrowsCard : Claim7 := { stood := { row := closureGrowsRow, standIns := [], harness := (true, "85212339891d3e1f467f3518d7edb545f4d0a7712845d05fa2c30c49a274792e"), looks := false }, kinds := [], alts := [], laidByText := true, laidKinds := [.data, .pinned], laidTests := true, laidLooks := .later }
def ClosureGrowsCardSaid : Prop := Claim7.holds Tryd.pinned (.plain (OpenSpec.ofChange closureGrowsSpec)) closureGrowsCard

/-- THE SECOND FORM's CARD OF 'abecedarylaw13.ClosureAll'. -/
def closureAllUptoCard : Claim7 := { stood := { row := closureAllUptoRow, standIns := [], harness := (true, "85212339891d3e1f467f3518d7edb545f4d0a7712845d05fa2c30c49a274792e"), looks := false }, kinds := [], alts := [], laidByText := true, laidKinds := [.data, .pinned], laidTests := true, laidLooks := .later }
def ClosureAllUptoCardSaid : Prop := Claim7.holds Tryd.pinned (.plain (OpenSpec.upto closureAllSpec)) closureAllUptoCard

/-- THE SECOND FORM's CARD OF 'abecedarylaw13.ClosureNumbers'. -/
def closureNumbersUptoCard : Claim7 := { stood := { row := closureNumbersUptoRow, standIns := [], harness := (true, "85212339891d3e1f467f3518d7edb545f4d0a7712845d05fa2c30c49a274792e"), looks := false }, kinds := [], alts := [], laidByText := true, laidKinds := [.data, .pinned], laidTests := true, laidLooks := .later }
def ClosureNumbersUptoCardSaid : Prop := Claim7.holds Tryd.pinned (.plain (OpenSpec.upto closureNumbersSpec)) closureNumbersUptoCard

/-- THE SECOND FORM's CARD OF 'abecedarylaw13.ClosureCounts'. -/
def closureCountsUptoCard : Claim7 := { stood := { row := closureCountsUptoRow, standIns := [], harness := (true, "85212339891d3e1f467f3518d7edb545f4d0a7712845d05fa2c30c49a274792e"), looks := false }, kinds := [], alts := [], laidByText := true, laidKinds := [.data, .pinned], laidTests := true, laidLooks := .later }
def ClosureCountsUptoCardSaid : Prop := Claim7.holds Tryd.pinned (.plain (OpenSpec.upto closureCountsSpec)) closureCountsUptoCard

/-- THE SECOND FORM's CARD OF 'abecedarylaw13.ClosureFlags'. -/
def closureFlagsUptoCard : Claim7 := { stood := { row := closureFlagsUptoRow, standIns := [], harness := (true, "85212339891d3e1f467f3518d7edb545f4d0a7712845d05fa2c30c49a274792e"), looks := false }, kinds := [], alts := [], laidByText := true, laidKinds := [.data, .pinned], laidTests := true, laidLooks := .later }
def ClosureFlagsUptoCardSaid : Prop := Claim7.holds Tryd.pinned (.plain (OpenSpec.upto closureFlagsSpec)) closureFlagsUptoCard

/-- THE SECOND FORM's CARD OF 'abecedarylaw13.ClosureGrows'. -/
def closureGrowsUptoCard : Claim7 := { stood := { row := closureGrowsUptoRow, standIns := [], harness := (true, "85212339891d3e1f467f3518d7edb545f4d0a7712845d05fa2c30c49a274792e"), looks := false }, kinds := [], alts := [], laidByText := true, laidKinds := [.data, .pinned], laidTests := true, laidLooks := .later }
def ClosureGrowsUptoCardSaid : Prop := Claim7.holds Tryd.pinned (.plain (OpenSpec.upto closureGrowsSpec)) closureGrowsUptoCard
end Rows
end Go.Proofs.YtlbbjcggjmaehaaDoor
