/-
  DERIVED. GIVEN WITH THE SEED: THE CARDS: each row of YtgcaenckjelijaaDoorRows.lean that lists a variable, with what it lists TIED to the program's text (the seventh form; the later family's looks); each row that meets fmt, with fmt's text TOLD by the authors' own Lean function (tested against real Go, not proved from fmt's source: count such statements apart). THE CARD IS WHAT COUNTS. Prove the row's statement (the work); the ties are given (YtgcaenckjelijaaDoorTie.lean); close each card by the builder's one call (the guide's Derived/Test/ToyasCard.lean, 'card_holds'). Laid BY PROGRAM, IN A SANDBOX (cutbox-door.mjs). By AI agents, Wed Nov 11 2026. No macro, syntax, notation, axiom, sorry.
-/
import Derived.Test.YtgcaenckjelijaaDoorRows
import GoSem.ClaimSeven
namespace Go.Proofs.YtgcaenckjelijaaDoor
namespace Rows

/-- THE TIED CARD OF 'abecedarylaw18.WalkKnown'. -/
def walkKnownCard : Claim7 := { stood := { row := walkKnownRow, standIns := [], harness := (true, "af437651de656ad241452c80a612fe8c5d3a53e92cb1710fdd783a7827fbd10b"), looks := false }, kinds := [], alts := [], laidByText := true, laidKinds := [.data, .pinned], laidTests := true, laidLooks := .later }
def WalkKnownCardSaid : Prop := Claim7.holds Tryd.pinned (.plain (OpenSpec.ofChange walkKnownSpec)) walkKnownCard

/-- THE TIED CARD OF 'abecedarylaw18.WalkAll'. -/
def walkAllCard : Claim7 := { stood := { row := walkAllRow, standIns := [], harness := (true, "af437651de656ad241452c80a612fe8c5d3a53e92cb1710fdd783a7827fbd10b"), looks := false }, kinds := [], alts := [], laidByText := true, laidKinds := [.data, .pinned], laidTests := true, laidLooks := .later }
def WalkAllCardSaid : Prop := Claim7.holds Tryd.pinned (.plain (OpenSpec.ofChange walkAllSpec)) walkAllCard

/-- THE TIED CARD OF 'abecedarylaw18.WalkNumbers'. -/
def walkNumbersCard : Claim7 := { stood := { row := walkNumbersRow, standIns := [], harness := (true, "af437651de656ad241452c80a612fe8c5d3a53e92cb1710fdd783a7827fbd10b"), looks := false }, kinds := [], alts := [], laidByText := true, laidKinds := [.data, .pinned], laidTests := true, laidLooks := .later }
def WalkNumbersCardSaid : Prop := Claim7.holds Tryd.pinned (.plain (OpenSpec.ofChange walkNumbersSpec)) walkNumbersCard

/-- THE TIED CARD OF 'abecedarylaw18.WalkFew'. -/
def walkFewCard : Claim7 := { stood := { row := walkFewRow, standIns := [], harness := (true, "af437651de656ad241452c80a612fe8c5d3a53e92cb1710fdd783a7827fbd10b"), looks := false }, kinds := [], alts := [], laidByText := true, laidKinds := [.data, .pinned], laidTests := true, laidLooks := .later }
def WalkFewCardSaid : Prop := Claim7.holds Tryd.pinned (.plain (OpenSpec.ofChange walkFewSpec)) walkFewCard

/-- THE TIED CARD OF 'abecedarylaw18.WalkEmpty'. -/
def walkEmptyCard : Claim7 := { stood := { row := walkEmptyRow, standIns := [], harness := (true, "af437651de656ad241452c80a612fe8c5d3a53e92cb1710fdd783a7827fbd10b"), looks := false }, kinds := [], alts := [], laidByText := true, laidKinds := [.data, .pinned], laidTests := true, laidLooks := .later }
def WalkEmptyCardSaid : Prop := Claim7.holds Tryd.pinned (.plain (OpenSpec.ofChange walkEmptySpec)) walkEmptyCard

/-- THE SECOND FORM's CARD OF 'abecedarylaw18.WalkKnown'. -/
def walkKnownUptoCard : Claim7 := { stood := { row := walkKnownUptoRow, standIns := [], harness := (true, "af437651de656ad241452c80a612fe8c5d3a53e92cb1710fdd783a7827fbd10b"), looks := false }, kinds := [], alts := [], laidByText := true, laidKinds := [.data, .pinned], laidTests := true, laidLooks := .later }
def WalkKnownUptoCardSaid : Prop := Claim7.holds Tryd.pinned (.plain (OpenSpec.upto walkKnownSpec)) walkKnownUptoCard

/-- THE SECOND FORM's CARD OF 'abecedarylaw18.WalkAll'. -/
def walkAllUptoCard : Claim7 := { stood := { row := walkAllUptoRow, standIns := [], harness := (true, "af437651de656ad241452c80a612fe8c5d3a53e92cb1710fdd783a7827fbd10b"), looks := false }, kinds := [], alts := [], laidByText := true, laidKinds := [.data, .pinned], laidTests := true, laidLooks := .later }
def WalkAllUptoCardSaid : Prop := Claim7.holds Tryd.pinned (.plain (OpenSpec.upto walkAllSpec)) walkAllUptoCard

/-- THE SECOND FORM's CARD OF 'abecedarylaw18.WalkNumbers'. -/
def walkNumbersUptoCard : Claim7 := { stood := { row := walkNumbersUptoRow, standIns := [], harness := (true, "af437651de656ad241452c80a612fe8c5d3a53e92cb1710fdd783a7827fbd10b"), looks := false }, kinds := [], alts := [], laidByText := true, laidKinds := [.data, .pinned], laidTests := true, laidLooks := .later }
def WalkNumbersUptoCardSaid : Prop := Claim7.holds Tryd.pinned (.plain (OpenSpec.upto walkNumbersSpec)) walkNumbersUptoCard

/-- THE SECOND FORM's CARD OF 'abecedarylaw18.WalkFew'. -/
def walkFewUptoCard : Claim7 := { stood := { row := walkFewUptoRow, standIns := [], harness := (true, "af437651de656ad241452c80a612fe8c5d3a53e92cb1710fdd783a7827fbd10b"), looks := false }, kinds := [], alts := [], laidByText := true, laidKinds := [.data, .pinned], laidTests := true, laidLooks := .later }
def WalkFewUptoCardSaid : Prop := Claim7.holds Tryd.pinned (.plain (OpenSpec.upto walkFewSpec)) walkFewUptoCard

/-- THE SECOND FORM's CARD OF 'abecedarylaw18.WalkEmpty'. -/
def walkEmptyUptoCard : Claim7 := { stood := { row := walkEmptyUptoRow, standIns := [], harness := (true, "af437651de656ad241452c80a612fe8c5d3a53e92cb1710fdd783a7827fbd10b"), looks := false }, kinds := [], alts := [], laidByText := true, laidKinds := [.data, .pinned], laidTests := true, laidLooks := .later }
def WalkEmptyUptoCardSaid : Prop := Claim7.holds Tryd.pinned (.plain (OpenSpec.upto walkEmptySpec)) walkEmptyUptoCard
end Rows
end Go.Proofs.YtgcaenckjelijaaDoor
