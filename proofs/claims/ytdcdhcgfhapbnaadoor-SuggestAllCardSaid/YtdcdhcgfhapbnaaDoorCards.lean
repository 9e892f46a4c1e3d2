/-
  DERIVED. GIVEN WITH THE SEED: THE CARDS: each row of YtdcdhcgfhapbnaaDoorRows.lean that lists a variable, with what it lists TIED to the program's text (the seventh form; the later family's looks); each row that meets fmt, with fmt's text TOLD by the authors' own Lean function (tested against real Go, not proved from fmt's source: count such statements apart). THE CARD IS WHAT COUNTS. Prove the row's statement (the work); the ties are given (YtdcdhcgfhapbnaaDoorTie.lean); close each card by the builder's one call (the guide's Derived/Test/ToyasCard.lean, 'card_holds'). Laid BY PROGRAM, IN A SANDBOX (cutbox-door.mjs). By AI agents, Wed Nov 11 2026. No macro, syntax, notation, axiom, sorry.
-/
import Derived.Test.YtdcdhcgfhapbnaaDoorRows
import GoSem.ClaimSeven
namespace Go.Proofs.YtdcdhcgfhapbnaaDoor
namespace Rows

/-- THE TIED CARD OF 'abecedarylaw19.SuggestAll'. -/
def suggestAllCard : Claim7 := { stood := { row := suggestAllRow, standIns := [], harness := (true, "d2ef4fb30f153eebdcc9c5afda2a148901c7862708f3e55c8a4437927df41a8d"), looks := false }, kinds := [], alts := [], laidByText := true, laidKinds := [.data, .pinned], laidTests := true, laidLooks := .later }
def SuggestAllCardSaid : Prop := Claim7.holds Tryd.pinned (.plain (OpenSpec.ofChange suggestAllSpec)) suggestAllCard

/-- THE TIED CARD OF 'abecedarylaw19.SuggestNumbers'. -/
def suggestNumbersCard : Claim7 := { stood := { row := suggestNumbersRow, standIns := [], harness := (true, "d2ef4fb30f153eebdcc9c5afda2a148901c7862708f3e55c8a4437927df41a8d"), looks := false }, kinds := [], alts := [], laidByText := true, laidKinds := [.data, .pinned], laidTests := true, laidLooks := .later }
def SuggestNumbersCardSaid : Prop := Claim7.holds Tryd.pinned (.plain (OpenSpec.ofChange suggestNumbersSpec)) suggestNumbersCard

/-- THE TIED CARD OF 'abecedarylaw19.SuggestOrder'. -/
def suggestOrderCard : Claim7 := { stood := { row := suggestOrderRow, standIns := [], harness := (true, "d2ef4fb30f153eebdcc9c5afda2a148901c7862708f3e55c8a4437927df41a8d"), looks := false }, kinds := [], alts := [], laidByText := true, laidKinds := [.data, .pinned], laidTests := true, laidLooks := .later }
def SuggestOrderCardSaid : Prop := Claim7.holds Tryd.pinned (.plain (OpenSpec.ofChange suggestOrderSpec)) suggestOrderCard

/-- THE TIED CARD OF 'abecedarylaw19.SuggestCuts'. -/
def suggestCutsCard : Claim7 := { stood := { row := suggestCutsRow, standIns := [], harness := (true, "d2ef4fb30f153eebdcc9c5afda2a148901c7862708f3e55c8a4437927df41a8d"), looks := false }, kinds := [], alts := [], laidByText := true, laidKinds := [.data, .pinned], laidTests := true, laidLooks := .later }
def SuggestCutsCardSaid : Prop := Claim7.holds Tryd.pinned (.plain (OpenSpec.ofChange suggestCutsSpec)) suggestCutsCard

/-- THE TIED CARD OF 'abecedarylaw19.SuggestLong'. -/
def suggestLongCard : Claim7 := { stood := { row := suggestLongRow, standIns := [], harness := (true, "d2ef4fb30f153eebdcc9c5afda2a148901c7862708f3e55c8a4437927df41a8d"), looks := false }, kinds := [], alts := [], laidByText := true, laidKinds := [.data, .pinned], laidTests := true, laidLooks := .later }
def SuggestLongCardSaid : Prop := Claim7.holds Tryd.pinned (.plain (OpenSpec.ofChange suggestLongSpec)) suggestLongCard

/-- THE SECOND FORM's CARD OF 'abecedarylaw19.SuggestAll'. -/
def suggestAllUptoCard : Claim7 := { stood := { row := suggestAllUptoRow, standIns := [], harness := (true, "d2ef4fb30f153eebdcc9c5afda2a148901c7862708f3e55c8a4437927df41a8d"), looks := false }, kinds := [], alts := [], laidByText := true, laidKinds := [.data, .pinned], laidTests := true, laidLooks := .later }
def SuggestAllUptoCardSaid : Prop := Claim7.holds Tryd.pinned (.plain (OpenSpec.upto suggestAllSpec)) suggestAllUptoCard

/-- THE SECOND FORM's CARD OF 'abecedarylaw19.SuggestNumbers'. -/
def suggestNumbersUptoCard : Claim7 := { stood := { row := suggestNumbersUptoRow, standIns := [], harness := (true, "d2ef4fb30f153eebdcc9c5afda2a148901c7862708f3e55c8a4437927df41a8d"), looks := false }, kinds := [], alts := [], laidByText := true, laidKinds := [.data, .pinned], laidTests := true, laidLooks := .later }
def SuggestNumbersUptoCardSaid : Prop := Claim7.holds Tryd.pinned (.plain (OpenSpec.upto suggestNumbersSpec)) suggestNumbersUptoCard

/-- THE SECOND FORM's CARD OF 'abecedarylaw19.SuggestOrder'. -/
def suggestOrderUptoCard : Claim7 := { stood := { row := suggestOrderUptoRow, standIns := [], harness := (true, "d2ef4fb30f153eebdcc9c5afda2a148901c7862708f3e55c8a4437927df41a8d"), looks := false }, kinds := [], alts := [], laidByText := true, laidKinds := [.data, .pinned], laidTests := true, laidLooks := .later }
def SuggestOrderUptoCardSaid : Prop := Claim7.holds Tryd.pinned (.plain (OpenSpec.upto suggestOrderSpec)) suggestOrderUptoCard

/-- THE SECOND FORM's CARD OF 'abecedarylaw19.SuggestCuts'. -/
def suggestCutsUptoCard : Claim7 := { stood := { row := suggestCutsUptoRow, standIns := [], harness := (true, "d2ef4fb30f153eebdcc9c5afda2a148901c7862708f3e55c8a4437927df41a8d"), looks := false }, kinds := [], alts := [], laidByText := true, laidKinds := [.data, .pinned], laidTests := true, laidLooks := .later }
def SuggestCutsUptoCardSaid : Prop := Claim7.holds Tryd.pinned (.plain (OpenSpec.upto suggestCutsSpec)) suggestCutsUptoCard

/-- THE SECOND FORM's CARD OF 'abecedarylaw19.SuggestLong'. -/
def suggestLongUptoCard : Claim7 := { stood := { row := suggestLongUptoRow, standIns := [], harness := (true, "d2ef4fb30f153eebdcc9c5afda2a148901c7862708f3e55c8a4437927df41a8d"), looks := false }, kinds := [], alts := [], laidByText := true, laidKinds := [.data, .pinned], laidTests := true, laidLooks := .later }
def SuggestLongUptoCardSaid : Prop := Claim7.holds Tryd.pinned (.plain (OpenSpec.upto suggestLongSpec)) suggestLongUptoCard
end Rows
end Go.Proofs.YtdcdhcgfhapbnaaDoor
