/-
  DERIVED. GIVEN WITH THE SEED: THE CARDS: each row of YtefmioppamdceaaDoorRows.lean that lists a variable, with what it lists TIED to the program's text (the seventh form; the later family's looks); each row that meets fmt, with fmt's text TOLD by the authors' own Lean function (tested against real Go, not proved from fmt's source: count such statements apart). THE CARD IS WHAT COUNTS. Prove the row's statement (the work); the ties are given (YtefmioppamdceaaDoorTie.lean); close each card by the builder's one call (the guide's Derived/Test/ToyasCard.lean, 'card_holds'). Laid BY PROGRAM, IN A SANDBOX (cutbox-door.mjs). By AI agents, Wed Nov 11 2026. No macro, syntax, notation, axiom, sorry.
-/
import Derived.Test.YtefmioppamdceaaDoorRows
import GoSem.ClaimSeven
namespace Go.Proofs.YtefmioppamdceaaDoor
namespace Rows

/-- THE TIED CARD OF 'cocketlaw06.InspectDresher'. -/
def inspectDresherCard : Claim7 := { stood := { row := inspectDresherRow, standIns := [], harness := (true, "15b8968ca702c8cdce08a5137e5607781bf723db84a917bc730bf53d94e1a440"), looks := false }, kinds := [], alts := [], laidByText := true, laidKinds := [.data, .data, .data], laidTests := true, laidLooks := .later }
def InspectDresherCardSaid : Prop := Claim7.holds Tryd.pinned (.plain (OpenSpec.ofChange inspectDresherSpec)) inspectDresherCard

/-- THE TIED CARD OF 'cocketlaw06.InspectLooks'. -/
def inspectLooksCard : Claim7 := { stood := { row := inspectLooksRow, standIns := [], harness := (true, "15b8968ca702c8cdce08a5137e5607781bf723db84a917bc730bf53d94e1a440"), looks := false }, kinds := [], alts := [], laidByText := true, laidKinds := [.data, .data, .data], laidTests := true, laidLooks := .later }
def InspectLooksCardSaid : Prop := Claim7.holds Tryd.pinned (.plain (OpenSpec.ofChange inspectLooksSpec)) inspectLooksCard

/-- THE TIED CARD OF 'cocketlaw06.InspectMore'. -/
def inspectMoreCard : Claim7 := { stood := { row := inspectMoreRow, standIns := [], harness := (true, "15b8968ca702c8cdce08a5137e5607781bf723db84a917bc730bf53d94e1a440"), looks := false }, kinds := [], alts := [], laidByText := true, laidKinds := [.data, .data, .data], laidTests := true, laidLooks := .later }
def InspectMoreCardSaid : Prop := Claim7.holds Tryd.pinned (.plain (OpenSpec.ofChange inspectMoreSpec)) inspectMoreCard

/-- THE TIED CARD OF 'cocketlaw06.InspectLeans'. -/
def inspectLeansCard : Claim7 := { stood := { row := inspectLeansRow, standIns := [], harness := (true, "15b8968ca702c8cdce08a5137e5607781bf723db84a917bc730bf53d94e1a440"), looks := false }, kinds := [], alts := [], laidByText := true, laidKinds := [.data, .data, .data], laidTests := true, laidLooks := .later }
def InspectLeansCardSaid : Prop := Claim7.holds Tryd.pinned (.plain (OpenSpec.ofChange inspectLeansSpec)) inspectLeansCard

/-- THE TIED CARD OF 'cocketlaw06.InspectWorse'. -/
def inspectWorseCard : Claim7 := { stood := { row := inspectWorseRow, standIns := [], harness := (true, "15b8968ca702c8cdce08a5137e5607781bf723db84a917bc730bf53d94e1a440"), looks := false }, kinds := [], alts := [], laidByText := true, laidKinds := [.data, .data, .data], laidTests := true, laidLooks := .later }
def InspectWorseCardSaid : Prop := Claim7.holds Tryd.pinned (.plain (OpenSpec.ofChange inspectWorseSpec)) inspectWorseCard

/-- THE TIED CARD OF 'cocketlaw06.InspectMinimax'. -/
def inspectMinimaxCard : Claim7 := { stood := { row := inspectMinimaxRow, standIns := [], harness := (true, "15b8968ca702c8cdce08a5137e5607781bf723db84a917bc730bf53d94e1a440"), looks := false }, kinds := [], alts := [], laidByText := true, laidKinds := [.data, .data, .data], laidTests := true, laidLooks := .later }
def InspectMinimaxCardSaid : Prop := Claim7.holds Tryd.pinned (.plain (OpenSpec.ofChange inspectMinimaxSpec)) inspectMinimaxCard

/-- THE TIED CARD OF 'cocketlaw06.InspectTurned'. -/
def inspectTurnedCard : Claim7 := { stood := { row := inspectTurnedRow, standIns := [], harness := (true, "15b8968ca702c8cdce08a5137e5607781bf723db84a917bc730bf53d94e1a440"), looks := false }, kinds := [], alts := [], laidByText := true, laidKinds := [.data, .data, .data], laidTests := true, laidLooks := .later }
def InspectTurnedCardSaid : Prop := Claim7.holds Tryd.pinned (.plain (OpenSpec.ofChange inspectTurnedSpec)) inspectTurnedCard

/-- THE SECOND FORM's CARD OF 'cocketlaw06.InspectDresher'. -/
def inspectDresherUptoCard : Claim7 := { stood := { row := inspectDresherUptoRow, standIns := [], harness := (true, "15b8968ca702c8cdce08a5137e5607781bf723db84a917bc730bf53d94e1a440"), looks := false }, kinds := [], alts := [], laidByText := true, laidKinds := [.data, .data, .data], laidTests := true, laidLooks := .later }
def InspectDresherUptoCardSaid : Prop := Claim7.holds Tryd.pinned (.plain (OpenSpec.upto inspectDresherSpec)) inspectDresherUptoCard

/-- THE SECOND FORM's CARD OF 'cocketlaw06.InspectLooks'. -/
def inspectLooksUptoCard : Claim7 := { stood := { row := inspectLooksUptoRow, standIns := [], harness := (true, "15b8968ca702c8cdce08a5137e5607781bf723db84a917bc730bf53d94e1a440"), looks := false }, kinds := [], alts := [], laidByText := true, laidKinds := [.data, .data, .data], laidTests := true, laidLooks := .later }
def InspectLooksUptoCardSaid : Prop := Claim7.holds Tryd.pinned (.plain (OpenSpec.upto inspectLooksSpec)) inspectLooksUptoCard

/-- THE SECOND FORM's CARD OF 'cocketlaw06.InspectMore'. -/
def inspectMoreUptoCard : Claim7 := { stood := { row := inspectMoreUptoRow, standIns := [], harness := (true, "15b8968ca702c8cdce08a5137e5607781bf723db84a917bc730bf53d94e1a440"), looks := false }, kinds := [], alts := [], laidByText := true, laidKinds := [.data, .data, .data], laidTests := true, laidLooks := .later }
def InspectMoreUptoCardSaid : Prop := Claim7.holds Tryd.pinned (.plain (OpenSpec.upto inspectMoreSpec)) inspectMoreUptoCard

/-- THE SECOND FORM's CARD OF 'cocketlaw06.InspectLeans'. -/
def inspectLeansUptoCard : Claim7 := { stood := { row := inspectLeansUptoRow, standIns := [], harness := (true, "15b8968ca702c8cdce08a5137e5607781bf723db84a917bc730bf53d94e1a440"), looks := false }, kinds := [], alts := [], laidByText := true, laidKinds := [.data, .data, .data], laidTests := true, laidLooks := .later }
def InspectLeansUptoCardSaid : Prop := Claim7.holds Tryd.pinned (.plain (OpenSpec.upto inspectLeansSpec)) inspectLeansUptoCard

/-- THE SECOND FORM's CARD OF 'cocketlaw06.InspectWorse'. -/
def inspectWorseUptoCard : Claim7 := { stood := { row := inspectWorseUptoRow, standIns := [], harness := (true, "15b8968ca702c8cdce08a5137e5607781bf723db84a917bc730bf53d94e1a440"), looks := false }, kinds := [], alts := [], laidByText := true, laidKinds := [.data, .data, .data], laidTests := true, laidLooks := .later }
def InspectWorseUptoCardSaid : Prop := Claim7.holds Tryd.pinned (.plain (OpenSpec.upto inspectWorseSpec)) inspectWorseUptoCard

/-- THE SECOND FORM's CARD OF 'cocketlaw06.InspectMinimax'. -/
def inspectMinimaxUptoCard : Claim7 := { stood := { row := inspectMinimaxUptoRow, standIns := [], harness := (true, "15b8968ca702c8cdce08a5137e5607781bf723db84a917bc730bf53d94e1a440"), looks := false }, kinds := [], alts := [], laidByText := true, laidKinds := [.data, .data, .data], laidTests := true, laidLooks := .later }
def InspectMinimaxUptoCardSaid : Prop := Claim7.holds Tryd.pinned (.plain (OpenSpec.upto inspectMinimaxSpec)) inspectMinimaxUptoCard

/-- THE SECOND FORM's CARD OF 'cocketlaw06.InspectTurned'. -/
def inspectTurnedUptoCard : Claim7 := { stood := { row := inspectTurnedUptoRow, standIns := [], harness := (true, "15b8968ca702c8cdce08a5137e5607781bf723db84a917bc730bf53d94e1a440"), looks := false }, kinds := [], alts := [], laidByText := true, laidKinds := [.data, .data, .data], laidTests := true, laidLooks := .later }
def InspectTurnedUptoCardSaid : Prop := Claim7.holds Tryd.pinned (.plain (OpenSpec.upto inspectTurnedSpec)) inspectTurnedUptoCard
end Rows
end Go.Proofs.YtefmioppamdceaaDoor
