/-
  DERIVED. GIVEN WITH THE SEED: THE CARDS: each row of YtifahgjmdiandaaGreatDoorRows.lean that lists a variable, with what it lists TIED to the program's text (the seventh form; the later family's looks); each row that meets fmt, with fmt's text TOLD by the authors' own Lean function (tested against real Go, not proved from fmt's source: count such statements apart). THE CARD IS WHAT COUNTS. Prove the row's statement (the work); the ties are given (YtifahgjmdiandaaGreatDoorTie.lean); close each card by the builder's one call (the guide's Derived/Test/ToyasCard.lean, 'card_holds'). Laid BY PROGRAM, IN A SANDBOX (cutbox-door.mjs). By AI agents, Wed Nov 11 2026. No macro, syntax, notation, axiom, sorry.
-/
import Derived.Test.YtifahgjmdiandaaGreatDoorRows
import GoSem.ClaimSeven
namespace Go.Proofs.YtifahgjmdiandaaGreatDoor
namespace Rows

/-- THE TIED CARD OF 'codesearchlaw48.SavedLists'. -/
def savedListsCard : Claim7 := { stood := { row := savedListsRow, standIns := [], harness := (true, "3c33d1ecc56a9c1aa3e6ba9962f066e7116773d5ccd578317d38a2f06b60b921"), looks := true }, kinds := [], alts := [], laidByText := true, laidKinds := [.data, .listed, .data, .pinned], laidTests := true, laidLooks := .later }
def SavedListsCardSaid : Prop := Claim7.holds Tryz.pinned (.plain (OpenSpec.ofChange savedListsSpec)) savedListsCard

/-- THE TIED CARD OF 'codesearchlaw48.SavedTurns'. -/
def savedTurnsCard : Claim7 := { stood := { row := savedTurnsRow, standIns := [], harness := (true, "3c33d1ecc56a9c1aa3e6ba9962f066e7116773d5ccd578317d38a2f06b60b921"), looks := true }, kinds := [], alts := [], laidByText := true, laidKinds := [.data, .listed, .data, .pinned], laidTests := true, laidLooks := .later }
def SavedTurnsCardSaid : Prop := Claim7.holds Tryz.pinned (.plain (OpenSpec.ofChange savedTurnsSpec)) savedTurnsCard

/-- THE TIED CARD OF 'codesearchlaw48.SavedPaths'. -/
def savedPathsCard : Claim7 := { stood := { row := savedPathsRow, standIns := [], harness := (true, "3c33d1ecc56a9c1aa3e6ba9962f066e7116773d5ccd578317d38a2f06b60b921"), looks := true }, kinds := [], alts := [], laidByText := true, laidKinds := [.data, .listed, .data, .pinned], laidTests := true, laidLooks := .later }
def SavedPathsCardSaid : Prop := Claim7.holds Tryz.pinned (.plain (OpenSpec.ofChange savedPathsSpec)) savedPathsCard

/-- THE TIED CARD OF 'codesearchlaw48.SavedAlerts'. -/
def savedAlertsCard : Claim7 := { stood := { row := savedAlertsRow, standIns := [], harness := (true, "3c33d1ecc56a9c1aa3e6ba9962f066e7116773d5ccd578317d38a2f06b60b921"), looks := true }, kinds := [], alts := [], laidByText := true, laidKinds := [.data, .listed, .data, .pinned], laidTests := true, laidLooks := .later }
def SavedAlertsCardSaid : Prop := Claim7.holds Tryz.pinned (.plain (OpenSpec.ofChange savedAlertsSpec)) savedAlertsCard

/-- THE TIED CARD OF 'codesearchlaw48.SavedChanges'. -/
def savedChangesCard : Claim7 := { stood := { row := savedChangesRow, standIns := [], harness := (true, "3c33d1ecc56a9c1aa3e6ba9962f066e7116773d5ccd578317d38a2f06b60b921"), looks := true }, kinds := [], alts := [], laidByText := true, laidKinds := [.data, .listed, .data, .pinned], laidTests := true, laidLooks := .later }
def SavedChangesCardSaid : Prop := Claim7.holds Tryz.pinned (.plain (OpenSpec.ofChange savedChangesSpec)) savedChangesCard

/-- THE SECOND FORM's CARD OF 'codesearchlaw48.SavedLists'. -/
def savedListsUptoCard : Claim7 := { stood := { row := savedListsUptoRow, standIns := [], harness := (true, "3c33d1ecc56a9c1aa3e6ba9962f066e7116773d5ccd578317d38a2f06b60b921"), looks := true }, kinds := [], alts := [], laidByText := true, laidKinds := [.data, .listed, .data, .pinned], laidTests := true, laidLooks := .later }
def SavedListsUptoCardSaid : Prop := Claim7.holds Tryz.pinned (.plain (OpenSpec.upto savedListsSpec)) savedListsUptoCard

/-- THE SECOND FORM's CARD OF 'codesearchlaw48.SavedTurns'. -/
def savedTurnsUptoCard : Claim7 := { stood := { row := savedTurnsUptoRow, standIns := [], harness := (true, "3c33d1ecc56a9c1aa3e6ba9962f066e7116773d5ccd578317d38a2f06b60b921"), looks := true }, kinds := [], alts := [], laidByText := true, laidKinds := [.data, .listed, .data, .pinned], laidTests := true, laidLooks := .later }
def SavedTurnsUptoCardSaid : Prop := Claim7.holds Tryz.pinned (.plain (OpenSpec.upto savedTurnsSpec)) savedTurnsUptoCard

/-- THE SECOND FORM's CARD OF 'codesearchlaw48.SavedPaths'. -/
def savedPathsUptoCard : Claim7 := { stood := { row := savedPathsUptoRow, standIns := [], harness := (true, "3c33d1ecc56a9c1aa3e6ba9962f066e7116773d5ccd578317d38a2f06b60b921"), looks := true }, kinds := [], alts := [], laidByText := true, laidKinds := [.data, .listed, .data, .pinned], laidTests := true, laidLooks := .later }
def SavedPathsUptoCardSaid : Prop := Claim7.holds Tryz.pinned (.plain (OpenSpec.upto savedPathsSpec)) savedPathsUptoCard

/-- THE SECOND FORM's CARD OF 'codesearchlaw48.SavedAlerts'. -/
def savedAlertsUptoCard : Claim7 := { stood := { row := savedAlertsUptoRow, standIns := [], harness := (true, "3c33d1ecc56a9c1aa3e6ba9962f066e7116773d5ccd578317d38a2f06b60b921"), looks := true }, kinds := [], alts := [], laidByText := true, laidKinds := [.data, .listed, .data, .pinned], laidTests := true, laidLooks := .later }
def SavedAlertsUptoCardSaid : Prop := Claim7.holds Tryz.pinned (.plain (OpenSpec.upto savedAlertsSpec)) savedAlertsUptoCard

/-- THE SECOND FORM's CARD OF 'codesearchlaw48.SavedChanges'. -/
def savedChangesUptoCard : Claim7 := { stood := { row := savedChangesUptoRow, standIns := [], harness := (true, "3c33d1ecc56a9c1aa3e6ba9962f066e7116773d5ccd578317d38a2f06b60b921"), looks := true }, kinds := [], alts := [], laidByText := true, laidKinds := [.data, .listed, .data, .pinned], laidTests := true, laidLooks := .later }
def SavedChangesUptoCardSaid : Prop := Claim7.holds Tryz.pinned (.plain (OpenSpec.upto savedChangesSpec)) savedChangesUptoCard
end Rows
end Go.Proofs.YtifahgjmdiandaaGreatDoor
