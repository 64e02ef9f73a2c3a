/-
  DERIVED. GIVEN WITH THE SEED: THE CARDS: each row of YtlngaccdjnmgeaaGreatDoorRows.lean that lists a variable, with what it lists TIED to the program's text (the seventh form; the later family's looks); each row that meets fmt, with fmt's text TOLD by the authors' own Lean function (tested against real Go, not proved from fmt's source: count such statements apart). THE CARD IS WHAT COUNTS. Prove the row's statement (the work); the ties are given (YtlngaccdjnmgeaaGreatDoorTie.lean); close each card by the builder's one call (the guide's Derived/Test/ToyasCard.lean, 'card_holds'). Laid BY PROGRAM, IN A SANDBOX (cutbox-door.mjs). By AI agents, Wed Nov 11 2026. No macro, syntax, notation, axiom, sorry.
-/
import Derived.Test.YtlngaccdjnmgeaaGreatDoorRows
import GoSem.ClaimSeven
namespace Go.Proofs.YtlngaccdjnmgeaaGreatDoor
namespace Rows

/-- THE TIED CARD OF 'codesearchlaw44.AccessRights'. -/
def accessRightsCard : Claim7 := { stood := { row := accessRightsRow, standIns := [], harness := (true, "5e409cdcce55c1c45940a48f268113d8ed962c3d7938ee63e4531697e0d42d06"), looks := false }, kinds := [], alts := [], laidByText := true, laidKinds := [.data, .pinned], laidTests := true, laidLooks := .later }
def AccessRightsCardSaid : Prop := Claim7.holds Tryz.pinned (.plain (OpenSpec.ofChange accessRightsSpec)) accessRightsCard

/-- THE TIED CARD OF 'codesearchlaw44.AccessCans'. -/
def accessCansCard : Claim7 := { stood := { row := accessCansRow, standIns := [], harness := (true, "5e409cdcce55c1c45940a48f268113d8ed962c3d7938ee63e4531697e0d42d06"), looks := false }, kinds := [], alts := [], laidByText := true, laidKinds := [.data, .pinned], laidTests := true, laidLooks := .later }
def AccessCansCardSaid : Prop := Claim7.holds Tryz.pinned (.plain (OpenSpec.ofChange accessCansSpec)) accessCansCard

/-- THE TIED CARD OF 'codesearchlaw44.AccessLists'. -/
def accessListsCard : Claim7 := { stood := { row := accessListsRow, standIns := [], harness := (true, "5e409cdcce55c1c45940a48f268113d8ed962c3d7938ee63e4531697e0d42d06"), looks := false }, kinds := [], alts := [], laidByText := true, laidKinds := [.data, .pinned], laidTests := true, laidLooks := .later }
def AccessListsCardSaid : Prop := Claim7.holds Tryz.pinned (.plain (OpenSpec.ofChange accessListsSpec)) accessListsCard

/-- THE SECOND FORM's CARD OF 'codesearchlaw44.AccessRights'. -/
def accessRightsUptoCard : Claim7 := { stood := { row := accessRightsUptoRow, standIns := [], harness := (true, "5e409cdcce55c1c45940a48f268113d8ed962c3d7938ee63e4531697e0d42d06"), looks := false }, kinds := [], alts := [], laidByText := true, laidKinds := [.data, .pinned], laidTests := true, laidLooks := .later }
def AccessRightsUptoCardSaid : Prop := Claim7.holds Tryz.pinned (.plain (OpenSpec.upto accessRightsSpec)) accessRightsUptoCard

/-- THE SECOND FORM's CARD OF 'codesearchlaw44.AccessCans'. -/
def accessCansUptoCard : Claim7 := { stood := { row := accessCansUptoRow, standIns := [], harness := (true, "5e409cdcce55c1c45940a48f268113d8ed962c3d7938ee63e4531697e0d42d06"), looks := false }, kinds := [], alts := [], laidByText := true, laidKinds := [.data, .pinned], laidTests := true, laidLooks := .later }
def AccessCansUptoCardSaid : Prop := Claim7.holds Tryz.pinned (.plain (OpenSpec.upto accessCansSpec)) accessCansUptoCard

/-- THE SECOND FORM's CARD OF 'codesearchlaw44.AccessLists'. -/
def accessListsUptoCard : Claim7 := { stood := { row := accessListsUptoRow, standIns := [], harness := (true, "5e409cdcce55c1c45940a48f268113d8ed962c3d7938ee63e4531697e0d42d06"), looks := false }, kinds := [], alts := [], laidByText := true, laidKinds := [.data, .pinned], laidTests := true, laidLooks := .later }
def AccessListsUptoCardSaid : Prop := Claim7.holds Tryz.pinned (.plain (OpenSpec.upto accessListsSpec)) accessListsUptoCard
end Rows
end Go.Proofs.YtlngaccdjnmgeaaGreatDoor
