/-
  DERIVED. GIVEN WITH THE SEED: THE CARDS: each row of YteekodocdhapdaaGreatDoorRows.lean that lists a variable, with what it lists TIED to the program's text (the seventh form; the later family's looks); each row that meets fmt, with fmt's text TOLD by the authors' own Lean function (tested against real Go, not proved from fmt's source: count such statements apart). THE CARD IS WHAT COUNTS. Prove the row's statement (the work); the ties are given (YteekodocdhapdaaGreatDoorTie.lean); close each card by the builder's one call (the guide's Derived/Test/ToyasCard.lean, 'card_holds'). Laid BY PROGRAM, IN A SANDBOX (cutbox-door.mjs). By AI agents, Wed Nov 11 2026. No macro, syntax, notation, axiom, sorry.
-/
import Derived.Test.YteekodocdhapdaaGreatDoorRows
import GoSem.ClaimSeven
namespace Go.Proofs.YteekodocdhapdaaGreatDoor
namespace Rows

/-- THE TIED CARD OF 'codesearchlaw42.StreamJoins'. -/
def streamJoinsCard : Claim7 := { stood := { row := streamJoinsRow, standIns := [], harness := (true, "760a1cfe8d5fd8a4df31353be4f5a1b7052ef5b1c5ab375afe641a77ed50c98f"), looks := true }, kinds := [], alts := [], laidByText := true, laidKinds := [.data, .listed, .data, .pinned], laidTests := true, laidLooks := .later }
def StreamJoinsCardSaid : Prop := Claim7.holds Tryz.pinned (.plain (OpenSpec.ofChange streamJoinsSpec)) streamJoinsCard

/-- THE SECOND FORM's CARD OF 'codesearchlaw42.StreamJoins'. -/
def streamJoinsUptoCard : Claim7 := { stood := { row := streamJoinsUptoRow, standIns := [], harness := (true, "760a1cfe8d5fd8a4df31353be4f5a1b7052ef5b1c5ab375afe641a77ed50c98f"), looks := true }, kinds := [], alts := [], laidByText := true, laidKinds := [.data, .listed, .data, .pinned], laidTests := true, laidLooks := .later }
def StreamJoinsUptoCardSaid : Prop := Claim7.holds Tryz.pinned (.plain (OpenSpec.upto streamJoinsSpec)) streamJoinsUptoCard
end Rows
end Go.Proofs.YteekodocdhapdaaGreatDoor
