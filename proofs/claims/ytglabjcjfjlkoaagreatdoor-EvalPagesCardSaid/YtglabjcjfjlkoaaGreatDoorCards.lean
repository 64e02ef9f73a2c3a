/-
  DERIVED. GIVEN WITH THE SEED: THE CARDS: each row of YtglabjcjfjlkoaaGreatDoorRows.lean that lists a variable, with what it lists TIED to the program's text (the seventh form; the later family's looks); each row that meets fmt, with fmt's text TOLD by the authors' own Lean function (tested against real Go, not proved from fmt's source: count such statements apart). THE CARD IS WHAT COUNTS. Prove the row's statement (the work); the ties are given (YtglabjcjfjlkoaaGreatDoorTie.lean); close each card by the builder's one call (the guide's Derived/Test/ToyasCard.lean, 'card_holds'). Laid BY PROGRAM, IN A SANDBOX (cutbox-door.mjs). By AI agents, Wed Nov 11 2026. No macro, syntax, notation, axiom, sorry.
-/
import Derived.Test.YtglabjcjfjlkoaaGreatDoorRows
import GoSem.ClaimSeven
namespace Go.Proofs.YtglabjcjfjlkoaaGreatDoor
namespace Rows

/-- THE TIED CARD OF 'codesearchlaw41.EvalPages'. -/
def evalPagesCard : Claim7 := { stood := { row := evalPagesRow, standIns := [], harness := (true, "c2cc86c29f82775a2cd973e079adf19f5cbb5986474e915f1378f109588d00b6"), looks := true }, kinds := [], alts := [], laidByText := true, laidKinds := [.data, .listed, .data, .pinned], laidTests := true, laidLooks := .later }
def EvalPagesCardSaid : Prop := Claim7.holds Tryz.pinned (.plain (OpenSpec.ofChange evalPagesSpec)) evalPagesCard

/-- THE SECOND FORM's CARD OF 'codesearchlaw41.EvalPages'. -/
def evalPagesUptoCard : Claim7 := { stood := { row := evalPagesUptoRow, standIns := [], harness := (true, "c2cc86c29f82775a2cd973e079adf19f5cbb5986474e915f1378f109588d00b6"), looks := true }, kinds := [], alts := [], laidByText := true, laidKinds := [.data, .listed, .data, .pinned], laidTests := true, laidLooks := .later }
def EvalPagesUptoCardSaid : Prop := Claim7.holds Tryz.pinned (.plain (OpenSpec.upto evalPagesSpec)) evalPagesUptoCard
end Rows
end Go.Proofs.YtglabjcjfjlkoaaGreatDoor
