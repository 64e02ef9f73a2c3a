/-
  DERIVED. GIVEN WITH THE SEED: THE CARDS: each row of YteblemencneeoaaGreatDoorRows.lean that lists a variable, with what it lists TIED to the program's text (the seventh form; the later family's looks); each row that meets fmt, with fmt's text TOLD by the authors' own Lean function (tested against real Go, not proved from fmt's source: count such statements apart). THE CARD IS WHAT COUNTS. Prove the row's statement (the work); the ties are given (YteblemencneeoaaGreatDoorTie.lean); close each card by the builder's one call (the guide's Derived/Test/ToyasCard.lean, 'card_holds'). Laid BY PROGRAM, IN A SANDBOX (cutbox-door.mjs). By AI agents, Wed Nov 11 2026. No macro, syntax, notation, axiom, sorry.
-/
import Derived.Test.YteblemencneeoaaGreatDoorRows
import GoSem.ClaimSeven
namespace Go.Proofs.YteblemencneeoaaGreatDoor
namespace Rows

/-- THE TIED CARD OF 'codesearchlaw40.ScoreLesses'. -/
def scoreLessesCard : Claim7 := { stood := { row := scoreLessesRow, standIns := [], harness := (true, "69c5aa23f72525089172d5f62699cad2eb59ada74e8243cb6c15f5aa0fdaa9a2"), looks := true }, kinds := [], alts := [], laidByText := true, laidKinds := [.data, .listed, .data, .pinned], laidTests := true, laidLooks := .later }
def ScoreLessesCardSaid : Prop := Claim7.holds Tryz.pinned (.plain (OpenSpec.ofChange scoreLessesSpec)) scoreLessesCard

/-- THE TIED CARD OF 'codesearchlaw40.ScoreOrder'. -/
def scoreOrderCard : Claim7 := { stood := { row := scoreOrderRow, standIns := [], harness := (true, "69c5aa23f72525089172d5f62699cad2eb59ada74e8243cb6c15f5aa0fdaa9a2"), looks := true }, kinds := [], alts := [], laidByText := true, laidKinds := [.data, .listed, .data, .pinned], laidTests := true, laidLooks := .later }
def ScoreOrderCardSaid : Prop := Claim7.holds Tryz.pinned (.plain (OpenSpec.ofChange scoreOrderSpec)) scoreOrderCard

/-- THE TIED CARD OF 'codesearchlaw40.ScoreSorts'. -/
def scoreSortsCard : Claim7 := { stood := { row := scoreSortsRow, standIns := [], harness := (true, "69c5aa23f72525089172d5f62699cad2eb59ada74e8243cb6c15f5aa0fdaa9a2"), looks := true }, kinds := [], alts := [], laidByText := true, laidKinds := [.data, .listed, .data, .pinned], laidTests := true, laidLooks := .later }
def ScoreSortsCardSaid : Prop := Claim7.holds Tryz.pinned (.plain (OpenSpec.ofChange scoreSortsSpec)) scoreSortsCard

/-- THE TIED CARD OF 'codesearchlaw40.ScoreMerges'. -/
def scoreMergesCard : Claim7 := { stood := { row := scoreMergesRow, standIns := [], harness := (true, "69c5aa23f72525089172d5f62699cad2eb59ada74e8243cb6c15f5aa0fdaa9a2"), looks := true }, kinds := [], alts := [], laidByText := true, laidKinds := [.data, .listed, .data, .pinned], laidTests := true, laidLooks := .later }
def ScoreMergesCardSaid : Prop := Claim7.holds Tryz.pinned (.plain (OpenSpec.ofChange scoreMergesSpec)) scoreMergesCard

/-- THE SECOND FORM's CARD OF 'codesearchlaw40.ScoreLesses'. -/
def scoreLessesUptoCard : Claim7 := { stood := { row := scoreLessesUptoRow, standIns := [], harness := (true, "69c5aa23f72525089172d5f62699cad2eb59ada74e8243cb6c15f5aa0fdaa9a2"), looks := true }, kinds := [], alts := [], laidByText := true, laidKinds := [.data, .listed, .data, .pinned], laidTests := true, laidLooks := .later }
def ScoreLessesUptoCardSaid : Prop := Claim7.holds Tryz.pinned (.plain (OpenSpec.upto scoreLessesSpec)) scoreLessesUptoCard

/-- THE SECOND FORM's CARD OF 'codesearchlaw40.ScoreOrder'. -/
def scoreOrderUptoCard : Claim7 := { stood := { row := scoreOrderUptoRow, standIns := [], harness := (true, "69c5aa23f72525089172d5f62699cad2eb59ada74e8243cb6c15f5aa0fdaa9a2"), looks := true }, kinds := [], alts := [], laidByText := true, laidKinds := [.data, .listed, .data, .pinned], laidTests := true, laidLooks := .later }
def ScoreOrderUptoCardSaid : Prop := Claim7.holds Tryz.pinned (.plain (OpenSpec.upto scoreOrderSpec)) scoreOrderUptoCard

/-- THE SECOND FORM's CARD OF 'codesearchlaw40.ScoreSorts'. -/
def scoreSortsUptoCard : Claim7 := { stood := { row := scoreSortsUptoRow, standIns := [], harness := (true, "69c5aa23f72525089172d5f62699cad2eb59ada74e8243cb6c15f5aa0fdaa9a2"), looks := true }, kinds := [], alts := [], laidByText := true, laidKinds := [.data, .listed, .data, .pinned], laidTests := true, laidLooks := .later }
def ScoreSortsUptoCardSaid : Prop := Claim7.holds Tryz.pinned (.plain (OpenSpec.upto scoreSortsSpec)) scoreSortsUptoCard

/-- THE SECOND FORM's CARD OF 'codesearchlaw40.ScoreMerges'. -/
def scoreMergesUptoCard : Claim7 := { stood := { row := scoreMergesUptoRow, standIns := [], harness := (true, "69c5aa23f72525089172d5f62699cad2eb59ada74e8243cb6c15f5aa0fdaa9a2"), looks := true }, kinds := [], alts := [], laidByText := true, laidKinds := [.data, .listed, .data, .pinned], laidTests := true, laidLooks := .later }
def ScoreMergesUptoCardSaid : Prop := Claim7.holds Tryz.pinned (.plain (OpenSpec.upto scoreMergesSpec)) scoreMergesUptoCard
end Rows
end Go.Proofs.YteblemencneeoaaGreatDoor
