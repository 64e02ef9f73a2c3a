/-
  DERIVED. GIVEN WITH THE SEED: THE CARDS: each row of YtlngaccdjnmgeaaDoorRows.lean that lists a variable, with what it lists TIED to the program's text (the seventh form; the later family's looks); each row that meets fmt, with fmt's text TOLD by the authors' own Lean function (tested against real Go, not proved from fmt's source: count such statements apart). THE CARD IS WHAT COUNTS. Prove the row's statement (the work); the ties are given (YtlngaccdjnmgeaaDoorTie.lean); close each card by the builder's one call (the guide's Derived/Test/ToyasCard.lean, 'card_holds'). Laid BY PROGRAM, IN A SANDBOX (cutbox-door.mjs). By AI agents, Wed Nov 11 2026. No macro, syntax, notation, axiom, sorry.
-/
import Derived.Test.YtlngaccdjnmgeaaDoorRows
import GoSem.ClaimSeven
namespace Go.Proofs.YtlngaccdjnmgeaaDoor
namespace Rows

/-- THE TIED CARD OF 'codesearchlaw44.AccessFirst'. -/
def accessFirstCard : Claim7 := { stood := { row := accessFirstRow, standIns := [], harness := (true, "0e32c48938a321df9fd4cea917e88490a9506edf160144c707679f8c4179e56a"), looks := false }, kinds := [], alts := [], laidByText := true, laidKinds := [.data, .pinned], laidTests := true, laidLooks := .later }
def AccessFirstCardSaid : Prop := Claim7.holds Tryd.pinned (.plain (OpenSpec.ofChange accessFirstSpec)) accessFirstCard

/-- THE TIED CARD OF 'codesearchlaw44.AccessBehind'. -/
def accessBehindCard : Claim7 := { stood := { row := accessBehindRow, standIns := [], harness := (true, "0e32c48938a321df9fd4cea917e88490a9506edf160144c707679f8c4179e56a"), looks := false }, kinds := [], alts := [], laidByText := true, laidKinds := [.data, .pinned], laidTests := true, laidLooks := .later }
def AccessBehindCardSaid : Prop := Claim7.holds Tryd.pinned (.plain (OpenSpec.ofChange accessBehindSpec)) accessBehindCard

/-- THE TIED CARD OF 'codesearchlaw44.AccessSplits'. -/
def accessSplitsCard : Claim7 := { stood := { row := accessSplitsRow, standIns := [], harness := (true, "0e32c48938a321df9fd4cea917e88490a9506edf160144c707679f8c4179e56a"), looks := false }, kinds := [], alts := [], laidByText := true, laidKinds := [.data, .pinned], laidTests := true, laidLooks := .later }
def AccessSplitsCardSaid : Prop := Claim7.holds Tryd.pinned (.plain (OpenSpec.ofChange accessSplitsSpec)) accessSplitsCard

/-- THE SECOND FORM's CARD OF 'codesearchlaw44.AccessFirst'. -/
def accessFirstUptoCard : Claim7 := { stood := { row := accessFirstUptoRow, standIns := [], harness := (true, "0e32c48938a321df9fd4cea917e88490a9506edf160144c707679f8c4179e56a"), looks := false }, kinds := [], alts := [], laidByText := true, laidKinds := [.data, .pinned], laidTests := true, laidLooks := .later }
def AccessFirstUptoCardSaid : Prop := Claim7.holds Tryd.pinned (.plain (OpenSpec.upto accessFirstSpec)) accessFirstUptoCard

/-- THE SECOND FORM's CARD OF 'codesearchlaw44.AccessBehind'. -/
def accessBehindUptoCard : Claim7 := { stood := { row := accessBehindUptoRow, standIns := [], harness := (true, "0e32c48938a321df9fd4cea917e88490a9506edf160144c707679f8c4179e56a"), looks := false }, kinds := [], alts := [], laidByText := true, laidKinds := [.data, .pinned], laidTests := true, laidLooks := .later }
def AccessBehindUptoCardSaid : Prop := Claim7.holds Tryd.pinned (.plain (OpenSpec.upto accessBehindSpec)) accessBehindUptoCard

/-- THE SECOND FORM's CARD OF 'codesearchlaw44.AccessSplits'. -/
def accessSplitsUptoCard : Claim7 := { stood := { row := accessSplitsUptoRow, standIns := [], harness := (true, "0e32c48938a321df9fd4cea917e88490a9506edf160144c707679f8c4179e56a"), looks := false }, kinds := [], alts := [], laidByText := true, laidKinds := [.data, .pinned], laidTests := true, laidLooks := .later }
def AccessSplitsUptoCardSaid : Prop := Claim7.holds Tryd.pinned (.plain (OpenSpec.upto accessSplitsSpec)) accessSplitsUptoCard
end Rows
end Go.Proofs.YtlngaccdjnmgeaaDoor
