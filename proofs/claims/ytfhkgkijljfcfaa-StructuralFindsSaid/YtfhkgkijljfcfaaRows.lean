/-
  NARROWER THAN 'FOR EVERY INPUT', by the rows' own cells (each row's printed sentence says how): StructuralMatches: loops · StructuralAlls: loops · StructuralOuters: loops · StructuralFills: loops · StructuralFinds: loops · StructuralPlaces: loops.
  DERIVED. THE GIVEN ROWS OF THIS SEAT. 6 by the template 'for every input the law returns true; each argument reads behind the call as it read before'; 0 by the template 'total and deterministic' (their statements: YtfhkgkijljfcfaaTotals.lean).
  GIVEN WITH THE SEED: the statements are not yours to turn. If you find one false, say at which input.
  Laid BY PROGRAM, IN A SANDBOX (cutbox-rows.mjs): the forced cells as the released guide's own fill.sh prints them over the translation 8eb3d46a6ed929db… (all of the seat's roots in one cut). By AI agents, Wed Nov 11 2026. No macro, syntax, notation, axiom, sorry.
-/
import Derived.Test.YtfhkgkijljfcfaaChecked
import GoSem.Claim
import GoSem.ClaimJoined
import GoSem.ClaimMapViews
import Derived.JoinedTies
import Derived.KernelRfl
namespace Go.Proofs.Ytfhkgkijljfcfaa
/- THE CELL 'sum', in the pinned program and in every row, IS THE sha256 OF THE DUMP (.gsa) THAT YtfhkgkijljfcfaaProg.lean LOADS. Nothing in Lean hashes anything: it is a label: what it is worth is what the hold of that sum in a sandbox is worth. -/
noncomputable def Try.pinned : Pinned := { name := "ytfhkgkijljfcfaa", sum := "8eb3d46a6ed929dbbf300eb8026955be8225e26761c793c2e8739e5858838f33", checked := Try.checked }
namespace Rows
def none {H : Type} : Left H := { results := [], args := [] }

/-- 'codesearchlaw19.StructuralMatches': WHATEVER THE INPUT: true; the input reads as it did. -/
def structuralMatchesSpec : ChangeSpec := { name := "structuralMatches", fn := fun _ => fun
  | [d1, d2] => { results := [.lit (.bool true)], args := [d1, d2] }
  | _ => none }
def structuralMatchesRow : OpenClaim := { program := "ytfhkgkijljfcfaa", sum := "8eb3d46a6ed929dbbf300eb8026955be8225e26761c793c2e8739e5858838f33", func := "codesearch/codesearchlaw19.StructuralMatches", spec := "structuralMatches", unfollowed := true, recurses := true, loops := true, apart := false }
def StructuralMatchesSaid : Prop := structuralMatchesRow.holds Try.pinned (OpenSpec.ofChange structuralMatchesSpec)

/-- ITS FALSE NEIGHBOUR: 'it returns false'. Refute it at one input. -/
def structuralMatchesWrong : ChangeSpec := { name := "structuralMatches", fn := fun _ => fun
  | [d1, d2] => { results := [.lit (.bool false)], args := [d1, d2] }
  | _ => none }
def StructuralMatchesWrongFalsely : Prop := structuralMatchesRow.holds Try.pinned (OpenSpec.ofChange structuralMatchesWrong)

/-- 'codesearchlaw19.StructuralAlls': WHATEVER THE INPUT: true; the input reads as it did. -/
def structuralAllsSpec : ChangeSpec := { name := "structuralAlls", fn := fun _ => fun
  | [d1, d2] => { results := [.lit (.bool true)], args := [d1, d2] }
  | _ => none }
def structuralAllsRow : OpenClaim := { program := "ytfhkgkijljfcfaa", sum := "8eb3d46a6ed929dbbf300eb8026955be8225e26761c793c2e8739e5858838f33", func := "codesearch/codesearchlaw19.StructuralAlls", spec := "structuralAlls", unfollowed := true, recurses := true, loops := true, apart := false }
def StructuralAllsSaid : Prop := structuralAllsRow.holds Try.pinned (OpenSpec.ofChange structuralAllsSpec)

/-- ITS FALSE NEIGHBOUR: 'it returns false'. Refute it at one input. -/
def structuralAllsWrong : ChangeSpec := { name := "structuralAlls", fn := fun _ => fun
  | [d1, d2] => { results := [.lit (.bool false)], args := [d1, d2] }
  | _ => none }
def StructuralAllsWrongFalsely : Prop := structuralAllsRow.holds Try.pinned (OpenSpec.ofChange structuralAllsWrong)

/-- 'codesearchlaw19.StructuralOuters': WHATEVER THE INPUT: true; the input reads as it did. -/
def structuralOutersSpec : ChangeSpec := { name := "structuralOuters", fn := fun _ => fun
  | [d1, d2, d3] => { results := [.lit (.bool true)], args := [d1, d2, d3] }
  | _ => none }
def structuralOutersRow : OpenClaim := { program := "ytfhkgkijljfcfaa", sum := "8eb3d46a6ed929dbbf300eb8026955be8225e26761c793c2e8739e5858838f33", func := "codesearch/codesearchlaw19.StructuralOuters", spec := "structuralOuters", unfollowed := true, recurses := true, loops := true, apart := false }
def StructuralOutersSaid : Prop := structuralOutersRow.holds Try.pinned (OpenSpec.ofChange structuralOutersSpec)

/-- ITS FALSE NEIGHBOUR: 'it returns false'. Refute it at one input. -/
def structuralOutersWrong : ChangeSpec := { name := "structuralOuters", fn := fun _ => fun
  | [d1, d2, d3] => { results := [.lit (.bool false)], args := [d1, d2, d3] }
  | _ => none }
def StructuralOutersWrongFalsely : Prop := structuralOutersRow.holds Try.pinned (OpenSpec.ofChange structuralOutersWrong)

/-- 'codesearchlaw19.StructuralFills': WHATEVER THE INPUT: true; the input reads as it did. -/
def structuralFillsSpec : ChangeSpec := { name := "structuralFills", fn := fun _ => fun
  | [d1, d2] => { results := [.lit (.bool true)], args := [d1, d2] }
  | _ => none }
def structuralFillsRow : OpenClaim := { program := "ytfhkgkijljfcfaa", sum := "8eb3d46a6ed929dbbf300eb8026955be8225e26761c793c2e8739e5858838f33", func := "codesearch/codesearchlaw19.StructuralFills", spec := "structuralFills", unfollowed := true, recurses := true, loops := true, apart := false }
def StructuralFillsSaid : Prop := structuralFillsRow.holds Try.pinned (OpenSpec.ofChange structuralFillsSpec)

/-- ITS FALSE NEIGHBOUR: 'it returns false'. Refute it at one input. -/
def structuralFillsWrong : ChangeSpec := { name := "structuralFills", fn := fun _ => fun
  | [d1, d2] => { results := [.lit (.bool false)], args := [d1, d2] }
  | _ => none }
def StructuralFillsWrongFalsely : Prop := structuralFillsRow.holds Try.pinned (OpenSpec.ofChange structuralFillsWrong)

/-- 'codesearchlaw19.StructuralFinds': WHATEVER THE INPUT: true; the input reads as it did. -/
def structuralFindsSpec : ChangeSpec := { name := "structuralFinds", fn := fun _ => fun
  | [d1, d2, d3] => { results := [.lit (.bool true)], args := [d1, d2, d3] }
  | _ => none }
def structuralFindsRow : OpenClaim := { program := "ytfhkgkijljfcfaa", sum := "8eb3d46a6ed929dbbf300eb8026955be8225e26761c793c2e8739e5858838f33", func := "codesearch/codesearchlaw19.StructuralFinds", spec := "structuralFinds", unfollowed := true, recurses := true, loops := true, apart := false }
def StructuralFindsSaid : Prop := structuralFindsRow.holds Try.pinned (OpenSpec.ofChange structuralFindsSpec)

/-- ITS FALSE NEIGHBOUR: 'it returns false'. Refute it at one input. -/
def structuralFindsWrong : ChangeSpec := { name := "structuralFinds", fn := fun _ => fun
  | [d1, d2, d3] => { results := [.lit (.bool false)], args := [d1, d2, d3] }
  | _ => none }
def StructuralFindsWrongFalsely : Prop := structuralFindsRow.holds Try.pinned (OpenSpec.ofChange structuralFindsWrong)

/-- 'codesearchlaw19.StructuralPlaces': WHATEVER THE INPUT: true; the input reads as it did. -/
def structuralPlacesSpec : ChangeSpec := { name := "structuralPlaces", fn := fun _ => fun
  | [d1, d2] => { results := [.lit (.bool true)], args := [d1, d2] }
  | _ => none }
def structuralPlacesRow : OpenClaim := { program := "ytfhkgkijljfcfaa", sum := "8eb3d46a6ed929dbbf300eb8026955be8225e26761c793c2e8739e5858838f33", func := "codesearch/codesearchlaw19.StructuralPlaces", spec := "structuralPlaces", unfollowed := true, recurses := true, loops := true, apart := false }
def StructuralPlacesSaid : Prop := structuralPlacesRow.holds Try.pinned (OpenSpec.ofChange structuralPlacesSpec)

/-- ITS FALSE NEIGHBOUR: 'it returns false'. Refute it at one input. -/
def structuralPlacesWrong : ChangeSpec := { name := "structuralPlaces", fn := fun _ => fun
  | [d1, d2] => { results := [.lit (.bool false)], args := [d1, d2] }
  | _ => none }
def StructuralPlacesWrongFalsely : Prop := structuralPlacesRow.holds Try.pinned (OpenSpec.ofChange structuralPlacesWrong)

/- THE SECOND FORM. 'bulk': how many values and letters a reading holds, each counted each time it is reached (what is shared counts as often as it is met; a slice's spare places count too). A statement '..UptoSaid' is the law's where the arguments, and the package variables that the reading takes, are together of bulk at most 1048576: NARROWER than '..Said'. Prove '..Said' where nothing that the law and all that it calls make is longer than what came in: it says more and counts as full. Else prove '..UptoSaid'. A law counts once. -/
mutual
def uptoBulk {H : Type} : DataW H → Nat
  | .lit (.string bytes) => bytes.length + 1
  | .lit _ => 1
  | .nil => 1
  | .ptr d => uptoBulk d + 1
  | .slice elems spare => uptoBulkAll elems + uptoBulkAll spare + 1
  | .agg parts => uptoBulkAll parts + 1
  | .iface _ d => uptoBulk d + 1
  | .map entries => uptoBulkEntries entries + 1
  | .held _ => 1
def uptoBulkAll {H : Type} : List (DataW H) → Nat
  | [] => 0
  | d :: r => uptoBulk d + uptoBulkAll r
def uptoBulkEntries {H : Type} : List (Lit × DataW H) → Nat
  | [] => 0
  | x :: r => uptoBulkEntry x + uptoBulkEntries r
def uptoBulkEntry {H : Type} : Lit × DataW H → Nat
  | (.string bytes, d) => bytes.length + uptoBulk d + 1
  | (_, d) => uptoBulk d + 1
 end
def uptoSmall : (H : Type) → List (DataW H) → Bool := fun _ ds => decide (uptoBulkAll ds ≤ 1048576)
def OpenSpec.upto (s : _root_.Go.ChangeSpec) : _root_.Go.OpenSpec := { _root_.Go.OpenSpec.ofChange s with cond := some uptoSmall }

/-- 'codesearchlaw19.StructuralMatches', WHERE WHAT IT READS IS OF BULK AT MOST 1048576: true; the input reads as it did. -/
def structuralMatchesUptoRow : OpenClaim := { program := "ytfhkgkijljfcfaa", sum := "8eb3d46a6ed929dbbf300eb8026955be8225e26761c793c2e8739e5858838f33", func := "codesearch/codesearchlaw19.StructuralMatches", spec := "structuralMatches", unfollowed := true, recurses := true, loops := true, apart := false, narrowed := true }
def StructuralMatchesUptoSaid : Prop := structuralMatchesUptoRow.holds Try.pinned (OpenSpec.upto structuralMatchesSpec)

/-- 'codesearchlaw19.StructuralAlls', WHERE WHAT IT READS IS OF BULK AT MOST 1048576: true; the input reads as it did. -/
def structuralAllsUptoRow : OpenClaim := { program := "ytfhkgkijljfcfaa", sum := "8eb3d46a6ed929dbbf300eb8026955be8225e26761c793c2e8739e5858838f33", func := "codesearch/codesearchlaw19.StructuralAlls", spec := "structuralAlls", unfollowed := true, recurses := true, loops := true, apart := false, narrowed := true }
def StructuralAllsUptoSaid : Prop := structuralAllsUptoRow.holds Try.pinned (OpenSpec.upto structuralAllsSpec)

/-- 'codesearchlaw19.StructuralOuters', WHERE WHAT IT READS IS OF BULK AT MOST 1048576: true; the input reads as it did. -/
def structuralOutersUptoRow : OpenClaim := { program := "ytfhkgkijljfcfaa", sum := "8eb3d46a6ed929dbbf300eb8026955be8225e26761c793c2e8739e5858838f33", func := "codesearch/codesearchlaw19.StructuralOuters", spec := "structuralOuters", unfollowed := true, recurses := true, loops := true, apart := false, narrowed := true }
def StructuralOutersUptoSaid : Prop := structuralOutersUptoRow.holds Try.pinned (OpenSpec.upto structuralOutersSpec)

/-- 'codesearchlaw19.StructuralFills', WHERE WHAT IT READS IS OF BULK AT MOST 1048576: true; the input reads as it did. -/
def structuralFillsUptoRow : OpenClaim := { program := "ytfhkgkijljfcfaa", sum := "8eb3d46a6ed929dbbf300eb8026955be8225e26761c793c2e8739e5858838f33", func := "codesearch/codesearchlaw19.StructuralFills", spec := "structuralFills", unfollowed := true, recurses := true, loops := true, apart := false, narrowed := true }
def StructuralFillsUptoSaid : Prop := structuralFillsUptoRow.holds Try.pinned (OpenSpec.upto structuralFillsSpec)

/-- 'codesearchlaw19.StructuralFinds', WHERE WHAT IT READS IS OF BULK AT MOST 1048576: true; the input reads as it did. -/
def structuralFindsUptoRow : OpenClaim := { program := "ytfhkgkijljfcfaa", sum := "8eb3d46a6ed929dbbf300eb8026955be8225e26761c793c2e8739e5858838f33", func := "codesearch/codesearchlaw19.StructuralFinds", spec := "structuralFinds", unfollowed := true, recurses := true, loops := true, apart := false, narrowed := true }
def StructuralFindsUptoSaid : Prop := structuralFindsUptoRow.holds Try.pinned (OpenSpec.upto structuralFindsSpec)

/-- 'codesearchlaw19.StructuralPlaces', WHERE WHAT IT READS IS OF BULK AT MOST 1048576: true; the input reads as it did. -/
def structuralPlacesUptoRow : OpenClaim := { program := "ytfhkgkijljfcfaa", sum := "8eb3d46a6ed929dbbf300eb8026955be8225e26761c793c2e8739e5858838f33", func := "codesearch/codesearchlaw19.StructuralPlaces", spec := "structuralPlaces", unfollowed := true, recurses := true, loops := true, apart := false, narrowed := true }
def StructuralPlacesUptoSaid : Prop := structuralPlacesUptoRow.holds Try.pinned (OpenSpec.upto structuralPlacesSpec)

end Rows
end Go.Proofs.Ytfhkgkijljfcfaa
