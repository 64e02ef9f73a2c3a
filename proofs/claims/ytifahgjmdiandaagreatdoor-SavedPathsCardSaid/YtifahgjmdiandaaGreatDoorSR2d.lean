import Derived.Test.YtifahgjmdiandaaGreatDoorSR2
import Derived.Test.YtifahgjmdiandaaGreatDoorSR2c
namespace Go.Proofs.YtifahgjmdiandaaGreatDoor.savedPaths
open Go.ChangeShapes Go.WideShapes Go.ChangeAt Go.RowKit Go.V
set_option linter.unusedVariables false
theorem card (law : Answers) : Rows.SavedPathsCardSaid :=
  Claim7.holds_tied_plain_at .later [] [.data, .listed, .data, .pinned] true Rows.savedPathsCard.stood.harness true (said law) (fun _ h => by cases h) c_wf (fun _ h => by cases h) savedPaths_row_tie rfl ⟨rfl, rfl⟩ c_main rfl
    (fun f fn hf hfn => by
      obtain rfl : f = 5 := Option.some.inj (c_named.symm.trans hf) |>.symm
      obtain rfl : fn = Tryz.f5 := (Option.some.inj (Tryz.func5.symm.trans hfn)).symm
      exact ⟨c_looks, fun j t ht => by
        rw [Tryz.params5] at ht
        have hm : t ∈ [37] := by
          have h2 : t ∈ [37, 37] := by simpa using Array.mem_of_getElem? ht
          simpa using h2
        exact (show Tryz.prog.wantsStandIn t = false by simpa using List.all_eq_true.1 c_stand t hm)⟩)
    c_goes
end Go.Proofs.YtifahgjmdiandaaGreatDoor.savedPaths
