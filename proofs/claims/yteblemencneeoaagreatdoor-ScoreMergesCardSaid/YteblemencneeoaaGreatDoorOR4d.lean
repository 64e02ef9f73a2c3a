import Derived.Test.YteblemencneeoaaGreatDoorOR4
import Derived.Test.YteblemencneeoaaGreatDoorOR4n
import Derived.Test.YteblemencneeoaaGreatDoorOR4c
namespace Go.Proofs.YteblemencneeoaaGreatDoor.scoreMerges
open Go.ChangeShapes Go.WideShapes Go.ChangeAt Go.RowKit Go.V
set_option linter.unusedVariables false
theorem said (law : Answers) : Rows.ScoreMergesSaid :=
  OpenClaim.holds_of_wide 6 Tryz.f6 rfl rfl rfl rfl rfl rfl rfl ⟨rfl, rfl, rfl, rfl, rfl⟩ rfl rfl rfl rfl rfl f_named Tryz.func6 f_joined f_inst f_wrap
    (fun os started H enc _ => lifted law os started H enc)
theorem card (law : Answers) : Rows.ScoreMergesCardSaid :=
  Claim7.holds_tied_plain_at .later [] [.data, .listed, .data, .pinned] true Rows.scoreMergesCard.stood.harness true (said law) (fun _ h => by cases h) c_wf (fun _ h => by cases h) scoreMerges_row_tie rfl ⟨rfl, rfl⟩ c_main rfl
    (fun f fn hf hfn => by
      obtain rfl : f = 6 := Option.some.inj (c_named.symm.trans hf) |>.symm
      obtain rfl : fn = Tryz.f6 := (Option.some.inj (Tryz.func6.symm.trans hfn)).symm
      exact ⟨c_looks, fun j t ht => by
        rw [Tryz.params6] at ht
        have hm : t ∈ [22, 34, 3] := by
          have h2 : t ∈ [22, 34, 3] := by simpa using Array.mem_of_getElem? ht
          simpa using h2
        exact (show Tryz.prog.wantsStandIn t = false by simpa using List.all_eq_true.1 c_stand t hm)⟩)
    c_goes
end Go.Proofs.YteblemencneeoaaGreatDoor.scoreMerges
