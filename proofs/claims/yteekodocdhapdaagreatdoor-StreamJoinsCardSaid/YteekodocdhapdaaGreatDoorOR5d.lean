import Derived.Test.YteekodocdhapdaaGreatDoorOR5
import Derived.Test.YteekodocdhapdaaGreatDoorOR5n
import Derived.Test.YteekodocdhapdaaGreatDoorOR5c
namespace Go.Proofs.YteekodocdhapdaaGreatDoor.streamJoins
open Go.ChangeShapes Go.WideShapes Go.ChangeAt Go.RowKit Go.V
set_option linter.unusedVariables false
theorem said (law : Answers) : Rows.StreamJoinsSaid :=
  OpenClaim.holds_of_wide 3 Tryz.f3 rfl rfl rfl rfl rfl rfl rfl ⟨rfl, rfl, rfl, rfl, rfl⟩ rfl rfl rfl rfl rfl f_named Tryz.func3 f_joined f_inst f_wrap
    (fun os started H enc _ => lifted law os started H enc)
theorem card (law : Answers) : Rows.StreamJoinsCardSaid :=
  Claim7.holds_tied_plain_at .later [] [.data, .listed, .data, .pinned] true Rows.streamJoinsCard.stood.harness true (said law) (fun _ h => by cases h) c_wf (fun _ h => by cases h) streamJoins_row_tie rfl ⟨rfl, rfl⟩ c_main rfl
    (fun f fn hf hfn => by
      obtain rfl : f = 3 := Option.some.inj (c_named.symm.trans hf) |>.symm
      obtain rfl : fn = Tryz.f3 := (Option.some.inj (Tryz.func3.symm.trans hfn)).symm
      exact ⟨c_looks, fun j t ht => by
        rw [Tryz.params3] at ht
        have hm : t ∈ [22, 26] := by
          have h2 : t ∈ [22, 26, 26] := by simpa using Array.mem_of_getElem? ht
          simpa using h2
        exact (show Tryz.prog.wantsStandIn t = false by simpa using List.all_eq_true.1 c_stand t hm)⟩)
    c_goes
end Go.Proofs.YteekodocdhapdaaGreatDoor.streamJoins
