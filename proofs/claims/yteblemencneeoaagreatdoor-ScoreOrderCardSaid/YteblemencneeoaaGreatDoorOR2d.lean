import Derived.Test.YteblemencneeoaaGreatDoorOR2
import Derived.Test.YteblemencneeoaaGreatDoorOR2n
import Derived.Test.YteblemencneeoaaGreatDoorOR2c
namespace Go.Proofs.YteblemencneeoaaGreatDoor.scoreOrder
open Go.ChangeShapes Go.WideShapes Go.ChangeAt Go.RowKit Go.V
set_option linter.unusedVariables false
theorem said (law : Answers) : Rows.ScoreOrderSaid :=
  OpenClaim.holds_of_wide 4 Tryz.f4 rfl rfl rfl rfl rfl rfl rfl ⟨rfl, rfl, rfl, rfl, rfl⟩ rfl rfl rfl rfl rfl f_named Tryz.func4 f_joined f_inst f_wrap
    (fun os started H enc _ => lifted law os started H enc)
theorem card (law : Answers) : Rows.ScoreOrderCardSaid :=
  Claim7.holds_tied_plain_at .later [] [.data, .listed, .data, .pinned] true Rows.scoreOrderCard.stood.harness true (said law) (fun _ h => by cases h) c_wf (fun _ h => by cases h) scoreOrder_row_tie rfl ⟨rfl, rfl⟩ c_main rfl
    (fun f fn hf hfn => by
      obtain rfl : f = 4 := Option.some.inj (c_named.symm.trans hf) |>.symm
      obtain rfl : fn = Tryz.f4 := (Option.some.inj (Tryz.func4.symm.trans hfn)).symm
      exact ⟨c_looks, fun j t ht => by
        rw [Tryz.params4] at ht
        have hm : t ∈ [22, 28] := by
          have h2 : t ∈ [22, 28] := by simpa using Array.mem_of_getElem? ht
          simpa using h2
        exact (show Tryz.prog.wantsStandIn t = false by simpa using List.all_eq_true.1 c_stand t hm)⟩)
    c_goes
end Go.Proofs.YteblemencneeoaaGreatDoor.scoreOrder
