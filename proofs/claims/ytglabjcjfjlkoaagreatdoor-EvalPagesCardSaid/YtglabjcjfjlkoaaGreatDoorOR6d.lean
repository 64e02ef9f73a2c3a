import Derived.Test.YtglabjcjfjlkoaaGreatDoorOR6
import Derived.Test.YtglabjcjfjlkoaaGreatDoorOR6n
import Derived.Test.YtglabjcjfjlkoaaGreatDoorOR6c
namespace Go.Proofs.YtglabjcjfjlkoaaGreatDoor.evalPages
open Go.ChangeShapes Go.WideShapes Go.ChangeAt Go.RowKit Go.V
set_option linter.unusedVariables false
theorem said (law : Answers) : Rows.EvalPagesSaid :=
  OpenClaim.holds_of_wide 3 Tryz.f3 rfl rfl rfl rfl rfl rfl rfl ⟨rfl, rfl, rfl, rfl, rfl⟩ rfl rfl rfl rfl rfl f_named Tryz.func3 f_joined f_inst f_wrap
    (fun os started H enc _ => lifted law os started H enc)
theorem card (law : Answers) : Rows.EvalPagesCardSaid :=
  Claim7.holds_tied_plain_at .later [] [.data, .listed, .data, .pinned] true Rows.evalPagesCard.stood.harness true (said law) (fun _ h => by cases h) c_wf (fun _ h => by cases h) evalPages_row_tie rfl ⟨rfl, rfl⟩ c_main rfl
    (fun f fn hf hfn => by
      obtain rfl : f = 3 := Option.some.inj (c_named.symm.trans hf) |>.symm
      obtain rfl : fn = Tryz.f3 := (Option.some.inj (Tryz.func3.symm.trans hfn)).symm
      exact ⟨c_looks, fun j t ht => by
        rw [Tryz.params3] at ht
        have hm : t ∈ [22, 3] := by
          have h2 : t ∈ [22, 3, 3] := by simpa using Array.mem_of_getElem? ht
          simpa using h2
        exact (show Tryz.prog.wantsStandIn t = false by simpa using List.all_eq_true.1 c_stand t hm)⟩)
    c_goes
end Go.Proofs.YtglabjcjfjlkoaaGreatDoor.evalPages
