/- V, part 28: rules for hand proofs. -/
import Derived.Test.YtfhkgkijljfcfaaV25
set_option linter.unusedVariables false
set_option linter.unusedSimpArgs false
namespace Go.V
open Go.RowKit

/-- A loop, by what holds at its head. -/
theorem v_loop {P : Program} {c : VC} {K : Ex → St → Prop} {α : Type} (inv : α → St → Prop) (m : α → Nat)
    (h : ∀ a st, inv a st → Wp P c st fun e st' => match e with
      | .nrm => ∃ a', inv a' st' ∧ m a' < m a
      | .ext id => K (.ext id) st'
      | .ret => K .ret st') : ∀ a st, inv a st → Wp P (.loop c) st K := by
  have key : ∀ n a st, m a < n → inv a st → iterW (Wp P c) K n st := by
    intro n
    induction n with
    | zero => exact fun a st hlt _ => absurd hlt (Nat.not_lt_zero _)
    | succ n ih =>
      intro a st hlt hi
      refine wp_mono _ _ _ (fun e s hs => ?_) (h a st hi)
      cases e with
      | nrm =>
        obtain ⟨a', hi', hm⟩ := hs
        exact ih a' s (by omega) hi'
      | ext id => exact hs
      | ret => exact hs
  exact fun a st hi => ⟨m a + 1, key _ a st (Nat.lt_succ_self _) hi⟩

end Go.V
