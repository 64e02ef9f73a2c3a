/- Plain laws: pairs of a code and a list, in the order of codes. No program. Conditions: in each theorem. -/
import Derived.Test.YtglabjcjfjlkoaaGreatDoorSO1
set_option linter.unusedVariables false
set_option linter.unusedSimpArgs false
namespace Go.Proofs
open Go.V Go.RowKit

/-- a code of a trigram (below 2^24) and what stands under it -/
structure Gm where
  c : Fin 16777216
  l : List VV
instance : Inhabited Gm := ⟨⟨0, []⟩⟩
def gc (g : Gm) : List VV := [.int .i64 (g.c.val : Int), .sl g.l 0]
def eG (g : Gm) : VV := .agg (gc g)
def cfG (a b : Gm) : Int := (a.c.val : Int) - (b.c.val : Int)
def ltG (a b : Gm) : Bool := decide (cfG a b < 0)
theorem ltG_t {a b : Gm} : ltG a b = true ↔ a.c.val < b.c.val := ⟨fun h => by have h := of_decide_eq_true h; unfold cfG at h; omega, fun h => decide_eq_true (by unfold cfG; omega)⟩
theorem ltG_f {a b : Gm} : ltG a b = false ↔ b.c.val ≤ a.c.val := ⟨fun h => by have h := of_decide_eq_false h; unfold cfG at h; omega, fun h => decide_eq_false (by unfold cfG; omega)⟩
theorem ltG_wk : Wk ltG := ⟨fun a b h => by rw [ltG_t] at h; rw [ltG_f]; omega, fun a b c h k => by rw [ltG_f] at h k ⊢; omega⟩
theorem stb_perm {α : Type} {lt : α → α → Bool} {l m : List α} (hp : l.Perm m) (h1 : ∀ x, (l.filter (eqw lt x)).length ≤ 1) : stb lt l m := fun x => by
  have q := hp.filter (eqw lt x)
  have h2 := h1 x
  match h : l.filter (eqw lt x), h2 with
  | [], _ => rw [h] at q; exact q.symm.eq_nil
  | [a], _ => rw [h] at q; exact List.perm_singleton.1 q.symm
  | _ :: _ :: _, h2 => simp at h2
theorem dist_one {l : List Gm} (h : l.Pairwise fun x y => x.c ≠ y.c) (x : Gm) : (l.filter (eqw ltG x)).length ≤ 1 := by
  have h1 : (l.filter (eqw ltG x)).Pairwise fun x y => x.c ≠ y.c := h.sublist (List.filter_sublist)
  have h2 : ∀ y ∈ l.filter (eqw ltG x), y.c = x.c := fun y hy => by
    have := (List.mem_filter.1 hy).2
    obtain ⟨q1, q2⟩ := eqw_iff.1 this
    rw [ltG_f] at q1 q2
    apply Fin.ext
    omega
  match l.filter (eqw ltG x), h1, h2 with
  | [], _, _ => simp
  | [_], _, _ => simp
  | a :: b :: r, h1, h2 =>
    have h3 := (List.pairwise_cons.1 h1).1 b (by simp)
    exact absurd ((h2 a (by simp)).trans (h2 b (by simp)).symm) h3
/-- insertion's answer for any order of a list whose codes differ -/
def insG (L : List Gm) : List Gm := insI ltG 0 (L.length - 1) 1 L
theorem insG_eq {E L : List Gm} (hs : srt ltG E) (hd : E.Pairwise fun x y => x.c ≠ y.c) (hp : E.Perm L) : insG L = E := by
  cases L with
  | nil => rw [hp.eq_nil]; rfl
  | cons x r =>
    obtain ⟨w, h1, h2, h3⟩ := insI_ok (lt := ltG) ltG_wk r [x] [] [] (srt_single x)
    simp only [List.length_nil, List.length_cons, Nat.zero_add, List.nil_append, List.append_nil, List.singleton_append] at h1 h3
    have e : insG (x :: r) = w := h1
    rw [e]
    exact srt_one ltG_wk hs h2 ((stb_perm hp (dist_one hd)).trans h3)
theorem insG_len (L : List Gm) : (insG L).length = L.length := insI_len _ _ _ _
end Go.Proofs
