/- V, proofs: the chapter's examples, by what the functions are told to answer. Conditions: none. -/
import Derived.Test.YtlngaccdjnmgeaaGreatDoorGC2
set_option linter.unusedVariables false
namespace Go.Proofs
open Go.V Go.RowKit

def exGs : List Gp := [⟨[100, 101, 118], [1, 2], []⟩]
def exCore : List UInt8 := [99, 111, 114, 101]
def exSec : List UInt8 := [115, 101, 99, 114, 101, 116, 47, 97, 46, 115, 114, 99]
def exA : List UInt8 := [97, 46, 115, 114, 99]
def exG1 : List UInt8 := [115, 101, 99, 114, 101, 116, 47, 42, 42]
def exP : Pol := ⟨exGs, [⟨false, [100, 101, 118], exCore, exG1⟩, ⟨true, [100, 101, 118], [], [42, 42]⟩]⟩
theorem cont_ex : containedS exGs [100, 101, 118] = [] := by simp [containedS, visitF, visitL, kidsS, findS, exGs]
theorem users_ex : usersS exGs [100, 101, 118] = [1, 2] := by
  have h2 : totalU exGs [100, 101, 118] = [1, 2] := by rw [totalU, cont_ex]; decide +kernel
  have h3 : sortI [1, 2] = [1, 2] := by simp [sortI, List.mergeSort]
  rw [usersS, h2, h3]
  decide +kernel
theorem in_ex (u : Int) : inS exGs [100, 101, 118] u = ([1, 2] : List Int).contains u := by rw [inS, users_ex]
theorem depth_ex : depthS exGs [100, 101, 118] = 1 := by
  simp [depthS, depthF, depthL, findS, exGs, lookM]
  decide
theorem rightG_ex : rightG exGs = 0 := by
  have h1 : (List.range exGs.length).find? (fun i => oneAt exGs i != 0) = none := by decide +kernel
  have h2 : exGs.any (fun g => (containedS exGs g.name).contains g.name) = false := by
    have : exGs.any (fun g => (containedS exGs g.name).contains g.name) = ((containedS exGs [100, 101, 118]).contains [100, 101, 118] || false) := rfl
    rw [this, cont_ex]; rfl
  have h3 : exGs.any (fun g => decide (depthS exGs g.name > 12)) = false := by
    have : exGs.any (fun g => decide (depthS exGs g.name > 12)) = (decide (depthS exGs [100, 101, 118] > 12) || false) := rfl
    rw [this, depth_ex]; rfl
  rw [rightG, if_neg (by decide), h1]
  simp only [h2, h3, Bool.false_eq_true, if_false]
theorem rightA_of {p : Pol} (h : rightG p.groups = 0) : rightA p = if decide ((p.rules.length : Int) > 24) = true then 4 else match p.rules.find? (fun r => ruleErr p r != 0) with | some r => ruleErr p r | none => 0 := by
  rw [rightA, if_neg (by rw [h]; decide)]
  rfl
theorem right_ex : rightA exP = 0 := by rw [rightA_of rightG_ex]; decide +kernel
theorem right_a : rightA ⟨exGs, [⟨false, [120], [], [42, 42]⟩]⟩ = 8 := by rw [rightA_of rightG_ex]; decide +kernel
theorem right_b : rightA ⟨exGs, [⟨false, [100, 101, 118], [97, 47, 98], [42, 42]⟩]⟩ = 3 := by rw [rightA_of rightG_ex]; decide +kernel
theorem right_c : rightA ⟨exGs, [⟨false, [100, 101, 118], [], [91]⟩]⟩ = 3 := by rw [rightA_of rightG_ex]; decide +kernel
theorem m1 : globMatchS exG1 exA = false := by decide +kernel
theorem m2 : globMatchS exG1 exSec = true := by decide +kernel
theorem m3 : globMatchS [42, 42] exA = true := by decide +kernel
theorem m4 : globMatchS [42, 42] exSec = true := by decide +kernel
theorem idx2 {α : Type} (p : α → Bool) (a b : α) : idxS p [a, b] = if p a = true then 0 else if p b = true then 1 else -1 := by
  cases h1 : p a <;> cases h2 : p b <;> simp [idxS, List.findIdx_cons, h1, h2]
theorem dec_ex (u : Int) (repo path : List UInt8) : decidingS exP u repo path = if appliesS exP u repo path ⟨false, [100, 101, 118], exCore, exG1⟩ = true then 0 else if appliesS exP u repo path ⟨true, [100, 101, 118], [], [42, 42]⟩ = true then 1 else -1 := by
  rw [decidingS, if_neg (by rw [right_ex]; decide)]
  exact idx2 _ _ _
theorem ap (u : Int) (repo path : List UInt8) (a : Bool) (r g : List UInt8) : appliesS exP u repo path ⟨a, [100, 101, 118], r, g⟩ = ((r == [] || r == repo) && globMatchS g path && ([1, 2] : List Int).contains u) := by
  have h := in_ex u
  rw [appliesS]
  simp only [exP, h]
theorem dec_1 (u : Int) : decidingS exP u exCore exA = if ([1, 2] : List Int).contains u = true then 1 else -1 := by
  have e1 : (([] : List UInt8) == [] || ([] : List UInt8) == exCore) = true := rfl
  have e2 : ∀ b, (b && false) = false := fun b => by cases b <;> rfl
  rw [dec_ex, ap, ap, m1, m3, e1, e2]
  rfl
theorem dec_2 : decidingS exP 1 exCore exSec = 0 := by
  rw [dec_ex, ap, ap, m2, m4]; decide
theorem dec_3 : decidingS exP 1 [120] exSec = 1 := by
  rw [dec_ex, ap, ap, m2, m4]; decide
theorem can_1 (u : Int) : canS exP u exCore exA = ([1, 2] : List Int).contains u := by
  rw [canS, dec_1]
  cases ([1, 2] : List Int).contains u <;> rfl
theorem can_2 : canS exP 1 exCore exSec = false := by rw [canS, dec_2]; rfl
theorem can_3 : canS exP 1 [120] exSec = true := by rw [canS, dec_3]; rfl

def ext3 (f : Nat) (args : List VV) : Option VV :=
  if f = n_access_Can then (match args with
    | [pv, .int .i64 u, .str repo, .str path] => if eqVV pv (ePol exP) then (if repo == exCore && path == exA then some (.bool (([1, 2] : List Int).contains u)) else if u == 1 && repo == exCore && path == exSec then some (.bool false) else if u == 1 && repo == [120] && path == exSec then some (.bool true) else none) else none
    | _ => none)
  else if f = n_access_Deciding then (match args with
    | [pv, .int .i64 u, .str repo, .str path] => if eqVV pv (ePol exP) then (if repo == exCore && path == exA then some (.int .i64 (if ([1, 2] : List Int).contains u = true then 1 else -1)) else if u == 1 && repo == exCore && path == exSec then some (.int .i64 0) else none) else none
    | _ => none)
  else if f = n_access_Right then (match args with
    | [pv] => if eqVV pv (ePol exP) then some (.int .i64 0) else if eqVV pv (ePol ⟨exGs, [⟨false, [120], [], [42, 42]⟩]⟩) then some (.int .i64 8) else if eqVV pv (ePol ⟨exGs, [⟨false, [100, 101, 118], [97, 47, 98], [42, 42]⟩]⟩) then some (.int .i64 3)
      else if eqVV pv (ePol ⟨exGs, [⟨false, [100, 101, 118], [], [91]⟩]⟩) then some (.int .i64 3) else none
    | _ => none)
  else none
theorem ok_ex (l : List Rl) (h : l.length ≤ 1000000) : okP ⟨exGs, l⟩ := ⟨(show okGs exGs from ⟨by decide, by decide⟩), h⟩
theorem ext3_ok : ∀ f args r, ext3 f args = some r → PureC PR f args r := by
  intro f args r h
  unfold ext3 at h
  split at h
  · rename_i e; subst e
    split at h
    · rename_i pv u repo path
      split at h
      · rename_i hp
        rw [eqVV_ok _ _ hp]
        split at h
        · rename_i hc
          cases h
          simp only [Bool.and_eq_true, beq_iff_eq] at hc
          obtain ⟨rfl, rfl⟩ := hc
          rw [← can_1]
          exact c_access_Can exP u _ _ (ok_ex _ (by decide)) (by decide)
        · split at h
          · rename_i hc
            cases h
            simp only [Bool.and_eq_true, beq_iff_eq] at hc
            obtain ⟨⟨rfl, rfl⟩, rfl⟩ := hc
            rw [← can_2]
            exact c_access_Can exP 1 _ _ (ok_ex _ (by decide)) (by decide)
          · split at h
            · rename_i hc
              cases h
              simp only [Bool.and_eq_true, beq_iff_eq] at hc
              obtain ⟨⟨rfl, rfl⟩, rfl⟩ := hc
              rw [← can_3]
              exact c_access_Can exP 1 _ _ (ok_ex _ (by decide)) (by decide)
            · cases h
      · cases h
    · cases h
  · split at h
    · rename_i e; subst e
      split at h
      · rename_i pv u repo path
        split at h
        · rename_i hp
          rw [eqVV_ok _ _ hp]
          split at h
          · rename_i hc
            cases h
            simp only [Bool.and_eq_true, beq_iff_eq] at hc
            obtain ⟨rfl, rfl⟩ := hc
            rw [← dec_1]
            exact c_access_Deciding exP u _ _ (ok_ex _ (by decide)) (by decide)
          · split at h
            · rename_i hc
              cases h
              simp only [Bool.and_eq_true, beq_iff_eq] at hc
              obtain ⟨⟨rfl, rfl⟩, rfl⟩ := hc
              rw [← dec_2]
              exact c_access_Deciding exP 1 _ _ (ok_ex _ (by decide)) (by decide)
            · cases h
        · cases h
      · cases h
    · split at h
      · rename_i e; subst e
        split at h
        · split at h
          · rename_i hp
            cases h
            rw [eqVV_ok _ _ hp, ← right_ex]
            exact c_access_Right exP (ok_ex _ (by decide))
          · split at h
            · rename_i hp
              cases h
              rw [eqVV_ok _ _ hp, ← right_a]
              exact c_access_Right _ (ok_ex _ (by decide))
            · split at h
              · rename_i hp
                cases h
                rw [eqVV_ok _ _ hp, ← right_b]
                exact c_access_Right _ (ok_ex _ (by decide))
              · split at h
                · rename_i hp
                  cases h
                  rw [eqVV_ok _ _ hp, ← right_c]
                  exact c_access_Right _ (ok_ex _ (by decide))
                · cases h
        · cases h
      · cases h
end Go.Proofs
