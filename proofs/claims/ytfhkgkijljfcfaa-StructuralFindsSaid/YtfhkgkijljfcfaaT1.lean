import Derived.Test.YtfhkgkijljfcfaaF1
import Derived.Test.YtfhkgkijljfcfaaA4
namespace Go.Proofs
open Go.V
def tab1 : Nat → Option VF
  | 9 => some v9
  | 10 => some v10
  | 11 => some v11
  | 12 => some v12
  | 13 => some v13
  | 14 => some v14
  | 15 => some v15
  | 16 => some v16
  | 17 => some v17
  | 18 => some v18
  | 19 => some v19
  | 20 => some v20
  | 21 => some v21
  | 22 => some v22
  | 23 => some v23
  | 24 => some v24
  | 25 => some v25
  | 26 => some v26
  | 27 => some v27
  | 28 => some v28
  | 29 => some v29
  | 30 => some v30
  | 31 => some v31
  | 32 => some v32
  | 33 => some v33
  | 34 => some v34
  | 35 => some v35
  | 36 => some v36
  | 37 => some v37
  | 38 => some v38
  | 39 => some v39
  | 40 => some v40
  | 41 => some v41
  | 42 => some v42
  | 43 => some v43
  | 44 => some v44
  | 45 => some v45
  | 46 => some v46
  | 47 => some v47
  | 48 => some v48
  | 49 => some v49
  | 50 => some v50
  | 51 => some v51
  | 52 => some v52
  | 53 => some v53
  | 54 => some v54
  | 55 => some v55
  | 56 => some v56
  | 57 => some v57
  | 58 => some v58
  | 59 => some v59
  | 60 => some v60
  | 61 => some v61
  | 62 => some v62
  | 63 => some v63
  | 64 => some v64
  | 65 => some v65
  | 66 => some v66
  | 67 => some v67
  | 68 => some v68
  | 69 => some v69
  | _ => none
def isTrue (r : Option VV) : Bool := match r with | some (.bool b) => b | _ => false
theorem alive_run : isTrue (runF tab1 (fun _ _ => none) 2000 9 []) = true := by decide +kernel
theorem tab1_ok : TabOk Try.prog tab1 (fun _ _ => none) := by
  refine ⟨fun f vf h => ?_, fun f args r h => by cases h⟩
  unfold tab1 at h
  split at h
  · cases h; exact m9
  · cases h; exact m10
  · cases h; exact m11
  · cases h; exact m12
  · cases h; exact m13
  · cases h; exact m14
  · cases h; exact m15
  · cases h; exact m16
  · cases h; exact m17
  · cases h; exact m18
  · cases h; exact m19
  · cases h; exact m20
  · cases h; exact m21
  · cases h; exact m22
  · cases h; exact m23
  · cases h; exact m24
  · cases h; exact m25
  · cases h; exact m26
  · cases h; exact m27
  · cases h; exact m28
  · cases h; exact m29
  · cases h; exact m30
  · cases h; exact m31
  · cases h; exact m32
  · cases h; exact m33
  · cases h; exact m34
  · cases h; exact m35
  · cases h; exact m36
  · cases h; exact m37
  · cases h; exact m38
  · cases h; exact m39
  · cases h; exact m40
  · cases h; exact m41
  · cases h; exact m42
  · cases h; exact m43
  · cases h; exact m44
  · cases h; exact m45
  · cases h; exact m46
  · cases h; exact m47
  · cases h; exact m48
  · cases h; exact m49
  · cases h; exact m50
  · cases h; exact m51
  · cases h; exact m52
  · cases h; exact m53
  · cases h; exact m54
  · cases h; exact m55
  · cases h; exact m56
  · cases h; exact m57
  · cases h; exact m58
  · cases h; exact m59
  · cases h; exact m60
  · cases h; exact m61
  · cases h; exact m62
  · cases h; exact m63
  · cases h; exact m64
  · cases h; exact m65
  · cases h; exact m66
  · cases h; exact m67
  · cases h; exact m68
  · cases h; exact m69
  · cases h
theorem isTrue_some {r : Option VV} (h : isTrue r = true) : r = some (.bool true) := by
  unfold isTrue at h
  split at h
  · rw [h]
  · cases h
theorem alive : PureC Try.prog 9 [] (.bool true) := runF_ok tab1_ok (isTrue_some alive_run)
#print axioms alive
end Go.Proofs
