import Derived.Test.YtgakphbkknfmdaaDoorEnvD
set_option linter.all false
set_option linter.unusedSimpArgs false
set_option linter.unusedVariables false
set_option maxRecDepth 100000
namespace Go.AE.D
open Go Go.Proofs Go.AE
/-! tempera/pic.Right$1 -/
noncomputable def S53 (C : Calls) (R : Value → AS → Prop) (a0 : Value) (s : AS) : Prop :=
  ofV (binG .lss a0 (.int .i64 0)) fun v1 =>
  gdV v1 false (some a0) fun v2 =>
  gdV v1 false (binG .gtr v2 (.int .i64 4294967295)) fun v3 =>
  ofV (pickG v1 (.bool true) v3) fun v4 =>
  R v4 s
theorem S53_eq (C : Calls) (R : Value → AS → Prop) (a0 : Value) (s : AS) : wpG E C (bodyC Tryd.f53) (endK E Tryd.f53.results.toList R) (fun _ _ _ => False) (endK E Tryd.f53.results.toList R) (argsSl [a0]) s = S53 C R a0 s := by kernel_rfl
theorem w53 {C : Calls} {R : Value → AS → Prop} {a0 : Value} {s : AS} (h : S53 C R a0 s) : WpF E C 53 [a0] R s :=
  wpF_mk (fn := Tryd.f53) (c := bodyC Tryd.f53) (by kernel_rfl) (by kernel_rfl) (by kernel_rfl) (S53_eq C R a0 s) h
/-! slices.IndexFunc[[]int,int] -/
noncomputable def S70_L2 (C : Calls) (R : Value → AS → Prop) (N2 : Sl → AS → Prop) (g3 : Sl) (s4 : AS) : Prop :=
  ofV (binG .lss (g3 8) (g3 7)) fun v5 =>
  ifG v5 (
    ofV (aindexAddr E 22 (g3 0) (g3 8)) fun v6 =>
    ofV (ldS v6 s4) fun v7 =>
    ofE (invokeF C (g3 1) [v7] s4) fun v8 s9 =>
    ifG v8 (
      R (g3 8) s9) (
      ofV (binG .add (g3 8) (.int .i64 1)) fun v10 =>
      N2 (su (su (su (su (su (su (su (su (su (su (su g3 v5 9) (g3 8) 10) (g3 8) 5) (g3 1) 11) (g3 0) 12) (g3 8) 13) v6 14) v7 15) v8 16) v10 18) v10 8) s9)) (
    R (.int .i64 (-1)) s4)
noncomputable def S70 (C : Calls) (R : Value → AS → Prop) (a0 a1 : Value) (s : AS) : Prop :=
  ofV (lenG a0) fun v1 =>
  LoopG (S70_L2 C R) (su (su (su (su (argsSl [a0, a1]) (.int .i64 0) 4) a0 6) v1 7) (.int .i64 0) 8) s
theorem S70_eq (C : Calls) (R : Value → AS → Prop) (a0 a1 : Value) (s : AS) : wpG E C (bodyC Tryd.f70) (endK E Tryd.f70.results.toList R) (fun _ _ _ => False) (endK E Tryd.f70.results.toList R) (argsSl [a0, a1]) s = S70 C R a0 a1 s := by kernel_rfl
theorem w70 {C : Calls} {R : Value → AS → Prop} {a0 a1 : Value} {s : AS} (h : S70 C R a0 a1 s) : WpF E C 70 [a0, a1] R s :=
  wpF_mk (fn := Tryd.f70) (c := bodyC Tryd.f70) (by kernel_rfl) (by kernel_rfl) (by kernel_rfl) (S70_eq C R a0 a1 s) h
/-! slices.ContainsFunc[[]int,int] -/
noncomputable def S52 (C : Calls) (R : Value → AS → Prop) (a0 a1 : Value) (s : AS) : Prop :=
  ofE (C.call 70 [a0, a1] s) fun v1 s2 =>
  ofV (binG .geq v1 (.int .i64 0)) fun v3 =>
  R v3 s2
theorem S52_eq (C : Calls) (R : Value → AS → Prop) (a0 a1 : Value) (s : AS) : wpG E C (bodyC Tryd.f52) (endK E Tryd.f52.results.toList R) (fun _ _ _ => False) (endK E Tryd.f52.results.toList R) (argsSl [a0, a1]) s = S52 C R a0 a1 s := by kernel_rfl
theorem w52 {C : Calls} {R : Value → AS → Prop} {a0 a1 : Value} {s : AS} (h : S52 C R a0 a1 s) : WpF E C 52 [a0, a1] R s :=
  wpF_mk (fn := Tryd.f52) (c := bodyC Tryd.f52) (by kernel_rfl) (by kernel_rfl) (by kernel_rfl) (S52_eq C R a0 a1 s) h
/-! tempera/pic.Right -/
noncomputable def S24 (C : Calls) (R : Value → AS → Prop) (a0_0 a0_1 a0_2 : Value) (s : AS) : Prop :=
  ofE (newRow E s 48 (vcells (.agg ⟨[a0_0, a0_1, a0_2]⟩))) fun v1 s2 =>
  ofV (afieldAddr E 48 v1 0) fun v3 =>
  ofV (ldS v3 s2) fun v4 =>
  ofV (binG .lss v4 (.int .i64 0)) fun v5 =>
  gdV v5 false (afieldAddr E 48 v1 0) fun v6 =>
  gdV v5 false (ldS v6 s2) fun v7 =>
  gdV v5 false (binG .gtr v7 (.int .i64 256)) fun v8 =>
  ofV (pickG v5 (.bool true) v8) fun v9 =>
  gdV v9 false (afieldAddr E 48 v1 1) fun v10 =>
  gdV v9 false (ldS v10 s2) fun v11 =>
  gdV v9 false (binG .lss v11 (.int .i64 0)) fun v12 =>
  ofV (pickG v9 (.bool true) v12) fun v13 =>
  gdV v13 false (afieldAddr E 48 v1 1) fun v14 =>
  gdV v13 false (ldS v14 s2) fun v15 =>
  gdV v13 false (binG .gtr v15 (.int .i64 256)) fun v16 =>
  ofV (pickG v13 (.bool true) v16) fun v17 =>
  gdV v17 false (afieldAddr E 48 v1 2) fun v18 =>
  gdV v17 false (ldS v18 s2) fun v19 =>
  gdV v17 false (lenG v19) fun v20 =>
  gdV v17 false (afieldAddr E 48 v1 0) fun v21 =>
  gdV v17 false (ldS v21 s2) fun v22 =>
  gdV v17 false (afieldAddr E 48 v1 1) fun v23 =>
  gdV v17 false (ldS v23 s2) fun v24 =>
  gdV v17 false (binG .mul v22 v24) fun v25 =>
  gdV v17 false (eqG E s2 .neq 3 v20 v25) fun v26 =>
  ofV (pickG v17 (.bool true) v26) fun v27 =>
  ifG v27 (
    R (.bool false) s2) (
    ofV (afieldAddr E 48 v1 2) fun v28 =>
    ofV (ldS v28 s2) fun v29 =>
    ofE (C.call 52 [v29, (.func (.func 53) ⟨[]⟩ ⟨[]⟩)] s2) fun v30 s31 =>
    ofV (unG .not v30) fun v32 =>
    R v32 s31)
theorem S24_eq (C : Calls) (R : Value → AS → Prop) (a0_0 a0_1 a0_2 : Value) (s : AS) : wpG E C (bodyC Tryd.f24) (endK E Tryd.f24.results.toList R) (fun _ _ _ => False) (endK E Tryd.f24.results.toList R) (argsSl [(.agg ⟨[a0_0, a0_1, a0_2]⟩)]) s = S24 C R a0_0 a0_1 a0_2 s := by kernel_rfl
theorem w24 {C : Calls} {R : Value → AS → Prop} {a0_0 a0_1 a0_2 : Value} {s : AS} (h : S24 C R a0_0 a0_1 a0_2 s) : WpF E C 24 [(.agg ⟨[a0_0, a0_1, a0_2]⟩)] R s :=
  wpF_mk (fn := Tryd.f24) (c := bodyC Tryd.f24) (by kernel_rfl) (by kernel_rfl) (by kernel_rfl) (S24_eq C R a0_0 a0_1 a0_2 s) h
/-! tempera/temperaref36.Right -/
noncomputable def S25_L28 (C : Calls) (R : Value → AS → Prop) (N28 : Sl → AS → Prop) (g29 : Sl) (s30 : AS) : Prop :=
  ofV (afieldAddr E 48 (g29 1) 2) fun v31 =>
  ofV (ldS v31 s30) fun v32 =>
  ofV (lenG v32) fun v33 =>
  ofV (binG .lss (g29 3) v33) fun v34 =>
  ifG v34 (
    ofV (afieldAddr E 48 (g29 1) 2) fun v35 =>
    ofV (ldS v35 s30) fun v36 =>
    ofV (aindexAddr E 22 v36 (g29 3)) fun v37 =>
    ofV (ldS v37 s30) fun v38 =>
    ofV (binG .lss v38 (.int .i64 0)) fun v39 =>
    gdV v39 false (afieldAddr E 48 (g29 1) 2) fun v40 =>
    gdV v39 false (ldS v40 s30) fun v41 =>
    gdV v39 false (some (g29 3)) fun v42 =>
    gdV v39 false (aindexAddr E 22 v41 v42) fun v43 =>
    gdV v39 false (ldS v43 s30) fun v44 =>
    gdV v39 false (binG .gtr v44 (.int .i64 4294967295)) fun v45 =>
    ofV (pickG v39 (.bool true) v45) fun v46 =>
    ifG v46 (
      R (.bool false) s30) (
      ofV (binG .add (g29 3) (.int .i64 1)) fun v47 =>
      N28 (su (su (su (su (su (su (su (su (su (su (su (su (su (su (su (su (su (su (su (su (su (su g29 (g29 3) 33) v31 34) v32 35) v33 36) v34 37) v35 40) v36 41) (g29 3) 42) v37 43) v38 44) v39 45) v39 46) v40 47) v41 48) v42 49) v43 50) v44 51) v45 52) v46 53) (g29 3) 38) v47 39) v47 3) s30)) (
    R (.bool true) s30)
noncomputable def S25 (C : Calls) (R : Value → AS → Prop) (a0_0 a0_1 a0_2 : Value) (s : AS) : Prop :=
  ofE (newRow E s 48 (vcells (.agg ⟨[a0_0, a0_1, a0_2]⟩))) fun v1 s2 =>
  ofV (afieldAddr E 48 v1 0) fun v3 =>
  ofV (ldS v3 s2) fun v4 =>
  ofV (binG .lss v4 (.int .i64 0)) fun v5 =>
  gdV v5 false (afieldAddr E 48 v1 0) fun v6 =>
  gdV v5 false (ldS v6 s2) fun v7 =>
  gdV v5 false (binG .gtr v7 (.int .i64 256)) fun v8 =>
  ofV (pickG v5 (.bool true) v8) fun v9 =>
  gdV v9 false (afieldAddr E 48 v1 1) fun v10 =>
  gdV v9 false (ldS v10 s2) fun v11 =>
  gdV v9 false (binG .lss v11 (.int .i64 0)) fun v12 =>
  ofV (pickG v9 (.bool true) v12) fun v13 =>
  gdV v13 false (afieldAddr E 48 v1 1) fun v14 =>
  gdV v13 false (ldS v14 s2) fun v15 =>
  gdV v13 false (binG .gtr v15 (.int .i64 256)) fun v16 =>
  ofV (pickG v13 (.bool true) v16) fun v17 =>
  gdV v17 false (afieldAddr E 48 v1 2) fun v18 =>
  gdV v17 false (ldS v18 s2) fun v19 =>
  gdV v17 false (lenG v19) fun v20 =>
  gdV v17 false (afieldAddr E 48 v1 0) fun v21 =>
  gdV v17 false (ldS v21 s2) fun v22 =>
  gdV v17 false (afieldAddr E 48 v1 1) fun v23 =>
  gdV v17 false (ldS v23 s2) fun v24 =>
  gdV v17 false (binG .mul v22 v24) fun v25 =>
  gdV v17 false (eqG E s2 .neq 3 v20 v25) fun v26 =>
  ofV (pickG v17 (.bool true) v26) fun v27 =>
  ifG v27 (
    R (.bool false) s2) (
    LoopG (S25_L28 C R) (su (su (su (su (su (su (su (su (su (su (su (su (su (su (su (su (su (su (su (su (su (su (su (su (su (su (su (su (su (su (su (su (argsSl [(.agg ⟨[a0_0, a0_1, a0_2]⟩)]) v1 1) (.bool false) 2) v3 4) v4 5) v5 6) v5 7) v6 8) v7 9) v8 10) v9 11) v9 12) v10 13) v11 14) v12 15) v13 16) v13 17) v14 18) v15 19) v16 20) v17 21) v17 22) v18 23) v19 24) v20 25) v21 26) v22 27) v23 28) v24 29) v25 30) v26 31) v27 32) (.int .i64 0) 3) s2)
theorem S25_eq (C : Calls) (R : Value → AS → Prop) (a0_0 a0_1 a0_2 : Value) (s : AS) : wpG E C (bodyC Tryd.f25) (endK E Tryd.f25.results.toList R) (fun _ _ _ => False) (endK E Tryd.f25.results.toList R) (argsSl [(.agg ⟨[a0_0, a0_1, a0_2]⟩)]) s = S25 C R a0_0 a0_1 a0_2 s := by kernel_rfl
theorem w25 {C : Calls} {R : Value → AS → Prop} {a0_0 a0_1 a0_2 : Value} {s : AS} (h : S25 C R a0_0 a0_1 a0_2 s) : WpF E C 25 [(.agg ⟨[a0_0, a0_1, a0_2]⟩)] R s :=
  wpF_mk (fn := Tryd.f25) (c := bodyC Tryd.f25) (by kernel_rfl) (by kernel_rfl) (by kernel_rfl) (S25_eq C R a0_0 a0_1 a0_2 s) h
/-! tempera/pic.Diff -/
noncomputable def S27_N32 (C : Calls) (R : Value → AS → Prop) (N28 : Sl → AS → Prop) (g33 : Sl) (s34 : AS) : Prop :=
  ofV (binG .add (g33 34) (.int .i64 1)) fun v35 =>
  N28 (su (su g33 v35 58) v35 34) s34
noncomputable def S27_L28 (C : Calls) (R : Value → AS → Prop) (N28 : Sl → AS → Prop) (g29 : Sl) (s30 : AS) : Prop :=
  ofV (binG .lss (g29 34) (g29 33)) fun v31 =>
  ifG v31 (
    ofV (aindexAddr E 22 (g29 32) (g29 34)) fun v36 =>
    ofV (ldS v36 s30) fun v37 =>
    ofV (afieldAddr E 48 (g29 3) 2) fun v38 =>
    ofV (ldS v38 s30) fun v39 =>
    ofV (aindexAddr E 22 v39 (g29 34)) fun v40 =>
    ofV (ldS v40 s30) fun v41 =>
    ofV (eqG E s30 .neq 3 v37 v41) fun v42 =>
    ifG v42 (
      s30.pick = none ∧
      ofV (afieldAddr E 48 (g29 2) 0) fun v43 =>
      ofV (ldS v43 s30) fun v44 =>
      ofV (binG .rem (g29 34) v44) fun v45 =>
      ofV (afieldAddr E 48 (g29 2) 0) fun v46 =>
      ofV (ldS v46 s30) fun v47 =>
      ofV (binG .quo (g29 34) v47) fun v48 =>
      ofV (abuild E 63 [(0, v45), (1, v48)]) fun v49 =>
      ofE (abuildSlice E s30 59 1 [(0, v49)]) fun v50 s51 => s51.pick = none ∧
      ofE (aappend E s51 59 59 (g29 6) v50) fun v52 s53 => s53.pick = none ∧
      ((((ldS v43 s51) = some v44)) ∧ (((ldS v46 s51) = some v47))) ∧
      jn (S27_N32 C R N28) (su (su (su (su (su (su (su (su (su (su (su (su (su (su (su (su (su (su (su (su (su (su (su (su (su (su g29 v31 35) (g29 34) 36) v36 37) v37 38) (g29 34) 7) v37 8) v37 39) v38 40) v39 41) (g29 34) 42) v40 43) v41 44) v42 45) (g29 6) 46) (g29 34) 47) v43 48) v44 49) v45 50) (g29 34) 51) v46 52) v47 53) v48 54) v49 55) v50 56) v52 57) v52 6) s53) (
      jn (S27_N32 C R N28) (su (su (su (su (su (su (su (su (su (su (su (su (su g29 v31 35) (g29 34) 36) v36 37) v37 38) (g29 34) 7) v37 8) v37 39) v38 40) v39 41) (g29 34) 42) v40 43) v41 44) v42 45) s30)) (
    R (.tuple ⟨[(g29 6), (.int .i64 0)]⟩) s30)
noncomputable def S27 (C : Calls) (R : Value → AS → Prop) (a0_0 a0_1 a0_2 a1_0 a1_1 a1_2 : Value) (s : AS) : Prop :=
  ofE (newRow E s 48 (vcells (.agg ⟨[a0_0, a0_1, a0_2]⟩))) fun v1 s2 =>
  ofE (newRow E s2 48 (vcells (.agg ⟨[a1_0, a1_1, a1_2]⟩))) fun v3 s4 =>
  ofV (ldA E 48 v1 s4) fun v5 =>
  ofE (C.call 24 [v5] s4) fun v6 s7 =>
  ofV (unG .not v6) fun v8 =>
  gdV v8 false (ldA E 48 v3 s7) fun v9 =>
  gdE v8 false (C.call 24 [v9] s7) s7 fun v10 s11 =>
  gdV v8 false (unG .not v10) fun v12 =>
  ofV (pickG v8 (.bool true) v12) fun v13 =>
  ifG v13 (
    R (.tuple ⟨[(.slice none 0 0), (.int .i64 6)]⟩) s11) (
    ofV (afieldAddr E 48 v1 0) fun v14 =>
    ofV (ldS v14 s11) fun v15 =>
    ofV (afieldAddr E 48 v3 0) fun v16 =>
    ofV (ldS v16 s11) fun v17 =>
    ofV (eqG E s11 .neq 3 v15 v17) fun v18 =>
    gdV v18 false (afieldAddr E 48 v1 1) fun v19 =>
    gdV v18 false (ldS v19 s11) fun v20 =>
    gdV v18 false (afieldAddr E 48 v3 1) fun v21 =>
    gdV v18 false (ldS v21 s11) fun v22 =>
    gdV v18 false (eqG E s11 .neq 3 v20 v22) fun v23 =>
    ofV (pickG v18 (.bool true) v23) fun v24 =>
    ifG v24 (
      R (.tuple ⟨[(.slice none 0 0), (.int .i64 2)]⟩) s11) (
      ofV (afieldAddr E 48 v1 2) fun v25 =>
      ofV (ldS v25 s11) fun v26 =>
      ofV (lenG v26) fun v27 =>
      LoopG (S27_L28 C R) (su (su (su (su (su (su (su (su (su (su (su (su (su (su (su (su (su (su (su (su (su (su (su (su (su (su (su (su (su (su (su (argsSl [(.agg ⟨[a0_0, a0_1, a0_2]⟩), (.agg ⟨[a1_0, a1_1, a1_2]⟩)]) v1 2) v3 3) (.slice none 0 0) 4) (.int .i64 0) 5) v5 10) v6 11) v8 12) v8 13) v9 14) v10 15) v12 16) v13 17) v13 9) v14 19) v15 20) v16 21) v17 22) v18 23) v18 24) v19 25) v20 26) v21 27) v22 28) v23 29) v24 30) v24 18) (.slice none 0 0) 6) v25 31) v26 32) v27 33) (.int .i64 0) 34) s11))
theorem S27_eq (C : Calls) (R : Value → AS → Prop) (a0_0 a0_1 a0_2 a1_0 a1_1 a1_2 : Value) (s : AS) : wpG E C (bodyC Tryd.f27) (endK E Tryd.f27.results.toList R) (fun _ _ _ => False) (endK E Tryd.f27.results.toList R) (argsSl [(.agg ⟨[a0_0, a0_1, a0_2]⟩), (.agg ⟨[a1_0, a1_1, a1_2]⟩)]) s = S27 C R a0_0 a0_1 a0_2 a1_0 a1_1 a1_2 s := by kernel_rfl
theorem w27 {C : Calls} {R : Value → AS → Prop} {a0_0 a0_1 a0_2 a1_0 a1_1 a1_2 : Value} {s : AS} (h : S27 C R a0_0 a0_1 a0_2 a1_0 a1_1 a1_2 s) : WpF E C 27 [(.agg ⟨[a0_0, a0_1, a0_2]⟩), (.agg ⟨[a1_0, a1_1, a1_2]⟩)] R s :=
  wpF_mk (fn := Tryd.f27) (c := bodyC Tryd.f27) (by kernel_rfl) (by kernel_rfl) (by kernel_rfl) (S27_eq C R a0_0 a0_1 a0_2 a1_0 a1_1 a1_2 s) h
/-! tempera/temperalaw36.PicDiffs -/
noncomputable def S5_N65 (C : Calls) (R : Value → AS → Prop) (N58 : Sl → AS → Prop) (g66 : Sl) (s67 : AS) : Prop :=
  ofV (binG .add (g66 8) (.int .i64 1)) fun v68 =>
  N58 (su (su (su g66 (g66 8) 71) v68 72) v68 8) s67
noncomputable def S5_L58 (C : Calls) (R : Value → AS → Prop) (N58 : Sl → AS → Prop) (g59 : Sl) (s60 : AS) : Prop :=
  ofV (afieldAddr E 48 (g59 2) 2) fun v61 =>
  ofV (ldS v61 s60) fun v62 =>
  ofV (lenG v62) fun v63 =>
  ofV (binG .lss (g59 8) v63) fun v64 =>
  ifG v64 (
    s60.pick = none ∧
    ofV (afieldAddr E 48 (g59 2) 2) fun v69 =>
    ofV (ldS v69 s60) fun v70 =>
    ofV (aindexAddr E 22 v70 (g59 8)) fun v71 =>
    ofV (ldS v71 s60) fun v72 =>
    ofV (afieldAddr E 48 (g59 3) 2) fun v73 =>
    ofV (ldS v73 s60) fun v74 =>
    ofV (aindexAddr E 22 v74 (g59 8)) fun v75 =>
    ofV (ldS v75 s60) fun v76 =>
    ofV (eqG E s60 .eql 3 v72 v76) fun v77 =>
    ifG v77 (
      jn (S5_N65 C R N58) (su (su (su (su (su (su (su (su (su (su (su (su (su (su (su (su g59 (g59 8) 66) v61 67) v62 68) v63 69) v64 70) v69 73) v70 74) (g59 8) 75) v71 76) v72 77) v73 78) v74 79) (g59 8) 80) v75 81) v76 82) v77 83) s60) (
      s60.pick = none ∧
      ofV (lenG (g59 5)) fun v78 =>
      ofV (binG .geq (g59 7) v78) fun v79 =>
      gdV v79 false (some (g59 5)) fun v80 =>
      gdV v79 false (some (g59 7)) fun v81 =>
      gdV v79 false (aindexAddr E 59 v80 v81) fun v82 =>
      gdV v79 false (ldA E 63 v82 s60) fun v83 =>
      gdV v79 false (some (g59 8)) fun v84 =>
      gdV v79 false (afieldAddr E 48 (g59 2) 0) fun v85 =>
      gdV v79 false (ldS v85 s60) fun v86 =>
      gdV v79 false (binG .rem v84 v86) fun v87 =>
      gdV v79 false (some (g59 8)) fun v88 =>
      gdV v79 false (afieldAddr E 48 (g59 2) 0) fun v89 =>
      gdV v79 false (ldS v89 s60) fun v90 =>
      gdV v79 false (binG .quo v88 v90) fun v91 =>
      gdV v79 false (abuild E 63 [(0, v87), (1, v91)]) fun v92 =>
      gdV v79 false (eqG E s60 .neq 63 v83 v92) fun v93 =>
      ofV (pickG v79 (.bool true) v93) fun v94 =>
      ifG v94 (
        R (.bool false) s60) (
        ofV (binG .add (g59 7) (.int .i64 1)) fun v95 =>
        jn (S5_N65 C R N58) (su (su (su (su (su (su (su (su (su (su (su (su (su (su (su (su (su (su (su (su (su (su (su (su (su (su (su (su (su (su (su (su (su (su (su (su (su (su (su g59 (g59 8) 66) v61 67) v62 68) v63 69) v64 70) v69 73) v70 74) (g59 8) 75) v71 76) v72 77) v73 78) v74 79) (g59 8) 80) v75 81) v76 82) v77 83) (g59 7) 84) (g59 5) 85) v78 86) v79 87) v79 88) v80 89) v81 90) v82 91) v83 92) v84 93) v85 94) v86 95) v87 96) v88 97) v89 98) v90 99) v91 100) v92 101) v93 102) v94 103) (g59 7) 104) v95 105) v95 7) s60))) (
    ofV (eqG E s60 .eql 41 (g59 6) (.int .i64 0)) fun v96 =>
    gdV v96 true (some (g59 7)) fun v97 =>
    gdV v96 true (some (g59 5)) fun v98 =>
    gdV v96 true (lenG v98) fun v99 =>
    gdV v96 true (eqG E s60 .eql 3 v97 v99) fun v100 =>
    ofV (pickG v96 v100 (.bool false)) fun v101 =>
    gdE v101 true (C.call 19 [] s60) s60 fun v102 s103 =>
    ofV (pickG v101 v102 (.bool false)) fun v104 =>
    R v104 s103)
noncomputable def S5 (C : Calls) (R : Value → AS → Prop) (a0_0 a0_1 a0_2 a1_0 a1_1 a1_2 : Value) (s : AS) : Prop :=
  ofE (newRow E s 48 (vcells (.agg ⟨[a0_0, a0_1, a0_2]⟩))) fun v1 s2 =>
  ofE (newRow E s2 48 (vcells (.agg ⟨[a1_0, a1_1, a1_2]⟩))) fun v3 s4 =>
  ofV (afieldAddr E 48 v1 2) fun v5 =>
  ofV (ldS v5 s4) fun v6 =>
  ofV (lenG v6) fun v7 =>
  ofV (binG .gtr v7 (.int .i64 3000)) fun v8 =>
  gdV v8 false (afieldAddr E 48 v3 2) fun v9 =>
  gdV v8 false (ldS v9 s4) fun v10 =>
  gdV v8 false (lenG v10) fun v11 =>
  gdV v8 false (binG .gtr v11 (.int .i64 3000)) fun v12 =>
  ofV (pickG v8 (.bool true) v12) fun v13 =>
  ifG v13 (
    ofE (C.call 19 [] s4) fun v14 s15 =>
    R v14 s15) (
    ofV (ldA E 48 v1 s4) fun v16 =>
    ofV (ldA E 48 v3 s4) fun v17 =>
    ofE (C.call 27 [v16, v17] s4) fun v18 s19 =>
    ofV (extG v18 0) fun v20 =>
    ofV (extG v18 1) fun v21 =>
    ofV (ldA E 48 v1 s19) fun v22 =>
    ofE (C.call 25 [v22] s19) fun v23 s24 =>
    ofV (unG .not v23) fun v25 =>
    gdV v25 false (ldA E 48 v3 s24) fun v26 =>
    gdE v25 false (C.call 25 [v26] s24) s24 fun v27 s28 =>
    gdV v25 false (unG .not v27) fun v29 =>
    ofV (pickG v25 (.bool true) v29) fun v30 =>
    ifG v30 (
      ofV (lenG v20) fun v31 =>
      ofV (eqG E s28 .eql 3 v31 (.int .i64 0)) fun v32 =>
      gdV v32 true (some v21) fun v33 =>
      gdV v32 true (eqG E s28 .eql 41 v33 (.int .i64 6)) fun v34 =>
      ofV (pickG v32 v34 (.bool false)) fun v35 =>
      gdE v35 true (C.call 19 [] s28) s28 fun v36 s37 =>
      ofV (pickG v35 v36 (.bool false)) fun v38 =>
      R v38 s37) (
      ofV (afieldAddr E 48 v1 0) fun v39 =>
      ofV (ldS v39 s28) fun v40 =>
      ofV (afieldAddr E 48 v3 0) fun v41 =>
      ofV (ldS v41 s28) fun v42 =>
      ofV (eqG E s28 .neq 3 v40 v42) fun v43 =>
      gdV v43 false (afieldAddr E 48 v1 1) fun v44 =>
      gdV v43 false (ldS v44 s28) fun v45 =>
      gdV v43 false (afieldAddr E 48 v3 1) fun v46 =>
      gdV v43 false (ldS v46 s28) fun v47 =>
      gdV v43 false (eqG E s28 .neq 3 v45 v47) fun v48 =>
      ofV (pickG v43 (.bool true) v48) fun v49 =>
      ifG v49 (
        ofV (lenG v20) fun v50 =>
        ofV (eqG E s28 .eql 3 v50 (.int .i64 0)) fun v51 =>
        gdV v51 true (some v21) fun v52 =>
        gdV v51 true (eqG E s28 .eql 41 v52 (.int .i64 2)) fun v53 =>
        ofV (pickG v51 v53 (.bool false)) fun v54 =>
        gdE v54 true (C.call 19 [] s28) s28 fun v55 s56 =>
        ofV (pickG v54 v55 (.bool false)) fun v57 =>
        R v57 s56) (
        LoopG (S5_L58 C R) (su (su (su (su (su (su (su (su (su (su (su (su (su (su (su (su (su (su (su (su (su (su (su (su (su (su (su (su (su (su (su (su (su (su (su (su (su (su (su (su (su (su (su (argsSl [(.agg ⟨[a0_0, a0_1, a0_2]⟩), (.agg ⟨[a1_0, a1_1, a1_2]⟩)]) v1 2) v3 3) (.bool false) 4) v5 9) v6 10) v7 11) v8 12) v8 13) v9 14) v10 15) v11 16) v12 17) v13 18) v16 21) v17 22) v18 23) v18 20) v20 24) v21 25) v20 5) v21 6) v22 26) v23 27) v25 28) v25 29) v26 30) v27 31) v29 32) v30 33) v39 44) v40 45) v41 46) v42 47) v43 48) v43 49) v44 50) v45 51) v46 52) v47 53) v48 54) v49 55) (.int .i64 0) 7) (.int .i64 0) 8) s28)))
theorem S5_eq (C : Calls) (R : Value → AS → Prop) (a0_0 a0_1 a0_2 a1_0 a1_1 a1_2 : Value) (s : AS) : wpG E C (bodyC Tryd.f5) (endK E Tryd.f5.results.toList R) (fun _ _ _ => False) (endK E Tryd.f5.results.toList R) (argsSl [(.agg ⟨[a0_0, a0_1, a0_2]⟩), (.agg ⟨[a1_0, a1_1, a1_2]⟩)]) s = S5 C R a0_0 a0_1 a0_2 a1_0 a1_1 a1_2 s := by kernel_rfl
theorem w5 {C : Calls} {R : Value → AS → Prop} {a0_0 a0_1 a0_2 a1_0 a1_1 a1_2 : Value} {s : AS} (h : S5 C R a0_0 a0_1 a0_2 a1_0 a1_1 a1_2 s) : WpF E C 5 [(.agg ⟨[a0_0, a0_1, a0_2]⟩), (.agg ⟨[a1_0, a1_1, a1_2]⟩)] R s :=
  wpF_mk (fn := Tryd.f5) (c := bodyC Tryd.f5) (by kernel_rfl) (by kernel_rfl) (by kernel_rfl) (S5_eq C R a0_0 a0_1 a0_2 a1_0 a1_1 a1_2 s) h
end Go.AE.D
