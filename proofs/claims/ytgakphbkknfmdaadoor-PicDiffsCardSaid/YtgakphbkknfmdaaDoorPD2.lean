import Derived.Test.YtgakphbkknfmdaaDoorPD1
set_option linter.all false
set_option linter.unusedSimpArgs false
set_option linter.unusedVariables false
namespace Go.AE.D
open Go Go.Proofs Go.AE
theorem b25 {C : Calls} {args : List Value} {s : AS} {v : Value} {s' : AS} (h : ZR args s v s') : WpF E C 25 args (fun v1 s1 => Tells P (okOf E) E.glob s v1 s1 v s') s := by
  obtain ⟨W, H, L, zs, rfl, hz, hl, rfl, rfl, hs⟩ := h
  refine w25 ?_
  unfold S25
  have nb : (s'.new (.row true 48 [Value.int IntKind.i64 W, Value.int IntKind.i64 H, L] 0 0)).flat.get s'.next = some (.row true 48 [Value.int IntKind.i64 W, Value.int IntKind.i64 H, L] 0 0) := by simp [hs.pick]
  have std := hs.new (o := .row true 48 [Value.int IntKind.i64 W, Value.int IntKind.i64 H, L] 0 0) trivial
  have old := fun k (hk : k < s'.next) => hs.old (.row true 48 [Value.int IntKind.i64 W, Value.int IntKind.i64 H, L] 0 0) hk
  have hz2 := hz.new hs (.row true 48 [Value.int IntKind.i64 W, Value.int IntKind.i64 H, L] 0 0)
  rw [newRow_of sz48 hs.pick]
  simp only [vcells, ofE_some]
  generalize hs2 : (s'.new (.row true 48 [Value.int IntKind.i64 W, Value.int IntKind.i64 H, L] 0 0)).flat = s2 at *
  have close : rightB W H zs = false → Tells P (okOf E) E.glob s' (.bool false) s2 (.bool (rightB W H zs)) s' := fun h => by
    rw [h]
    exact tells_same hs.calm hs.pick old rfl
  simp only [fa48_0, fa48_1, fa48_2, ofV_some, ldS_ptr, nb, cellAt_row, List.getElem?_cons_zero, List.getElem?_cons_succ, binG_int, intG, Nat.zero_add, Nat.reduceAdd]
  by_cases h1 : W < 0
  · simp -implicitDefEqProofs only [ofV_some, ofE_some, ofX_some, gdV_tt, gdV_tf, gdV_ft, gdV_ff, gdE_tt, gdE_tf, gdE_ft, gdE_ff, gdF_tt, gdF_tf, gdF_ft, gdF_ff, gdP_tt, gdP_tf, gdP_ft, gdP_ff, ifG_t, ifG_f, pickG_t, pickG_f, unG_not, binG_int, eqG_int, eqG_str, lenG_slice, extG_tuple, ldS_ptr, intG, cellAt_row, aggAt_row, jn, List.getElem?_cons_zero, List.getElem?_cons_succ, Nat.zero_add, Nat.reduceAdd, decide_true, decide_false, Bool.not_true, Bool.not_false, beq_self_eq_true, h1]
    exact close (by simp [rightB, h1])
  by_cases h2 : 256 < W
  · simp -implicitDefEqProofs only [ofV_some, ofE_some, ofX_some, gdV_tt, gdV_tf, gdV_ft, gdV_ff, gdE_tt, gdE_tf, gdE_ft, gdE_ff, gdF_tt, gdF_tf, gdF_ft, gdF_ff, gdP_tt, gdP_tf, gdP_ft, gdP_ff, ifG_t, ifG_f, pickG_t, pickG_f, unG_not, binG_int, eqG_int, eqG_str, lenG_slice, extG_tuple, ldS_ptr, intG, cellAt_row, aggAt_row, jn, List.getElem?_cons_zero, List.getElem?_cons_succ, Nat.zero_add, Nat.reduceAdd, decide_true, decide_false, Bool.not_true, Bool.not_false, beq_self_eq_true, h1, h2, nb, fa48_0, fa48_1, fa48_2, hz.len]
    exact close (by simp [rightB, h2])
  by_cases h3 : H < 0
  · simp -implicitDefEqProofs only [ofV_some, ofE_some, ofX_some, gdV_tt, gdV_tf, gdV_ft, gdV_ff, gdE_tt, gdE_tf, gdE_ft, gdE_ff, gdF_tt, gdF_tf, gdF_ft, gdF_ff, gdP_tt, gdP_tf, gdP_ft, gdP_ff, ifG_t, ifG_f, pickG_t, pickG_f, unG_not, binG_int, eqG_int, eqG_str, lenG_slice, extG_tuple, ldS_ptr, intG, cellAt_row, aggAt_row, jn, List.getElem?_cons_zero, List.getElem?_cons_succ, Nat.zero_add, Nat.reduceAdd, decide_true, decide_false, Bool.not_true, Bool.not_false, beq_self_eq_true, h1, h2, h3, nb, fa48_0, fa48_1, fa48_2, hz.len]
    exact close (by simp [rightB, h3])
  by_cases h4 : 256 < H
  · simp -implicitDefEqProofs only [ofV_some, ofE_some, ofX_some, gdV_tt, gdV_tf, gdV_ft, gdV_ff, gdE_tt, gdE_tf, gdE_ft, gdE_ff, gdF_tt, gdF_tf, gdF_ft, gdF_ff, gdP_tt, gdP_tf, gdP_ft, gdP_ff, ifG_t, ifG_f, pickG_t, pickG_f, unG_not, binG_int, eqG_int, eqG_str, lenG_slice, extG_tuple, ldS_ptr, intG, cellAt_row, aggAt_row, jn, List.getElem?_cons_zero, List.getElem?_cons_succ, Nat.zero_add, Nat.reduceAdd, decide_true, decide_false, Bool.not_true, Bool.not_false, beq_self_eq_true, h1, h2, h3, h4, nb, fa48_0, fa48_1, fa48_2, hz.len]
    exact close (by simp [rightB, h4])
  have hw : IntKind.i64.wrap (W * H) = W * H := by
    have q0 : 0 ≤ W * H := Int.mul_nonneg (by omega) (by omega)
    have q1 : W * H ≤ 256 * 256 := Int.mul_le_mul (by omega) (by omega) (by omega) (by omega)
    exact wrap_fits (by omega) (by omega)
  by_cases h5 : (zs.length : Int) = W * H
  · simp -implicitDefEqProofs only [ofV_some, ofE_some, ofX_some, gdV_tt, gdV_tf, gdV_ft, gdV_ff, gdE_tt, gdE_tf, gdE_ft, gdE_ff, gdF_tt, gdF_tf, gdF_ft, gdF_ff, gdP_tt, gdP_tf, gdP_ft, gdP_ff, ifG_t, ifG_f, pickG_t, pickG_f, unG_not, binG_int, eqG_int, eqG_str, lenG_slice, extG_tuple, ldS_ptr, intG, cellAt_row, aggAt_row, jn, List.getElem?_cons_zero, List.getElem?_cons_succ, Nat.zero_add, Nat.reduceAdd, decide_true, decide_false, Bool.not_true, Bool.not_false, beq_self_eq_true, h1, h2, h3, h4, nb, fa48_0, fa48_1, fa48_2, hz.len, hw, h5, decide_true, decide_false]
    have hr : rightB W H zs = !zs.any badN := by simp [rightB, h1, h2, h3, h4, h5]
    refine ⟨fun m g s1 => ∃ i : Nat, g 1 = .pointer (some ⟨s'.next, 0, none⟩) ∧ g 3 = .int .i64 (i : Int) ∧ m = zs.length - i ∧ i ≤ zs.length ∧ (zs.drop i).any badN = zs.any badN ∧ s1 = s2, zs.length, ⟨0, by simp, by simp, by simp, by simp, by simp, rfl⟩, ?_⟩
    rintro m g s1 ⟨i, g1, g3, rfl, hi, hf, rfl⟩
    unfold S25_L28
    simp only [g1, g3, fa48_2, ofV_some, ldS_ptr, nb, cellAt_row, hz2.len, binG_int, intG, Nat.zero_add, List.getElem?_cons_zero, List.getElem?_cons_succ]
    refine ifG_iff (fun ht => ?_) (fun ht => ?_)
    · have ht : i < zs.length := by simpa using ht
      obtain ⟨b, o, e1, e2⟩ := ints_at hz2 ht
      have hd : zs.drop i = zs[i] :: zs.drop (i + 1) := by simp
      rw [hd, List.any_cons] at hf
      simp only [e1, e2, ofV_some, ldS_ptr, binG_int, intG]
      have stop : badN zs[i] = true → Tells P (okOf E) E.glob s' (.bool false) s1 (.bool (rightB W H zs)) s' := fun hb => by
        refine close ?_
        rw [hr, ← hf, hb]
        rfl
      have step : badN zs[i] = false → ∀ g' : Sl, g' 1 = g 1 → g' 3 = .int .i64 (IntKind.i64.wrap ((i : Int) + 1)) → loopN (fun m g s1' => ∃ i : Nat, g 1 = .pointer (some ⟨s'.next, 0, none⟩) ∧ g 3 = .int .i64 (i : Int) ∧ m = zs.length - i ∧ i ≤ zs.length ∧ (zs.drop i).any badN = zs.any badN ∧ s1' = s1) (zs.length - i) g' s1 := fun hb g' q1 q3 =>
        ⟨zs.length - (i + 1), by omega, i + 1, q1.trans g1, by rw [q3, wrap_up ht hl], rfl, by omega, by rw [← hf, hb]; rfl, rfl⟩
      by_cases hb1 : zs[i] < 0
      · simp -implicitDefEqProofs only [ofV_some, ofE_some, ofX_some, gdV_tt, gdV_tf, gdV_ft, gdV_ff, gdE_tt, gdE_tf, gdE_ft, gdE_ff, gdF_tt, gdF_tf, gdF_ft, gdF_ff, gdP_tt, gdP_tf, gdP_ft, gdP_ff, ifG_t, ifG_f, pickG_t, pickG_f, unG_not, binG_int, eqG_int, eqG_str, lenG_slice, extG_tuple, ldS_ptr, intG, cellAt_row, aggAt_row, jn, List.getElem?_cons_zero, List.getElem?_cons_succ, Nat.zero_add, Nat.reduceAdd, decide_true, decide_false, Bool.not_true, Bool.not_false, beq_self_eq_true, hb1]
        exact stop (by simp [badN, hb1])
      by_cases hb2 : 4294967295 < zs[i]
      · simp -implicitDefEqProofs only [ofV_some, ofE_some, ofX_some, gdV_tt, gdV_tf, gdV_ft, gdV_ff, gdE_tt, gdE_tf, gdE_ft, gdE_ff, gdF_tt, gdF_tf, gdF_ft, gdF_ff, gdP_tt, gdP_tf, gdP_ft, gdP_ff, ifG_t, ifG_f, pickG_t, pickG_f, unG_not, binG_int, eqG_int, eqG_str, lenG_slice, extG_tuple, ldS_ptr, intG, cellAt_row, aggAt_row, jn, List.getElem?_cons_zero, List.getElem?_cons_succ, Nat.zero_add, Nat.reduceAdd, decide_true, decide_false, Bool.not_true, Bool.not_false, beq_self_eq_true, hb1, hb2, e2, e1, nb, fa48_2, hz2.len]
        exact stop (by simp [badN, hb2])
      simp -implicitDefEqProofs only [ofV_some, ofE_some, ofX_some, gdV_tt, gdV_tf, gdV_ft, gdV_ff, gdE_tt, gdE_tf, gdE_ft, gdE_ff, gdF_tt, gdF_tf, gdF_ft, gdF_ff, gdP_tt, gdP_tf, gdP_ft, gdP_ff, ifG_t, ifG_f, pickG_t, pickG_f, unG_not, binG_int, eqG_int, eqG_str, lenG_slice, extG_tuple, ldS_ptr, intG, cellAt_row, aggAt_row, jn, List.getElem?_cons_zero, List.getElem?_cons_succ, Nat.zero_add, Nat.reduceAdd, decide_true, decide_false, Bool.not_true, Bool.not_false, beq_self_eq_true, hb1, hb2, e2, e1, nb, fa48_2, hz2.len]
      refine step (by simp [badN, hb1, hb2]) _ ?_ ?_ <;> simp only [su_at, if_true, if_false, Nat.reduceEqDiff, reduceIte]
    · have ht : ¬ i < zs.length := by simpa using ht
      rw [List.drop_eq_nil_of_le (by omega)] at hf
      rw [hr, ← hf]
      exact tells_same hs.calm hs.pick old rfl
  · simp -implicitDefEqProofs only [ofV_some, ofE_some, ofX_some, gdV_tt, gdV_tf, gdV_ft, gdV_ff, gdE_tt, gdE_tf, gdE_ft, gdE_ff, gdF_tt, gdF_tf, gdF_ft, gdF_ff, gdP_tt, gdP_tf, gdP_ft, gdP_ff, ifG_t, ifG_f, pickG_t, pickG_f, unG_not, binG_int, eqG_int, eqG_str, lenG_slice, extG_tuple, ldS_ptr, intG, cellAt_row, aggAt_row, jn, List.getElem?_cons_zero, List.getElem?_cons_succ, Nat.zero_add, Nat.reduceAdd, decide_true, decide_false, Bool.not_true, Bool.not_false, beq_self_eq_true, h1, h2, h3, h4, nb, fa48_0, fa48_1, fa48_2, hz.len, hw, show ((zs.length : Int) == W * H) = false by simpa using h5, decide_true, decide_false]
    exact close (by simp [rightB, h5])
end Go.AE.D
