import Derived.Test.YtgakphbkknfmdaaDoorPD3
import Derived.Test.YtgakphbkknfmdaaDoorAEG7
set_option linter.all false
set_option linter.unusedSimpArgs false
set_option linter.unusedVariables false
namespace Go.AE.D
open Go Go.Proofs Go.AE
theorem la63 (b o : Nat) (s : AS) : ldA E 63 (.pointer (some ⟨b, o, none⟩)) s = aggAt (s.get b) o 2 := by
  have h : ∃ d, E.und 63 = some d ∧ isAggD d = true := by
    cases h : E.und 63 with
    | none => exact absurd h (by show ¬ (E.und 63 = none); intro h; have : (E.und 63).isSome = true := by kernel_rfl
                                 rw [h] at this; cases this)
    | some d =>
      refine ⟨d, rfl, ?_⟩
      have : (match E.und 63 with | some d => isAggD d | none => false) = true := by kernel_rfl
      rw [h] at this
      exact this
  obtain ⟨d, h1, h2⟩ := h
  exact ldA_ptr h1 h2 sz63 b o s
theorem eq63 (s : AS) (a b c d : Int) : eqG E s .neq 63 (.agg ⟨[.int .i64 a, .int .i64 b]⟩) (.agg ⟨[.int .i64 c, .int .i64 d]⟩) = some (.bool (!((a == c) && (b == d)))) :=
  eqG_two (f0 := { name := "X", type := 3, offset := 0, embedded := false, tag := "", pkgPath := "", byteOffset := 0 }) (f1 := { name := "Y", type := 3, offset := 1, embedded := false, tag := "", pkgPath := "", byteOffset := 8 }) (op := .neq)
    (by kernel_rfl) (by kernel_rfl) (by kernel_rfl) (by decide) (by decide) (by kernel_rfl) (by kernel_rfl) rfl rfl (by kernel_rfl)
theorem closed_fun {u : Value} {args s v s' w t} (h : closedZ u args s v s') (h' : closedZ u args s w t) : w = v ∧ t = s' := by
  obtain ⟨_, rfl, rfl⟩ := h
  obtain ⟨_, rfl, rfl⟩ := h'
  exact ⟨rfl, rfl⟩
/-- Spots at hand. -/
def PtsAt (s : AS) (D : Value) (W : Int) (ps : List Nat) : Prop :=
  (D = .slice none 0 0 ∧ ps = []) ∨ ∃ k, D = .slice (some ⟨k, 0, none⟩) ps.length 0 ∧ s.get k = some (.row true 63 (ptCells W ps) 0 0)
theorem PtsAt.len {s : AS} {D : Value} {W : Int} {ps : List Nat} (h : PtsAt s D W ps) : lenG D = some (.int .i64 (ps.length : Int)) := by
  rcases h with ⟨rfl, rfl⟩ | ⟨k, rfl, _⟩ <;> rfl
theorem PtsAt.at {s : AS} {D : Value} {W : Int} {pre rest : List Nat} {i : Nat} (h : PtsAt s D W (pre ++ i :: rest)) : ∃ b o, aindexAddr E 59 D (.int .i64 (pre.length : Int)) = some (.pointer (some ⟨b, o, none⟩)) ∧ aggAt (s.get b) o 2 = some (.agg ⟨[.int .i64 ((i : Int).tmod W), .int .i64 (IntKind.i64.wrap ((i : Int).tdiv W))]⟩) := by
  rcases h with ⟨_, h⟩ | ⟨k, rfl, hk⟩
  · simp at h
  · refine ⟨k, 0 + pre.length * 2, ?_, ?_⟩
    · rw [index_at ud59 sz63 (by omega) (by simp; omega)]
      simp
    · rw [hk, aggAt_row]
      have : cut (ptCells W (pre ++ i :: rest)) (0 + pre.length * 2) 2 = some [.int .i64 ((i : Int).tmod W), .int .i64 (IntKind.i64.wrap ((i : Int).tdiv W))] := by
        unfold cut
        rw [ptCells_app, Nat.zero_add, ← ptCells_len W pre, List.drop_left]
        rfl
      rw [this]

theorem law5 {C : Calls} (hA : Meets C 19 (closedZ (.bool true))) (hM : Meets C 27 ZD) (hR : Meets C 25 ZR) {W H : Int} {L : Value} {zs : List Int} {W' H' : Int} {L' : Value} {zs' : List Int} {s : AS}
    (hz : IntsAt s L zs) (hz' : IntsAt s L' zs') (hl : zs.length < 9223372036854775808) (hl' : zs'.length < 9223372036854775808) (hs : Std s) : WpF E C 5 [img W H L, img W' H' L'] (fun v _ => v = .bool true) s := by
  refine w5 ?_
  unfold S5
  have hs1 := hs.new (o := .row true 48 [.int .i64 W, .int .i64 H, L] 0 0) trivial
  have n1 : (s.new (.row true 48 [.int .i64 W, .int .i64 H, L] 0 0)).flat.next = s.next + 1 := next_newF hs.pick _
  rw [newRow_of sz48 hs.pick]
  simp -implicitDefEqProofs only [ofE_some, vcells]
  rw [newRow_of sz48 hs1.pick]
  have hz1 := (hz.new hs (.row true 48 [.int .i64 W, .int .i64 H, L] 0 0)).new hs1 (.row true 48 [.int .i64 W', .int .i64 H', L'] 0 0)
  have hz1' := (hz'.new hs (.row true 48 [.int .i64 W, .int .i64 H, L] 0 0)).new hs1 (.row true 48 [.int .i64 W', .int .i64 H', L'] 0 0)
  have hs2 := hs1.new (o := .row true 48 [.int .i64 W', .int .i64 H', L'] 0 0) trivial
  have nx : ((s.new (.row true 48 [.int .i64 W, .int .i64 H, L] 0 0)).flat.new (.row true 48 [.int .i64 W', .int .i64 H', L'] 0 0)).flat.next = s.next + 2 := by rw [next_newF hs1.pick, n1]
  have nb1 : ((s.new (.row true 48 [.int .i64 W, .int .i64 H, L] 0 0)).flat.new (.row true 48 [.int .i64 W', .int .i64 H', L'] 0 0)).flat.get s.next = some (.row true 48 [.int .i64 W, .int .i64 H, L] 0 0) := by
    rw [hs1.old _ (by omega), get_newF hs.pick, if_pos rfl]
  have nb2 : ((s.new (.row true 48 [.int .i64 W, .int .i64 H, L] 0 0)).flat.new (.row true 48 [.int .i64 W', .int .i64 H', L'] 0 0)).flat.get (s.next + 1) = some (.row true 48 [.int .i64 W', .int .i64 H', L'] 0 0) := by
    rw [get_newF hs1.pick, n1, if_pos rfl]
  rw [n1]
  simp -implicitDefEqProofs only [ofE_some, vcells]
  generalize ((s.new (.row true 48 [.int .i64 W, .int .i64 H, L] 0 0)).flat.new (.row true 48 [.int .i64 W', .int .i64 H', L'] 0 0)).flat = s2 at *
  have c3 : cut [Value.int .i64 W, .int .i64 H, L] 0 3 = some [Value.int .i64 W, .int .i64 H, L] := rfl
  have c3' : cut [Value.int .i64 W', .int .i64 H', L'] 0 3 = some [Value.int .i64 W', .int .i64 H', L'] := rfl
  simp -implicitDefEqProofs only [ofV_some, ofE_some, ofX_some, gdV_tt, gdV_tf, gdV_ft, gdV_ff, gdE_tt, gdE_tf, gdE_ft, gdE_ff, gdF_tt, gdF_tf, gdF_ft, gdF_ff, gdP_tt, gdP_tf, gdP_ft, gdP_ff, ifG_t, ifG_f, pickG_t, pickG_f, unG_not, binG_int, eqG_int, eqG_str, lenG_slice, extG_tuple, ldS_ptr, intG, cellAt_row, aggAt_row, jn, List.getElem?_cons_zero, List.getElem?_cons_succ, Nat.zero_add, Nat.reduceAdd, decide_true, decide_false, Bool.not_true, Bool.not_false, beq_self_eq_true, fa48_2, nb1, hz1.len]
  by_cases b1 : (3000 : Int) < zs.length
  · simp -implicitDefEqProofs only [ofV_some, ofE_some, ofX_some, gdV_tt, gdV_tf, gdV_ft, gdV_ff, gdE_tt, gdE_tf, gdE_ft, gdE_ff, gdF_tt, gdF_tf, gdF_ft, gdF_ff, gdP_tt, gdP_tf, gdP_ft, gdP_ff, ifG_t, ifG_f, pickG_t, pickG_f, unG_not, binG_int, eqG_int, eqG_str, lenG_slice, extG_tuple, ldS_ptr, intG, cellAt_row, aggAt_row, jn, List.getElem?_cons_zero, List.getElem?_cons_succ, Nat.zero_add, Nat.reduceAdd, decide_true, decide_false, Bool.not_true, Bool.not_false, beq_self_eq_true, b1]
    exact hA.use closed_fun ⟨rfl, rfl, rfl⟩ rfl
  simp -implicitDefEqProofs only [ofV_some, ofE_some, ofX_some, gdV_tt, gdV_tf, gdV_ft, gdV_ff, gdE_tt, gdE_tf, gdE_ft, gdE_ff, gdF_tt, gdF_tf, gdF_ft, gdF_ff, gdP_tt, gdP_tf, gdP_ft, gdP_ff, ifG_t, ifG_f, pickG_t, pickG_f, unG_not, binG_int, eqG_int, eqG_str, lenG_slice, extG_tuple, ldS_ptr, intG, cellAt_row, aggAt_row, jn, List.getElem?_cons_zero, List.getElem?_cons_succ, Nat.zero_add, Nat.reduceAdd, decide_true, decide_false, Bool.not_true, Bool.not_false, beq_self_eq_true, b1, fa48_2, nb2, hz1'.len]
  by_cases b2 : (3000 : Int) < zs'.length
  · simp -implicitDefEqProofs only [ofV_some, ofE_some, ofX_some, gdV_tt, gdV_tf, gdV_ft, gdV_ff, gdE_tt, gdE_tf, gdE_ft, gdE_ff, gdF_tt, gdF_tf, gdF_ft, gdF_ff, gdP_tt, gdP_tf, gdP_ft, gdP_ff, ifG_t, ifG_f, pickG_t, pickG_f, unG_not, binG_int, eqG_int, eqG_str, lenG_slice, extG_tuple, ldS_ptr, intG, cellAt_row, aggAt_row, jn, List.getElem?_cons_zero, List.getElem?_cons_succ, Nat.zero_add, Nat.reduceAdd, decide_true, decide_false, Bool.not_true, Bool.not_false, beq_self_eq_true, b2]
    exact hA.use closed_fun ⟨rfl, rfl, rfl⟩ rfl
  simp -implicitDefEqProofs only [ofV_some, ofE_some, ofX_some, gdV_tt, gdV_tf, gdV_ft, gdV_ff, gdE_tt, gdE_tf, gdE_ft, gdE_ff, gdF_tt, gdF_tf, gdF_ft, gdF_ff, gdP_tt, gdP_tf, gdP_ft, gdP_ff, ifG_t, ifG_f, pickG_t, pickG_f, unG_not, binG_int, eqG_int, eqG_str, lenG_slice, extG_tuple, ldS_ptr, intG, cellAt_row, aggAt_row, jn, List.getElem?_cons_zero, List.getElem?_cons_succ, Nat.zero_add, Nat.reduceAdd, decide_true, decide_false, Bool.not_true, Bool.not_false, beq_self_eq_true, b2, la48, nb1, nb2, c3, c3']
  obtain ⟨D, e, s5, hq, std5, k5, cond⟩ : ∃ (D : Value) (e : Int) (s5 : AS), diffR W H zs W' H' zs' s2 = (.tuple ⟨[D, .int .i64 e]⟩, s5) ∧ Std s5.flat ∧ (∀ k, k < s2.next → s5.flat.get k = s2.get k) ∧
      (((rightB W H zs && rightB W' H' zs') = false ∧ D = .slice none 0 0 ∧ e = 6) ∨ ((rightB W H zs && rightB W' H' zs') = true ∧ (W ≠ W' ∨ H ≠ H') ∧ D = .slice none 0 0 ∧ e = 2) ∨
       ((rightB W H zs && rightB W' H' zs') = true ∧ W = W' ∧ H = H' ∧ e = 0 ∧ PtsAt s5.flat D W (difs zs zs' 0))) := by
    unfold diffR
    split
    · rename_i h
      exact ⟨_, _, _, rfl, by rw [hs2.flat]; exact hs2, fun _ _ => by rw [hs2.flat], .inl ⟨h, rfl, rfl⟩⟩
    · rename_i h
      have h : (rightB W H zs && rightB W' H' zs') = true := by simpa using h
      split
      · rename_i h'
        exact ⟨_, _, _, rfl, by rw [hs2.flat]; exact hs2, fun _ _ => by rw [hs2.flat], .inr (.inl ⟨h, h', rfl, rfl⟩)⟩
      · rename_i h'
        have h' : W = W' ∧ H = H' := by omega
        split
        · rename_i h''
          exact ⟨_, _, _, rfl, by rw [hs2.flat]; exact hs2, fun _ _ => by rw [hs2.flat], .inr (.inr ⟨h, h'.1, h'.2, rfl, .inl ⟨rfl, h''⟩⟩)⟩
        · exact ⟨_, _, _, rfl, hs2.new trivial, fun k hk => hs2.old _ hk, .inr (.inr ⟨h, h'.1, h'.2, rfl, .inr ⟨_, rfl, by rw [get_newF hs2.pick, if_pos rfl]⟩⟩)⟩
  refine hM.use ZD_fun ⟨W, H, L, zs, W', H', L', zs', rfl, hz1, hz1', hl, hl', hq.symm, hs2⟩ ?_
  have nb1 := (k5 _ (by omega)).trans nb1
  have nb2 := (k5 _ (by omega)).trans nb2
  have hz1 : IntsAt s5.flat L zs := hz1.mono fun k o hk => by rw [k5 k (hs2.lt hk)]; exact hk
  have hz1' : IntsAt s5.flat L' zs' := hz1'.mono fun k o hk => by rw [k5 k (hs2.lt hk)]; exact hk
  generalize s5.flat = s6 at *
  simp -implicitDefEqProofs only [ofV_some, ofE_some, ofX_some, gdV_tt, gdV_tf, gdV_ft, gdV_ff, gdE_tt, gdE_tf, gdE_ft, gdE_ff, gdF_tt, gdF_tf, gdF_ft, gdF_ff, gdP_tt, gdP_tf, gdP_ft, gdP_ff, ifG_t, ifG_f, pickG_t, pickG_f, unG_not, binG_int, eqG_int, eqG_str, lenG_slice, extG_tuple, ldS_ptr, intG, cellAt_row, aggAt_row, jn, List.getElem?_cons_zero, List.getElem?_cons_succ, Nat.zero_add, Nat.reduceAdd, decide_true, decide_false, Bool.not_true, Bool.not_false, beq_self_eq_true, la48, nb1, nb2, c3, c3']
  refine hR.use ZR_fun ⟨W, H, L, zs, rfl, hz1, hl, rfl, rfl, std5⟩ ?_
  rw [std5.flat]
  cases hr1 : rightB W H zs with
  | false =>
    rcases cond with ⟨_, rfl, rfl⟩ | ⟨h, _⟩ | ⟨h, _⟩
    · simp -implicitDefEqProofs only [ofV_some, ofE_some, ofX_some, gdV_tt, gdV_tf, gdV_ft, gdV_ff, gdE_tt, gdE_tf, gdE_ft, gdE_ff, gdF_tt, gdF_tf, gdF_ft, gdF_ff, gdP_tt, gdP_tf, gdP_ft, gdP_ff, ifG_t, ifG_f, pickG_t, pickG_f, unG_not, binG_int, eqG_int, eqG_str, lenG_slice, extG_tuple, ldS_ptr, intG, cellAt_row, aggAt_row, jn, List.getElem?_cons_zero, List.getElem?_cons_succ, Nat.zero_add, Nat.reduceAdd, decide_true, decide_false, Bool.not_true, Bool.not_false, beq_self_eq_true, Int.natCast_zero]
      exact hA.use closed_fun ⟨rfl, rfl, rfl⟩ rfl
    · simp [hr1] at h
    · simp [hr1] at h
  | true =>
  simp -implicitDefEqProofs only [ofV_some, ofE_some, ofX_some, gdV_tt, gdV_tf, gdV_ft, gdV_ff, gdE_tt, gdE_tf, gdE_ft, gdE_ff, gdF_tt, gdF_tf, gdF_ft, gdF_ff, gdP_tt, gdP_tf, gdP_ft, gdP_ff, ifG_t, ifG_f, pickG_t, pickG_f, unG_not, binG_int, eqG_int, eqG_str, lenG_slice, extG_tuple, ldS_ptr, intG, cellAt_row, aggAt_row, jn, List.getElem?_cons_zero, List.getElem?_cons_succ, Nat.zero_add, Nat.reduceAdd, decide_true, decide_false, Bool.not_true, Bool.not_false, beq_self_eq_true, la48, nb1, nb2, c3, c3']
  refine hR.use ZR_fun ⟨W', H', L', zs', rfl, hz1', hl', rfl, rfl, std5⟩ ?_
  rw [std5.flat]
  cases hr2 : rightB W' H' zs' with
  | false =>
    rcases cond with ⟨_, rfl, rfl⟩ | ⟨h, _⟩ | ⟨h, _⟩
    · simp -implicitDefEqProofs only [ofV_some, ofE_some, ofX_some, gdV_tt, gdV_tf, gdV_ft, gdV_ff, gdE_tt, gdE_tf, gdE_ft, gdE_ff, gdF_tt, gdF_tf, gdF_ft, gdF_ff, gdP_tt, gdP_tf, gdP_ft, gdP_ff, ifG_t, ifG_f, pickG_t, pickG_f, unG_not, binG_int, eqG_int, eqG_str, lenG_slice, extG_tuple, ldS_ptr, intG, cellAt_row, aggAt_row, jn, List.getElem?_cons_zero, List.getElem?_cons_succ, Nat.zero_add, Nat.reduceAdd, decide_true, decide_false, Bool.not_true, Bool.not_false, beq_self_eq_true, Int.natCast_zero]
      exact hA.use closed_fun ⟨rfl, rfl, rfl⟩ rfl
    · simp [hr2] at h
    · simp [hr2] at h
  | true =>
  have nolike : ∀ {p : Prop}, (W ≠ W' ∨ H ≠ H') → ((D = .slice none 0 0 ∧ e = 2 → p) → p) := fun {p} hne hp => by
    rcases cond with ⟨h, _⟩ | ⟨_, _, h⟩ | ⟨_, h1, h2, _⟩
    · simp [hr1, hr2] at h
    · exact hp h
    · omega
  simp -implicitDefEqProofs only [ofV_some, ofE_some, ofX_some, gdV_tt, gdV_tf, gdV_ft, gdV_ff, gdE_tt, gdE_tf, gdE_ft, gdE_ff, gdF_tt, gdF_tf, gdF_ft, gdF_ff, gdP_tt, gdP_tf, gdP_ft, gdP_ff, ifG_t, ifG_f, pickG_t, pickG_f, unG_not, binG_int, eqG_int, eqG_str, lenG_slice, extG_tuple, ldS_ptr, intG, cellAt_row, aggAt_row, jn, List.getElem?_cons_zero, List.getElem?_cons_succ, Nat.zero_add, Nat.reduceAdd, decide_true, decide_false, Bool.not_true, Bool.not_false, beq_self_eq_true, fa48_0, fa48_1, fa48_2, nb1, nb2]
  by_cases hW : W = W'
  · by_cases hH : H = H'
    · subst hW
      subst hH
      simp -implicitDefEqProofs only [ofV_some, ofE_some, ofX_some, gdV_tt, gdV_tf, gdV_ft, gdV_ff, gdE_tt, gdE_tf, gdE_ft, gdE_ff, gdF_tt, gdF_tf, gdF_ft, gdF_ff, gdP_tt, gdP_tf, gdP_ft, gdP_ff, ifG_t, ifG_f, pickG_t, pickG_f, unG_not, binG_int, eqG_int, eqG_str, lenG_slice, extG_tuple, ldS_ptr, intG, cellAt_row, aggAt_row, jn, List.getElem?_cons_zero, List.getElem?_cons_succ, Nat.zero_add, Nat.reduceAdd, decide_true, decide_false, Bool.not_true, Bool.not_false, beq_self_eq_true, fa48_0, fa48_1, fa48_2, nb1, nb2, hz1.len]
      obtain ⟨rfl, hp⟩ : e = 0 ∧ PtsAt s6 D W (difs zs zs' 0) := by
        rcases cond with ⟨h, _⟩ | ⟨_, h, _⟩ | ⟨_, _, _, h⟩
        · simp [hr1, hr2] at h
        · omega
        · exact h
      have en : ∀ {xs : List Int}, rightB W H xs = true → (xs.length : Int) = W * H ∧ 0 ≤ W ∧ W ≤ 256 ∧ 0 ≤ H ∧ H ≤ 256 := fun h => by
        simp [rightB] at h
        omega
      obtain ⟨e1, w0, w1, h0, h1⟩ := en hr1
      have e2 := (en hr2).1
      have hll : zs'.length = zs.length := by omega
      refine ⟨fun m g s1 => ∃ (i : Nat) (pre : List Nat), g 2 = .pointer (some ⟨s.next, 0, none⟩) ∧ g 3 = .pointer (some ⟨s.next + 1, 0, none⟩) ∧ g 5 = D ∧ g 6 = .int .i64 0 ∧ g 7 = .int .i64 (pre.length : Int) ∧ g 8 = .int .i64 (i : Int) ∧ m = zs.length - i ∧ i ≤ zs.length ∧ pre.length ≤ i ∧
        difs zs zs' 0 = pre ++ difs (zs.drop i) (zs'.drop i) i ∧ s1 = s6,
        zs.length, ⟨0, [], by simp -implicitDefEqProofs only [su_at, Nat.reduceEqDiff, reduceIte], by simp -implicitDefEqProofs only [su_at, Nat.reduceEqDiff, reduceIte], by simp -implicitDefEqProofs only [su_at, Nat.reduceEqDiff, reduceIte], by simp -implicitDefEqProofs only [su_at, Nat.reduceEqDiff, reduceIte], by simp -implicitDefEqProofs only [su_at, Nat.reduceEqDiff, reduceIte]; rfl, by simp -implicitDefEqProofs only [su_at, Nat.reduceEqDiff, reduceIte]; rfl, rfl, by omega, by simp, rfl, rfl⟩, ?_⟩
      rintro m g s1 ⟨i, pre, g2, g3, g5, g6, g7, g8, rfl, hi, hpl, hd, rfl⟩
      unfold S5_L58
      simp -implicitDefEqProofs only [ofV_some, ofE_some, ofX_some, gdV_tt, gdV_tf, gdV_ft, gdV_ff, gdE_tt, gdE_tf, gdE_ft, gdE_ff, gdF_tt, gdF_tf, gdF_ft, gdF_ff, gdP_tt, gdP_tf, gdP_ft, gdP_ff, ifG_t, ifG_f, pickG_t, pickG_f, unG_not, binG_int, eqG_int, eqG_str, lenG_slice, extG_tuple, ldS_ptr, intG, cellAt_row, aggAt_row, jn, List.getElem?_cons_zero, List.getElem?_cons_succ, Nat.zero_add, Nat.reduceAdd, decide_true, decide_false, Bool.not_true, Bool.not_false, beq_self_eq_true, g2, g3, g5, g6, g7, g8, fa48_0, fa48_1, fa48_2, nb1, nb2, hz1.len]
      refine ifG_iff (fun ht => ?_) (fun ht => ?_)
      · have ht : i < zs.length := by simpa using ht
        have ht' : i < zs'.length := by omega
        obtain ⟨b, o, q1, q2⟩ := ints_at hz1 ht
        obtain ⟨b', o', q1', q2'⟩ := ints_at hz1' ht'
        have hw0 : W ≠ 0 := fun h => by subst h; simp at e1; omega
        have d1 : zs.drop i = zs[i] :: zs.drop (i + 1) := by simp
        have d2 : zs'.drop i = zs'[i] :: zs'.drop (i + 1) := by simp
        rw [d1, d2, difs] at hd
        refine ⟨std5.pick, ?_⟩
        simp -implicitDefEqProofs only [ofV_some, ofE_some, ofX_some, gdV_tt, gdV_tf, gdV_ft, gdV_ff, gdE_tt, gdE_tf, gdE_ft, gdE_ff, gdF_tt, gdF_tf, gdF_ft, gdF_ff, gdP_tt, gdP_tf, gdP_ft, gdP_ff, ifG_t, ifG_f, pickG_t, pickG_f, unG_not, binG_int, eqG_int, eqG_str, lenG_slice, extG_tuple, ldS_ptr, intG, cellAt_row, aggAt_row, jn, List.getElem?_cons_zero, List.getElem?_cons_succ, Nat.zero_add, Nat.reduceAdd, decide_true, decide_false, Bool.not_true, Bool.not_false, beq_self_eq_true, q1, q2, q1', q2', fa48_0, fa48_1, fa48_2, nb1, nb2]
        by_cases he : zs[i] = zs'[i]
        · rw [if_pos he] at hd
          simp -implicitDefEqProofs only [ofV_some, ofE_some, ofX_some, gdV_tt, gdV_tf, gdV_ft, gdV_ff, gdE_tt, gdE_tf, gdE_ft, gdE_ff, gdF_tt, gdF_tf, gdF_ft, gdF_ff, gdP_tt, gdP_tf, gdP_ft, gdP_ff, ifG_t, ifG_f, pickG_t, pickG_f, unG_not, binG_int, eqG_int, eqG_str, lenG_slice, extG_tuple, ldS_ptr, intG, cellAt_row, aggAt_row, jn, List.getElem?_cons_zero, List.getElem?_cons_succ, Nat.zero_add, Nat.reduceAdd, decide_true, decide_false, Bool.not_true, Bool.not_false, beq_self_eq_true, show (zs[i] == zs'[i]) = true by simpa using he]
          unfold S5_N65
          simp -implicitDefEqProofs only [ofV_some, ofE_some, ofX_some, gdV_tt, gdV_tf, gdV_ft, gdV_ff, gdE_tt, gdE_tf, gdE_ft, gdE_ff, gdF_tt, gdF_tf, gdF_ft, gdF_ff, gdP_tt, gdP_tf, gdP_ft, gdP_ff, ifG_t, ifG_f, pickG_t, pickG_f, unG_not, binG_int, eqG_int, eqG_str, lenG_slice, extG_tuple, ldS_ptr, intG, cellAt_row, aggAt_row, jn, List.getElem?_cons_zero, List.getElem?_cons_succ, Nat.zero_add, Nat.reduceAdd, decide_true, decide_false, Bool.not_true, Bool.not_false, beq_self_eq_true, su_at, Nat.reduceEqDiff, reduceIte, g8, wrap_up ht hl]
          refine ⟨zs.length - (i + 1), by omega, i + 1, pre, ?_, ?_, ?_, ?_, ?_, ?_, rfl, by omega, by omega, hd, rfl⟩ <;> simp -implicitDefEqProofs only [su_at, Nat.reduceEqDiff, reduceIte, g2, g3, g5, g6, g7]
        · rw [if_neg he] at hd
          rw [hd] at hp
          obtain ⟨b, o, r1, r2⟩ := hp.at
          simp -implicitDefEqProofs only [ofV_some, ofE_some, ofX_some, gdV_tt, gdV_tf, gdV_ft, gdV_ff, gdE_tt, gdE_tf, gdE_ft, gdE_ff, gdF_tt, gdF_tf, gdF_ft, gdF_ff, gdP_tt, gdP_tf, gdP_ft, gdP_ff, ifG_t, ifG_f, pickG_t, pickG_f, unG_not, binG_int, eqG_int, eqG_str, lenG_slice, extG_tuple, ldS_ptr, intG, cellAt_row, aggAt_row, jn, List.getElem?_cons_zero, List.getElem?_cons_succ, Nat.zero_add, Nat.reduceAdd, decide_true, decide_false, Bool.not_true, Bool.not_false, beq_self_eq_true, show (zs[i] == zs'[i]) = false by simpa using he]
          refine ⟨std5.pick, ?_⟩
          have hlt : pre.length < zs.length := by omega
          simp -implicitDefEqProofs only [ofV_some, ofE_some, ofX_some, gdV_tt, gdV_tf, gdV_ft, gdV_ff, gdE_tt, gdE_tf, gdE_ft, gdE_ff, gdF_tt, gdF_tf, gdF_ft, gdF_ff, gdP_tt, gdP_tf, gdP_ft, gdP_ff, ifG_t, ifG_f, pickG_t, pickG_f, unG_not, binG_int, eqG_int, eqG_str, lenG_slice, extG_tuple, ldS_ptr, intG, cellAt_row, aggAt_row, jn, List.getElem?_cons_zero, List.getElem?_cons_succ, Nat.zero_add, Nat.reduceAdd, decide_true, decide_false, Bool.not_true, Bool.not_false, beq_self_eq_true, hp.len, g5, g7, g8, show decide (((pre ++ i :: difs (zs.drop (i + 1)) (zs'.drop (i + 1)) (i + 1)).length : Int) ≤ (pre.length : Int)) = false by simp; omega, r1, la63, r2, fa48_0, nb1, if_neg hw0, bu63, eq63, Bool.and_self, wrap_up hlt hl]
          unfold S5_N65
          simp -implicitDefEqProofs only [ofV_some, ofE_some, ofX_some, gdV_tt, gdV_tf, gdV_ft, gdV_ff, gdE_tt, gdE_tf, gdE_ft, gdE_ff, gdF_tt, gdF_tf, gdF_ft, gdF_ff, gdP_tt, gdP_tf, gdP_ft, gdP_ff, ifG_t, ifG_f, pickG_t, pickG_f, unG_not, binG_int, eqG_int, eqG_str, lenG_slice, extG_tuple, ldS_ptr, intG, cellAt_row, aggAt_row, jn, List.getElem?_cons_zero, List.getElem?_cons_succ, Nat.zero_add, Nat.reduceAdd, decide_true, decide_false, Bool.not_true, Bool.not_false, beq_self_eq_true, su_at, Nat.reduceEqDiff, reduceIte, g8, wrap_up ht hl]
          refine ⟨zs.length - (i + 1), by omega, i + 1, pre ++ [i], ?_, ?_, ?_, ?_, ?_, ?_, rfl, by omega, by simp; omega, by rw [hd, List.append_assoc]; rfl, rfl⟩ <;> simp -implicitDefEqProofs only [su_at, Nat.reduceEqDiff, reduceIte, g2, g3, g5, g6, List.length_append, List.length_cons, List.length_nil]
      · have ht : ¬ i < zs.length := by simpa using ht
        rw [List.drop_eq_nil_of_le (by omega : zs.length ≤ i), show ∀ q j, difs [] q j = [] from fun q j => by unfold difs; rfl, List.append_nil] at hd
        rw [hd] at hp
        simp -implicitDefEqProofs only [ofV_some, ofE_some, ofX_some, gdV_tt, gdV_tf, gdV_ft, gdV_ff, gdE_tt, gdE_tf, gdE_ft, gdE_ff, gdF_tt, gdF_tf, gdF_ft, gdF_ff, gdP_tt, gdP_tf, gdP_ft, gdP_ff, ifG_t, ifG_f, pickG_t, pickG_f, unG_not, binG_int, eqG_int, eqG_str, lenG_slice, extG_tuple, ldS_ptr, intG, cellAt_row, aggAt_row, jn, List.getElem?_cons_zero, List.getElem?_cons_succ, Nat.zero_add, Nat.reduceAdd, decide_true, decide_false, Bool.not_true, Bool.not_false, beq_self_eq_true, hp.len, g5, g6, g7]
        exact hA.use closed_fun ⟨rfl, rfl, rfl⟩ rfl
    · simp -implicitDefEqProofs only [ofV_some, ofE_some, ofX_some, gdV_tt, gdV_tf, gdV_ft, gdV_ff, gdE_tt, gdE_tf, gdE_ft, gdE_ff, gdF_tt, gdF_tf, gdF_ft, gdF_ff, gdP_tt, gdP_tf, gdP_ft, gdP_ff, ifG_t, ifG_f, pickG_t, pickG_f, unG_not, binG_int, eqG_int, eqG_str, lenG_slice, extG_tuple, ldS_ptr, intG, cellAt_row, aggAt_row, jn, List.getElem?_cons_zero, List.getElem?_cons_succ, Nat.zero_add, Nat.reduceAdd, decide_true, decide_false, Bool.not_true, Bool.not_false, beq_self_eq_true, fa48_0, fa48_1, fa48_2, nb1, nb2, show (W == W') = true by simpa using hW, show (H == H') = false by simpa using hH]
      refine nolike (.inr hH) fun ⟨q1, q2⟩ => ?_
      subst q1 q2
      simp -implicitDefEqProofs only [ofV_some, ofE_some, ofX_some, gdV_tt, gdV_tf, gdV_ft, gdV_ff, gdE_tt, gdE_tf, gdE_ft, gdE_ff, gdF_tt, gdF_tf, gdF_ft, gdF_ff, gdP_tt, gdP_tf, gdP_ft, gdP_ff, ifG_t, ifG_f, pickG_t, pickG_f, unG_not, binG_int, eqG_int, eqG_str, lenG_slice, extG_tuple, ldS_ptr, intG, cellAt_row, aggAt_row, jn, List.getElem?_cons_zero, List.getElem?_cons_succ, Nat.zero_add, Nat.reduceAdd, decide_true, decide_false, Bool.not_true, Bool.not_false, beq_self_eq_true, Int.natCast_zero]
      exact hA.use closed_fun ⟨rfl, rfl, rfl⟩ rfl
  · simp -implicitDefEqProofs only [ofV_some, ofE_some, ofX_some, gdV_tt, gdV_tf, gdV_ft, gdV_ff, gdE_tt, gdE_tf, gdE_ft, gdE_ff, gdF_tt, gdF_tf, gdF_ft, gdF_ff, gdP_tt, gdP_tf, gdP_ft, gdP_ff, ifG_t, ifG_f, pickG_t, pickG_f, unG_not, binG_int, eqG_int, eqG_str, lenG_slice, extG_tuple, ldS_ptr, intG, cellAt_row, aggAt_row, jn, List.getElem?_cons_zero, List.getElem?_cons_succ, Nat.zero_add, Nat.reduceAdd, decide_true, decide_false, Bool.not_true, Bool.not_false, beq_self_eq_true, fa48_0, fa48_1, fa48_2, nb1, nb2, show (W == W') = false by simpa using hW]
    refine nolike (.inl hW) fun ⟨q1, q2⟩ => ?_
    subst q1 q2
    simp -implicitDefEqProofs only [ofV_some, ofE_some, ofX_some, gdV_tt, gdV_tf, gdV_ft, gdV_ff, gdE_tt, gdE_tf, gdE_ft, gdE_ff, gdF_tt, gdF_tf, gdF_ft, gdF_ff, gdP_tt, gdP_tf, gdP_ft, gdP_ff, ifG_t, ifG_f, pickG_t, pickG_f, unG_not, binG_int, eqG_int, eqG_str, lenG_slice, extG_tuple, ldS_ptr, intG, cellAt_row, aggAt_row, jn, List.getElem?_cons_zero, List.getElem?_cons_succ, Nat.zero_add, Nat.reduceAdd, decide_true, decide_false, Bool.not_true, Bool.not_false, beq_self_eq_true, Int.natCast_zero]
    exact hA.use closed_fun ⟨rfl, rfl, rfl⟩ rfl
end Go.AE.D
