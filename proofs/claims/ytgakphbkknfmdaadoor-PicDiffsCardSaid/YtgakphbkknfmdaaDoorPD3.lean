import Derived.Test.YtgakphbkknfmdaaDoorPD2
set_option linter.all false
set_option linter.unusedSimpArgs false
set_option linter.unusedVariables false
namespace Go.AE.D
open Go Go.Proofs Go.AE
theorem ud59 : E.und 59 = some (.slice 63) := by kernel_rfl
theorem sz63 : E.size 63 = some 2 := by kernel_rfl
theorem by63 : E.bytes 63 = some 16 := by kernel_rfl
theorem ze63 : E.zero 63 = some (.agg ⟨[.int .i64 0, .int .i64 0]⟩) := by kernel_rfl
theorem bu63 (x y : Int) : abuild E 63 [(0, .int .i64 x), (1, .int .i64 y)] = some (.agg ⟨[.int .i64 x, .int .i64 y]⟩) := by kernel_rfl
theorem bs59 (s : AS) (hp : s.pick = none) (x y : Int) : abuildSlice E s 59 1 [(0, .agg ⟨[.int .i64 x, .int .i64 y]⟩)] = some (.slice (some ⟨s.next, 0, none⟩) 1 2, s.new (.row true 63 [.int .i64 x, .int .i64 y] 0 0)) := by
  have hid : s.id = s.next := by unfold AS.id; rw [hp]
  have z : (vcells (Value.agg ⟨[.int .i64 0, .int .i64 0]⟩)).length = 2 := rfl
  unfold abuildSlice
  simp only [ud59, sz63, ze63, Option.bind_eq_bind, Option.bind_some, z]
  rw [if_neg (by simp), hid]
  rfl
/-- The places at which two rows differ. -/
def difs : List Int → List Int → Nat → List Nat
  | x :: l, y :: m, i => if x = y then difs l m (i + 1) else i :: difs l m (i + 1)
  | _, _, _ => []
def ptCells (W : Int) : List Nat → List Value
  | [] => []
  | i :: l => .int .i64 ((i : Int).tmod W) :: .int .i64 (IntKind.i64.wrap ((i : Int).tdiv W)) :: ptCells W l
theorem ptCells_app (W : Int) (a b : List Nat) : ptCells W (a ++ b) = ptCells W a ++ ptCells W b := by
  induction a with
  | nil => rfl
  | cons x a ih => simp [ptCells, ih]
theorem ptCells_len (W : Int) (a : List Nat) : (ptCells W a).length = a.length * 2 := by
  induction a with
  | nil => rfl
  | cons x a ih => simp [ptCells, ih]; omega
theorem ptCells_flat (W : Int) (a : List Nat) : flatV.flatL (ptCells W a) = true := by
  induction a with
  | nil => rfl
  | cons x a ih => simp [ptCells, flatV.flatL, flatV, ih]
/-- What Diff comes back with. -/
def diffR (W H : Int) (zs : List Int) (W' H' : Int) (zs' : List Int) (s : AS) : Value × AS :=
  if (rightB W H zs && rightB W' H' zs') = false then (.tuple ⟨[.slice none 0 0, .int .i64 6]⟩, s)
  else if W ≠ W' ∨ H ≠ H' then (.tuple ⟨[.slice none 0 0, .int .i64 2]⟩, s)
  else if difs zs zs' 0 = [] then (.tuple ⟨[.slice none 0 0, .int .i64 0]⟩, s)
  else (.tuple ⟨[.slice (some ⟨s.next, 0, none⟩) (difs zs zs' 0).length 0, .int .i64 0]⟩, s.new (.row true 63 (ptCells W (difs zs zs' 0)) 0 0))
def ZD : List Value → AS → Value → AS → Prop := fun args s v s' => ∃ (W H : Int) (L : Value) (zs : List Int) (W' H' : Int) (L' : Value) (zs' : List Int), args = [img W H L, img W' H' L'] ∧ IntsAt s L zs ∧ IntsAt s L' zs' ∧ zs.length < 9223372036854775808 ∧ zs'.length < 9223372036854775808 ∧ (v, s') = diffR W H zs W' H' zs' s ∧ Std s
theorem ZD_fun {args s v s' w t} (h : ZD args s v s') (h' : ZD args s w t) : w = v ∧ t = s' := by
  obtain ⟨W, H, L, zs, W', H', L', zs', rfl, hz, hz', _, _, e, _⟩ := h
  obtain ⟨_, _, _, ys, _, _, _, ys', q, hy, hy', _, _, e', _⟩ := h'
  cases q
  cases hz.det hy
  cases hz'.det hy'
  rw [← e] at e'
  cases e'
  exact ⟨rfl, rfl⟩
theorem difs_len : ∀ (l m : List Int) (i : Nat), (difs l m i).length ≤ l.length
  | [], _, _ => by simp [difs]
  | x :: l, [], _ => by simp [difs]
  | x :: l, y :: m, i => by
    have := difs_len l m (i + 1)
    unfold difs
    split <;> simp <;> omega

theorem b27 {C : Calls} (hM : Meets C 24 ZR) {args : List Value} {s : AS} {v : Value} {s' : AS} (h : ZD args s v s') : WpF E C 27 args (fun v1 s1 => Tells P (okOf E) E.glob s v1 s1 v s') s := by
  obtain ⟨W, H, L, zs, W', H', L', zs', rfl, hz, hz', hl, hl', hv, hs⟩ := h
  refine w27 ?_
  unfold S27
  have hs1 := hs.new (o := .row true 48 [.int .i64 W, .int .i64 H, L] 0 0) trivial
  have n1 : (s.new (.row true 48 [.int .i64 W, .int .i64 H, L] 0 0)).flat.next = s.next + 1 := next_newF hs.pick _
  rw [newRow_of sz48 hs.pick]
  simp -implicitDefEqProofs only [ofE_some, vcells]
  rw [newRow_of sz48 hs1.pick]
  have hz1 := (hz.new hs (.row true 48 [.int .i64 W, .int .i64 H, L] 0 0)).new hs1 (.row true 48 [.int .i64 W', .int .i64 H', L'] 0 0)
  have hz1' := (hz'.new hs (.row true 48 [.int .i64 W, .int .i64 H, L] 0 0)).new hs1 (.row true 48 [.int .i64 W', .int .i64 H', L'] 0 0)
  have hs2 := hs1.new (o := .row true 48 [.int .i64 W', .int .i64 H', L'] 0 0) trivial
  have nx : ((s.new (.row true 48 [.int .i64 W, .int .i64 H, L] 0 0)).flat.new (.row true 48 [.int .i64 W', .int .i64 H', L'] 0 0)).flat.next = s.next + 2 := by rw [next_newF hs1.pick, n1]
  have nb1 : ((s.new (.row true 48 [.int .i64 W, .int .i64 H, L] 0 0)).flat.new (.row true 48 [.int .i64 W', .int .i64 H', L'] 0 0)).flat.get s.next = some (.row true 48 [.int .i64 W, .int .i64 H, L] 0 0) := by
    rw [hs1.old _ (by omega), get_newF hs.pick, if_pos rfl]
  have nb2 : ((s.new (.row true 48 [.int .i64 W, .int .i64 H, L] 0 0)).flat.new (.row true 48 [.int .i64 W', .int .i64 H', L'] 0 0)).flat.get (s.next + 1) = some (.row true 48 [.int .i64 W', .int .i64 H', L'] 0 0) := by
    rw [get_newF hs1.pick, n1, if_pos rfl]
  have old : ∀ k, k < s.next → ((s.new (.row true 48 [.int .i64 W, .int .i64 H, L] 0 0)).flat.new (.row true 48 [.int .i64 W', .int .i64 H', L'] 0 0)).flat.get k = s.get k := fun k hk => by
    rw [hs1.old _ (by omega), hs.old _ hk]
  rw [n1]
  simp -implicitDefEqProofs only [ofE_some, vcells]
  generalize ((s.new (.row true 48 [.int .i64 W, .int .i64 H, L] 0 0)).flat.new (.row true 48 [.int .i64 W', .int .i64 H', L'] 0 0)).flat = s2 at *
  have c3 : cut [Value.int .i64 W, .int .i64 H, L] 0 3 = some [Value.int .i64 W, .int .i64 H, L] := rfl
  have c3' : cut [Value.int .i64 W', .int .i64 H', L'] 0 3 = some [Value.int .i64 W', .int .i64 H', L'] := rfl
  simp -implicitDefEqProofs only [ofV_some, ofE_some, ofX_some, gdV_tt, gdV_tf, gdV_ft, gdV_ff, gdE_tt, gdE_tf, gdE_ft, gdE_ff, gdF_tt, gdF_tf, gdF_ft, gdF_ff, gdP_tt, gdP_tf, gdP_ft, gdP_ff, ifG_t, ifG_f, pickG_t, pickG_f, unG_not, binG_int, eqG_int, eqG_str, lenG_slice, extG_tuple, ldS_ptr, intG, cellAt_row, aggAt_row, jn, List.getElem?_cons_zero, List.getElem?_cons_succ, Nat.zero_add, Nat.reduceAdd, decide_true, decide_false, Bool.not_true, Bool.not_false, beq_self_eq_true, la48, nb1, nb2, c3, c3']
  refine hM.use ZR_fun ⟨W, H, L, zs, rfl, hz1, hl, rfl, rfl, hs2⟩ ?_
  rw [hs2.flat]
  have stop : ∀ x : Value, flatV x = true → (v, s') = (x, s) → Tells P (okOf E) E.glob s x s2 v s' := fun x hx q => by
    cases q
    exact tells_same hs.calm hs.pick old hx
  simp -implicitDefEqProofs only [ofV_some, ofE_some, ofX_some, gdV_tt, gdV_tf, gdV_ft, gdV_ff, gdE_tt, gdE_tf, gdE_ft, gdE_ff, gdF_tt, gdF_tf, gdF_ft, gdF_ff, gdP_tt, gdP_tf, gdP_ft, gdP_ff, ifG_t, ifG_f, pickG_t, pickG_f, unG_not, binG_int, eqG_int, eqG_str, lenG_slice, extG_tuple, ldS_ptr, intG, cellAt_row, aggAt_row, jn, List.getElem?_cons_zero, List.getElem?_cons_succ, Nat.zero_add, Nat.reduceAdd, decide_true, decide_false, Bool.not_true, Bool.not_false, beq_self_eq_true, la48, nb1, nb2, c3, c3']
  cases hr1 : rightB W H zs with
  | false =>
    simp -implicitDefEqProofs only [ofV_some, ofE_some, ofX_some, gdV_tt, gdV_tf, gdV_ft, gdV_ff, gdE_tt, gdE_tf, gdE_ft, gdE_ff, gdF_tt, gdF_tf, gdF_ft, gdF_ff, gdP_tt, gdP_tf, gdP_ft, gdP_ff, ifG_t, ifG_f, pickG_t, pickG_f, unG_not, binG_int, eqG_int, eqG_str, lenG_slice, extG_tuple, ldS_ptr, intG, cellAt_row, aggAt_row, jn, List.getElem?_cons_zero, List.getElem?_cons_succ, Nat.zero_add, Nat.reduceAdd, decide_true, decide_false, Bool.not_true, Bool.not_false, beq_self_eq_true]
    exact stop _ rfl (by rw [hv]; simp [diffR, hr1])
  | true =>
  simp -implicitDefEqProofs only [ofV_some, ofE_some, ofX_some, gdV_tt, gdV_tf, gdV_ft, gdV_ff, gdE_tt, gdE_tf, gdE_ft, gdE_ff, gdF_tt, gdF_tf, gdF_ft, gdF_ff, gdP_tt, gdP_tf, gdP_ft, gdP_ff, ifG_t, ifG_f, pickG_t, pickG_f, unG_not, binG_int, eqG_int, eqG_str, lenG_slice, extG_tuple, ldS_ptr, intG, cellAt_row, aggAt_row, jn, List.getElem?_cons_zero, List.getElem?_cons_succ, Nat.zero_add, Nat.reduceAdd, decide_true, decide_false, Bool.not_true, Bool.not_false, beq_self_eq_true, la48, nb1, nb2, c3, c3']
  refine hM.use ZR_fun ⟨W', H', L', zs', rfl, hz1', hl', rfl, rfl, hs2⟩ ?_
  rw [hs2.flat]
  cases hr2 : rightB W' H' zs' with
  | false =>
    simp -implicitDefEqProofs only [ofV_some, ofE_some, ofX_some, gdV_tt, gdV_tf, gdV_ft, gdV_ff, gdE_tt, gdE_tf, gdE_ft, gdE_ff, gdF_tt, gdF_tf, gdF_ft, gdF_ff, gdP_tt, gdP_tf, gdP_ft, gdP_ff, ifG_t, ifG_f, pickG_t, pickG_f, unG_not, binG_int, eqG_int, eqG_str, lenG_slice, extG_tuple, ldS_ptr, intG, cellAt_row, aggAt_row, jn, List.getElem?_cons_zero, List.getElem?_cons_succ, Nat.zero_add, Nat.reduceAdd, decide_true, decide_false, Bool.not_true, Bool.not_false, beq_self_eq_true]
    exact stop _ rfl (by rw [hv]; simp [diffR, hr1, hr2])
  | true =>
  simp -implicitDefEqProofs only [ofV_some, ofE_some, ofX_some, gdV_tt, gdV_tf, gdV_ft, gdV_ff, gdE_tt, gdE_tf, gdE_ft, gdE_ff, gdF_tt, gdF_tf, gdF_ft, gdF_ff, gdP_tt, gdP_tf, gdP_ft, gdP_ff, ifG_t, ifG_f, pickG_t, pickG_f, unG_not, binG_int, eqG_int, eqG_str, lenG_slice, extG_tuple, ldS_ptr, intG, cellAt_row, aggAt_row, jn, List.getElem?_cons_zero, List.getElem?_cons_succ, Nat.zero_add, Nat.reduceAdd, decide_true, decide_false, Bool.not_true, Bool.not_false, beq_self_eq_true, fa48_0, fa48_1, fa48_2, nb1, nb2]
  by_cases hW : W = W'
  · by_cases hH : H = H'
    · subst hW
      subst hH
      simp -implicitDefEqProofs only [ofV_some, ofE_some, ofX_some, gdV_tt, gdV_tf, gdV_ft, gdV_ff, gdE_tt, gdE_tf, gdE_ft, gdE_ff, gdF_tt, gdF_tf, gdF_ft, gdF_ff, gdP_tt, gdP_tf, gdP_ft, gdP_ff, ifG_t, ifG_f, pickG_t, pickG_f, unG_not, binG_int, eqG_int, eqG_str, lenG_slice, extG_tuple, ldS_ptr, intG, cellAt_row, aggAt_row, jn, List.getElem?_cons_zero, List.getElem?_cons_succ, Nat.zero_add, Nat.reduceAdd, decide_true, decide_false, Bool.not_true, Bool.not_false, beq_self_eq_true, fa48_0, fa48_1, fa48_2, nb1, nb2, hz1.len]
      have en : ∀ {xs : List Int}, rightB W H xs = true → (xs.length : Int) = W * H ∧ 0 ≤ W ∧ W ≤ 256 ∧ 0 ≤ H ∧ H ≤ 256 := fun h => by
        simp [rightB] at h
        omega
      obtain ⟨e1, w0, w1, h0, h1⟩ := en hr1
      have e2 := (en hr2).1
      have hlen : zs.length ≤ 65536 := by
        have q1 : W * H ≤ 256 * 256 := Int.mul_le_mul (by omega) (by omega) (by omega) (by omega)
        omega
      have hroom : room = 17592186044416 := rfl
      have hll : zs'.length = zs.length := by omega
      refine ⟨fun m g s1 => ∃ (i : Nat) (ps : List Nat), g 2 = .pointer (some ⟨s.next, 0, none⟩) ∧ g 3 = .pointer (some ⟨s.next + 1, 0, none⟩) ∧ g 32 = L ∧ g 33 = .int .i64 (zs.length : Int) ∧ g 34 = .int .i64 (i : Int) ∧ m = zs.length - i ∧ i ≤ zs.length ∧ ps.length ≤ i ∧
        difs zs zs' 0 = ps ++ difs (zs.drop i) (zs'.drop i) i ∧ Std s1 ∧ s.next + 2 ≤ s1.next ∧ (∀ k, k < s.next + 2 → s1.get k = s2.get k) ∧
        ((g 6 = .slice none 0 0 ∧ ps = []) ∨ ∃ k, s.next + 2 ≤ k ∧ g 6 = .slice (some ⟨k, 0, none⟩) ps.length 0 ∧ s1.get k = some (.row true 63 (ptCells W ps) 0 0) ∧ ps ≠ []),
        zs.length, ⟨0, [], by simp -implicitDefEqProofs only [su_at, Nat.reduceEqDiff, reduceIte], by simp -implicitDefEqProofs only [su_at, Nat.reduceEqDiff, reduceIte], by simp -implicitDefEqProofs only [su_at, Nat.reduceEqDiff, reduceIte], by simp -implicitDefEqProofs only [su_at, Nat.reduceEqDiff, reduceIte], by simp -implicitDefEqProofs only [su_at, Nat.reduceEqDiff, reduceIte]; rfl, rfl, by omega, by simp, rfl, hs2, by omega, fun _ _ => rfl, .inl ⟨by simp -implicitDefEqProofs only [su_at, Nat.reduceEqDiff, reduceIte], rfl⟩⟩, ?_⟩
      rintro m g s1 ⟨i, ps, g2, g3, g32, g33, g34, rfl, hi, hpl, hd, std, hnx, hkeep, hps⟩
      unfold S27_L28
      have m1 : s1.get s.next = some (.row true 48 [.int .i64 W, .int .i64 H, L] 0 0) := (hkeep _ (by omega)).trans nb1
      have m2 : s1.get (s.next + 1) = some (.row true 48 [.int .i64 W, .int .i64 H, L'] 0 0) := (hkeep _ (by omega)).trans nb2
      simp -implicitDefEqProofs only [ofV_some, ofE_some, ofX_some, gdV_tt, gdV_tf, gdV_ft, gdV_ff, gdE_tt, gdE_tf, gdE_ft, gdE_ff, gdF_tt, gdF_tf, gdF_ft, gdF_ff, gdP_tt, gdP_tf, gdP_ft, gdP_ff, ifG_t, ifG_f, pickG_t, pickG_f, unG_not, binG_int, eqG_int, eqG_str, lenG_slice, extG_tuple, ldS_ptr, intG, cellAt_row, aggAt_row, jn, List.getElem?_cons_zero, List.getElem?_cons_succ, Nat.zero_add, Nat.reduceAdd, decide_true, decide_false, Bool.not_true, Bool.not_false, beq_self_eq_true, g2, g3, g32, g33, g34]
      refine ifG_iff (fun ht => ?_) (fun ht => ?_)
      · have ht : i < zs.length := by simpa using ht
        have ht' : i < zs'.length := by omega
        have iz : IntsAt s1 L zs := hz.mono fun k o hk => by
          rw [hkeep k (by have := hs.lt hk; omega), old k (hs.lt hk)]
          exact hk
        have iz' : IntsAt s1 L' zs' := hz'.mono fun k o hk => by
          rw [hkeep k (by have := hs.lt hk; omega), old k (hs.lt hk)]
          exact hk
        obtain ⟨b, o, q1, q2⟩ := ints_at iz ht
        obtain ⟨b', o', q1', q2'⟩ := ints_at iz' ht'
        have hw0 : W ≠ 0 := fun h => by subst h; simp at e1; omega
        have d1 : zs.drop i = zs[i] :: zs.drop (i + 1) := by simp
        have d2 : zs'.drop i = zs'[i] :: zs'.drop (i + 1) := by simp
        rw [d1, d2, difs] at hd
        simp -implicitDefEqProofs only [ofV_some, ofE_some, ofX_some, gdV_tt, gdV_tf, gdV_ft, gdV_ff, gdE_tt, gdE_tf, gdE_ft, gdE_ff, gdF_tt, gdF_tf, gdF_ft, gdF_ff, gdP_tt, gdP_tf, gdP_ft, gdP_ff, ifG_t, ifG_f, pickG_t, pickG_f, unG_not, binG_int, eqG_int, eqG_str, lenG_slice, extG_tuple, ldS_ptr, intG, cellAt_row, aggAt_row, jn, List.getElem?_cons_zero, List.getElem?_cons_succ, Nat.zero_add, Nat.reduceAdd, decide_true, decide_false, Bool.not_true, Bool.not_false, beq_self_eq_true, q1, q2, q1', q2', fa48_0, fa48_1, fa48_2, m1, m2]
        by_cases he : zs[i] = zs'[i]
        · rw [if_pos he] at hd
          simp -implicitDefEqProofs only [ofV_some, ofE_some, ofX_some, gdV_tt, gdV_tf, gdV_ft, gdV_ff, gdE_tt, gdE_tf, gdE_ft, gdE_ff, gdF_tt, gdF_tf, gdF_ft, gdF_ff, gdP_tt, gdP_tf, gdP_ft, gdP_ff, ifG_t, ifG_f, pickG_t, pickG_f, unG_not, binG_int, eqG_int, eqG_str, lenG_slice, extG_tuple, ldS_ptr, intG, cellAt_row, aggAt_row, jn, List.getElem?_cons_zero, List.getElem?_cons_succ, Nat.zero_add, Nat.reduceAdd, decide_true, decide_false, Bool.not_true, Bool.not_false, beq_self_eq_true, show (zs[i] == zs'[i]) = true by simpa using he]
          unfold S27_N32
          simp -implicitDefEqProofs only [ofV_some, ofE_some, ofX_some, gdV_tt, gdV_tf, gdV_ft, gdV_ff, gdE_tt, gdE_tf, gdE_ft, gdE_ff, gdF_tt, gdF_tf, gdF_ft, gdF_ff, gdP_tt, gdP_tf, gdP_ft, gdP_ff, ifG_t, ifG_f, pickG_t, pickG_f, unG_not, binG_int, eqG_int, eqG_str, lenG_slice, extG_tuple, ldS_ptr, intG, cellAt_row, aggAt_row, jn, List.getElem?_cons_zero, List.getElem?_cons_succ, Nat.zero_add, Nat.reduceAdd, decide_true, decide_false, Bool.not_true, Bool.not_false, beq_self_eq_true, su_at, Nat.reduceEqDiff, reduceIte, g34, wrap_up ht hl]
          refine ⟨zs.length - (i + 1), by omega, i + 1, ps, ?_, ?_, ?_, ?_, ?_, rfl, by omega, by omega, hd, std, hnx, hkeep, ?_⟩ <;> simp -implicitDefEqProofs only [su_at, Nat.reduceEqDiff, reduceIte, g2, g3, g32, g33]
          exact hps
        · rw [if_neg he] at hd
          simp -implicitDefEqProofs only [ofV_some, ofE_some, ofX_some, gdV_tt, gdV_tf, gdV_ft, gdV_ff, gdE_tt, gdE_tf, gdE_ft, gdE_ff, gdF_tt, gdF_tf, gdF_ft, gdF_ff, gdP_tt, gdP_tf, gdP_ft, gdP_ff, ifG_t, ifG_f, pickG_t, pickG_f, unG_not, binG_int, eqG_int, eqG_str, lenG_slice, extG_tuple, ldS_ptr, intG, cellAt_row, aggAt_row, jn, List.getElem?_cons_zero, List.getElem?_cons_succ, Nat.zero_add, Nat.reduceAdd, decide_true, decide_false, Bool.not_true, Bool.not_false, beq_self_eq_true, show (zs[i] == zs'[i]) = false by simpa using he, if_neg hw0, bu63, bs59 s1 std.pick, fa48_0, m1, std.pick, true_and]
          have std5 := std.new (o := .row true 63 [Value.int .i64 ((i : Int).tmod W), Value.int .i64 (IntKind.i64.wrap ((i : Int).tdiv W))] 0 0) trivial
          have g5 := std.old (.row true 63 [Value.int .i64 ((i : Int).tmod W), Value.int .i64 (IntKind.i64.wrap ((i : Int).tdiv W))] 0 0) (k := s.next) (by omega)
          have o5 := fun k (hk : k < s1.next) => std.old (.row true 63 [Value.int .i64 ((i : Int).tmod W), Value.int .i64 (IntKind.i64.wrap ((i : Int).tdiv W))] 0 0) hk
          have r5 : (s1.new (.row true 63 [Value.int .i64 ((i : Int).tmod W), Value.int .i64 (IntKind.i64.wrap ((i : Int).tdiv W))] 0 0)).flat.get s1.next = some (.row true 63 [Value.int .i64 ((i : Int).tmod W), Value.int .i64 (IntKind.i64.wrap ((i : Int).tdiv W))] 0 0) := by
            rw [get_newF std.pick, if_pos rfl]
          have x5 : (s1.new (.row true 63 [Value.int .i64 ((i : Int).tmod W), Value.int .i64 (IntKind.i64.wrap ((i : Int).tdiv W))] 0 0)).flat.next = s1.next + 1 := next_newF std.pick _
          generalize (s1.new (.row true 63 [Value.int .i64 ((i : Int).tmod W), Value.int .i64 (IntKind.i64.wrap ((i : Int).tdiv W))] 0 0)).flat = s5 at *
          refine ⟨std5.pick, ?_⟩
          have hcell : ptCells W (ps ++ [i]) = ptCells W ps ++ [Value.int .i64 ((i : Int).tmod W), Value.int .i64 (IntKind.i64.wrap ((i : Int).tdiv W))] := ptCells_app W ps [i]
          have hgo : ∀ (g' : Sl) (s3 : AS), Std s3 → s1.next ≤ s3.next → (∀ k, k < s.next + 2 → s3.get k = s1.get k) → g' 2 = g 2 → g' 3 = g 3 → g' 32 = g 32 → g' 33 = g 33 → g' 34 = g 34 →
              (∃ k, s.next + 2 ≤ k ∧ g' 6 = .slice (some ⟨k, 0, none⟩) (ps ++ [i]).length 0 ∧ s3.get k = some (.row true 63 (ptCells W (ps ++ [i])) 0 0)) → S27_N32 C (fun v1 s1 => Tells P (okOf E) E.glob s v1 s1 v s') (loopN (fun m g s1 => ∃ (i : Nat) (ps : List Nat), g 2 = .pointer (some ⟨s.next, 0, none⟩) ∧ g 3 = .pointer (some ⟨s.next + 1, 0, none⟩) ∧ g 32 = L ∧ g 33 = .int .i64 (zs.length : Int) ∧ g 34 = .int .i64 (i : Int) ∧ m = zs.length - i ∧ i ≤ zs.length ∧ ps.length ≤ i ∧
        difs zs zs' 0 = ps ++ difs (zs.drop i) (zs'.drop i) i ∧ Std s1 ∧ s.next + 2 ≤ s1.next ∧ (∀ k, k < s.next + 2 → s1.get k = s2.get k) ∧
        ((g 6 = .slice none 0 0 ∧ ps = []) ∨ ∃ k, s.next + 2 ≤ k ∧ g 6 = .slice (some ⟨k, 0, none⟩) ps.length 0 ∧ s1.get k = some (.row true 63 (ptCells W ps) 0 0) ∧ ps ≠ [])) (zs.length - i)) g' s3 := by
            rintro g' s3 std3 hx3 hk3 e2 e3 e32 e33 e34 ⟨k, k1, k2, k3⟩
            unfold S27_N32
            simp -implicitDefEqProofs only [ofV_some, ofE_some, ofX_some, gdV_tt, gdV_tf, gdV_ft, gdV_ff, gdE_tt, gdE_tf, gdE_ft, gdE_ff, gdF_tt, gdF_tf, gdF_ft, gdF_ff, gdP_tt, gdP_tf, gdP_ft, gdP_ff, ifG_t, ifG_f, pickG_t, pickG_f, unG_not, binG_int, eqG_int, eqG_str, lenG_slice, extG_tuple, ldS_ptr, intG, cellAt_row, aggAt_row, jn, List.getElem?_cons_zero, List.getElem?_cons_succ, Nat.zero_add, Nat.reduceAdd, decide_true, decide_false, Bool.not_true, Bool.not_false, beq_self_eq_true, e34, g34, wrap_up ht hl]
            refine ⟨zs.length - (i + 1), by omega, i + 1, ps ++ [i], ?_, ?_, ?_, ?_, ?_, rfl, by omega, by simp; omega, ?_, std3, by omega, fun k hk => (hk3 k hk).trans (hkeep k hk), .inr ⟨k, k1, ?_, k3, by simp⟩⟩
            · simp -implicitDefEqProofs only [su_at, Nat.reduceEqDiff, reduceIte, e2, g2]
            · simp -implicitDefEqProofs only [su_at, Nat.reduceEqDiff, reduceIte, e3, g3]
            · simp -implicitDefEqProofs only [su_at, Nat.reduceEqDiff, reduceIte, e32, g32]
            · simp -implicitDefEqProofs only [su_at, Nat.reduceEqDiff, reduceIte, e33, g33]
            · simp -implicitDefEqProofs only [su_at, Nat.reduceEqDiff, reduceIte]
            · rw [hd, List.append_assoc]; rfl
            · simp -implicitDefEqProofs only [su_at, Nat.reduceEqDiff, reduceIte, k2]
          have c0 : cellAt (s5.get s.next) 0 = some (.int .i64 W) := by rw [g5, m1]; rfl
          rcases hps with ⟨p1, rfl⟩ | ⟨k, p1, p2, p3, p4⟩
          · rw [p1, app_nil ud59 sz63 by63 ze63 rfl std5.pick r5 rfl rfl (by omega)]
            have std6 := std5.new (o := .row true 63 [Value.int .i64 ((i : Int).tmod W), Value.int .i64 (IntKind.i64.wrap ((i : Int).tdiv W))] 0 0) trivial
            simp -implicitDefEqProofs only [ofE_some]
            refine ⟨std6.pick, ⟨c0, c0⟩, hgo _ _ std6 ?_ ?_ ?_ ?_ ?_ ?_ ?_ ⟨s5.next, by omega, ?_, ?_⟩⟩
            · rw [next_newF std5.pick]; omega
            · intro k hk; rw [std5.old _ (by omega), o5 k (by omega)]
            · simp -implicitDefEqProofs only [su_at, Nat.reduceEqDiff, reduceIte]
            · simp -implicitDefEqProofs only [su_at, Nat.reduceEqDiff, reduceIte]
            · simp -implicitDefEqProofs only [su_at, Nat.reduceEqDiff, reduceIte]
            · simp -implicitDefEqProofs only [su_at, Nat.reduceEqDiff, reduceIte]
            · simp -implicitDefEqProofs only [su_at, Nat.reduceEqDiff, reduceIte]
            · simp -implicitDefEqProofs only [su_at, Nat.reduceEqDiff, reduceIte]; rfl
            · rw [get_newF std5.pick, if_pos rfl, hcell]; rfl
          · have hk5 : s5.get k = some (.row true 63 (ptCells W ps) 0 0) := (o5 k (std.lt p3)).trans p3
            rw [p2, app_own ud59 sz63 by63 ze63 rfl std5.pick r5 rfl rfl hk5 (ptCells_len W ps) (by omega)]
            have std6 := std5.swap k (o := .row true 63 (ptCells W ps ++ [Value.int .i64 ((i : Int).tmod W), Value.int .i64 (IntKind.i64.wrap ((i : Int).tdiv W))]) 0 0) trivial
            simp -implicitDefEqProofs only [ofE_some]
            refine ⟨std6.pick, ⟨c0, c0⟩, hgo _ _ std6 ?_ ?_ ?_ ?_ ?_ ?_ ?_ ⟨s5.next, by omega, ?_, ?_⟩⟩
            · rw [next_swap std5.pick]; omega
            · intro j hj; rw [get_swap std5.pick, if_neg (by omega), if_neg (by omega), o5 j (by omega)]
            · simp -implicitDefEqProofs only [su_at, Nat.reduceEqDiff, reduceIte]
            · simp -implicitDefEqProofs only [su_at, Nat.reduceEqDiff, reduceIte]
            · simp -implicitDefEqProofs only [su_at, Nat.reduceEqDiff, reduceIte]
            · simp -implicitDefEqProofs only [su_at, Nat.reduceEqDiff, reduceIte]
            · simp -implicitDefEqProofs only [su_at, Nat.reduceEqDiff, reduceIte]
            · simp -implicitDefEqProofs only [su_at, Nat.reduceEqDiff, reduceIte, List.length_append, List.length_cons, List.length_nil]
            · rw [get_swap std5.pick, if_pos rfl, hcell]
      · have ht : ¬ i < zs.length := by simpa using ht
        rw [List.drop_eq_nil_of_le (by omega : zs.length ≤ i), show ∀ q j, difs [] q j = [] from fun q j => by unfold difs; rfl, List.append_nil] at hd
        rcases hps with ⟨p1, rfl⟩ | ⟨k, p1, p2, p3, p4⟩
        · rw [p1]
          have : (v, s') = (.tuple ⟨[.slice none 0 0, .int .i64 0]⟩, s) := by rw [hv]; simp [diffR, hr1, hr2, hd]
          cases this
          exact tells_same hs.calm hs.pick (fun k hk => (hkeep k (by omega)).trans (old k hk)) rfl
        · have : (v, s') = (.tuple ⟨[.slice (some ⟨s.next, 0, none⟩) ps.length 0, .int .i64 0]⟩, s.new (.row true 63 (ptCells W ps) 0 0)) := by rw [hv]; simp [diffR, hr1, hr2, hd, p4]
          cases this
          rw [p2]
          exact Tells.pair (tells_row hs.calm hs.pick (fun k hk => (hkeep k (by omega)).trans (old k hk)) (by omega) p3 (ptCells_flat W ps)) rfl
    · simp -implicitDefEqProofs only [ofV_some, ofE_some, ofX_some, gdV_tt, gdV_tf, gdV_ft, gdV_ff, gdE_tt, gdE_tf, gdE_ft, gdE_ff, gdF_tt, gdF_tf, gdF_ft, gdF_ff, gdP_tt, gdP_tf, gdP_ft, gdP_ff, ifG_t, ifG_f, pickG_t, pickG_f, unG_not, binG_int, eqG_int, eqG_str, lenG_slice, extG_tuple, ldS_ptr, intG, cellAt_row, aggAt_row, jn, List.getElem?_cons_zero, List.getElem?_cons_succ, Nat.zero_add, Nat.reduceAdd, decide_true, decide_false, Bool.not_true, Bool.not_false, beq_self_eq_true, fa48_0, fa48_1, fa48_2, nb1, nb2, show (W == W') = true by simpa using hW, show (H == H') = false by simpa using hH]
      exact stop _ rfl (by rw [hv]; simp [diffR, hr1, hr2, hH])
  · simp -implicitDefEqProofs only [ofV_some, ofE_some, ofX_some, gdV_tt, gdV_tf, gdV_ft, gdV_ff, gdE_tt, gdE_tf, gdE_ft, gdE_ff, gdF_tt, gdF_tf, gdF_ft, gdF_ff, gdP_tt, gdP_tf, gdP_ft, gdP_ff, ifG_t, ifG_f, pickG_t, pickG_f, unG_not, binG_int, eqG_int, eqG_str, lenG_slice, extG_tuple, ldS_ptr, intG, cellAt_row, aggAt_row, jn, List.getElem?_cons_zero, List.getElem?_cons_succ, Nat.zero_add, Nat.reduceAdd, decide_true, decide_false, Bool.not_true, Bool.not_false, beq_self_eq_true, fa48_0, fa48_1, fa48_2, nb1, nb2, show (W == W') = false by simpa using hW]
    exact stop _ rfl (by rw [hv]; simp [diffR, hr1, hr2, hW])
end Go.AE.D
