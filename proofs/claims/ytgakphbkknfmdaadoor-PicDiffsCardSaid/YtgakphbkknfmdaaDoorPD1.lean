import Derived.Test.YtgakphbkknfmdaaDoorGD
import Derived.Test.YtgakphbkknfmdaaDoorAEG6
set_option linter.all false
set_option linter.unusedSimpArgs false
set_option linter.unusedVariables false
namespace Go.AE
theorem intG_up {n : Nat} {m : Nat} (h1 : n < m) (h2 : m < 9223372036854775808) : intG .add .i64 (n : Int) 1 = some (.int .i64 ((n + 1 : Nat) : Int)) := by
  show some (Value.int .i64 (IntKind.i64.wrap ((n : Int) + 1))) = _
  rw [wrap_up h1 h2]
end Go.AE
namespace Go.AE.D
open Go Go.Proofs Go.AE
noncomputable abbrev P := Tryd.prog

/-! facts on types -/
theorem sz48 : E.size 48 = some 3 := by kernel_rfl
theorem sz3 : E.size 3 = some 1 := by kernel_rfl
theorem ud22 : E.und 22 = some (.slice 3) := by kernel_rfl
theorem fa48_0 (b o : Nat) : afieldAddr E 48 (.pointer (some ⟨b, o, none⟩)) 0 = some (.pointer (some ⟨b, o, none⟩)) := by kernel_rfl
theorem fa48_1 (b o : Nat) : afieldAddr E 48 (.pointer (some ⟨b, o, none⟩)) 1 = some (.pointer (some ⟨b, o + 1, none⟩)) := by kernel_rfl
theorem fa48_2 (b o : Nat) : afieldAddr E 48 (.pointer (some ⟨b, o, none⟩)) 2 = some (.pointer (some ⟨b, o + 2, none⟩)) := by kernel_rfl
theorem la48 (b o : Nat) (s : AS) : ldA E 48 (.pointer (some ⟨b, o, none⟩)) s = aggAt (s.get b) o 3 := by
  have h : ∃ d, E.und 48 = some d ∧ isAggD d = true := by
    cases h : E.und 48 with
    | none => exact absurd h (by show ¬ (E.und 48 = none); intro h; have : (E.und 48).isSome = true := by kernel_rfl
                                 rw [h] at this; cases this)
    | some d =>
      refine ⟨d, rfl, ?_⟩
      have : (match E.und 48 with | some d => isAggD d | none => false) = true := by kernel_rfl
      rw [h] at this
      exact this
  obtain ⟨d, h1, h2⟩ := h
  exact ldA_ptr h1 h2 sz48 b o s
/-- An element of a slice of numbers. -/
theorem ints_at {s : AS} {L : Value} {zs : List Int} (h : IntsAt s L zs) {i : Nat} (hi : i < zs.length) : ∃ b o, aindexAddr E 22 L (.int .i64 (i : Int)) = some (.pointer (some ⟨b, o, none⟩)) ∧ cellAt (s.get b) o = some (.int .i64 zs[i]) := by
  rcases h with ⟨_, rfl⟩ | ⟨b, o, c, own, e, cells, lo, hi', rfl, h2, h3⟩
  · simp at hi
  · refine ⟨b, o + i, ?_, ?_⟩
    · rw [index_at ud22 sz3 (by omega) (by omega)]
      simp
    · rw [h2]
      exact h3 i _ (List.getElem?_eq_getElem hi)

/-! pic.Right$1 -/
def badN (n : Int) : Bool := decide (n < 0) || decide (4294967295 < n)
def Z53 : List Value → AS → Value → AS → Prop := fun args s v s' => ∃ n : Int, args = [.int .i64 n] ∧ v = .bool (badN n) ∧ s' = s ∧ Std s
theorem Z53_fun {args s v s' w t} (h : Z53 args s v s') (h' : Z53 args s w t) : w = v ∧ t = s' := by
  obtain ⟨n, rfl, rfl, rfl, _⟩ := h
  obtain ⟨n', q, rfl, rfl, _⟩ := h'
  cases q
  exact ⟨rfl, rfl⟩
theorem b53 {C : Calls} {args : List Value} {s : AS} {v : Value} {s' : AS} (h : Z53 args s v s') : WpF E C 53 args (fun v1 s1 => Tells P (okOf E) E.glob s v1 s1 v s') s := by
  obtain ⟨n, rfl, rfl, rfl, hs⟩ := h
  refine w53 ?_
  unfold S53 badN
  by_cases h1 : n < 0 <;> simp [intG, h1] <;> exact Tells.refl

/-! slices.IndexFunc -/
def firstBad : List Int → Nat → Int
  | [], _ => -1
  | z :: l, i => if badN z then (i : Int) else firstBad l (i + 1)
theorem firstBad_any (l : List Int) (i : Nat) : decide (0 ≤ firstBad l i) = l.any badN := by
  induction l generalizing i with
  | nil => rfl
  | cons z l ih =>
    unfold firstBad
    rw [List.any_cons]
    cases badN z with
    | true => simp
    | false => simpa using ih (i + 1)
abbrev fBad : Value := .func (.func 53) ⟨[]⟩ ⟨[]⟩
def Z70 : List Value → AS → Value → AS → Prop := fun args s v s' => ∃ (L : Value) (zs : List Int), args = [L, fBad] ∧ IntsAt s L zs ∧ zs.length < 9223372036854775808 ∧ v = .int .i64 (firstBad zs 0) ∧ s' = s ∧ Std s
theorem Z70_fun {args s v s' w t} (h : Z70 args s v s') (h' : Z70 args s w t) : w = v ∧ t = s' := by
  obtain ⟨L, zs, rfl, hz, _, rfl, rfl, _⟩ := h
  obtain ⟨L', zs', q, hz', _, rfl, rfl, _⟩ := h'
  cases q
  cases hz.det hz'
  exact ⟨rfl, rfl⟩
theorem b70 {C : Calls} (hM : Meets C 53 Z53) {args : List Value} {s : AS} {v : Value} {s' : AS} (h : Z70 args s v s') : WpF E C 70 args (fun v1 s1 => Tells P (okOf E) E.glob s v1 s1 v s') s := by
  obtain ⟨L, zs, rfl, hz, hl, rfl, rfl, hs⟩ := h
  refine w70 ?_
  unfold S70
  rw [hz.len]
  simp only [ofV_some]
  refine ⟨fun m g s1 => ∃ i : Nat, g 0 = L ∧ g 1 = fBad ∧ g 7 = .int .i64 (zs.length : Int) ∧ g 8 = .int .i64 (i : Int) ∧ m = zs.length - i ∧ i ≤ zs.length ∧ firstBad (zs.drop i) i = firstBad zs 0 ∧ s1 = s', zs.length, ⟨0, by simp; rfl, by simp; rfl, by simp, by simp, by simp, by simp, by simp, rfl⟩, ?_⟩
  rintro m g s1 ⟨i, g0, g1, g7, g8, rfl, hi, hf, rfl⟩
  unfold S70_L2
  simp only [g0, g1, g7, g8, binG_int, intG, ofV_some]
  refine ifG_iff (fun ht => ?_) (fun ht => ?_)
  · have ht : i < zs.length := by simpa using ht
    obtain ⟨b, o, e1, e2⟩ := ints_at hz ht
    rw [e1]
    simp only [ofV_some, ldS_ptr, e2]
    have hd : zs.drop i = zs[i] :: zs.drop (i + 1) := by simp
    rw [hd, firstBad] at hf
    refine hM.use Z53_fun ⟨zs[i], rfl, rfl, rfl, hs⟩ ?_
    refine ifG_iff (fun hb => ?_) (fun hb => ?_)
    · rw [if_pos hb] at hf
      rw [← hf, hs.flat]
      exact Tells.refl
    · rw [if_neg (by simp [hb])] at hf
      rw [wrap_up ht hl]
      exact ⟨zs.length - (i + 1), by omega, i + 1, by simp [g0], by simp [g1], by simp [g7], by simp, rfl, by omega, hf, hs.flat⟩
  · have ht : ¬ i < zs.length := by simpa using ht
    rw [List.drop_eq_nil_of_le (by omega)] at hf
    rw [← hf]
    exact Tells.refl
def Z52 : List Value → AS → Value → AS → Prop := fun args s v s' => ∃ (L : Value) (zs : List Int), args = [L, fBad] ∧ IntsAt s L zs ∧ zs.length < 9223372036854775808 ∧ v = .bool (zs.any badN) ∧ s' = s ∧ Std s
theorem Z52_fun {args s v s' w t} (h : Z52 args s v s') (h' : Z52 args s w t) : w = v ∧ t = s' := by
  obtain ⟨L, zs, rfl, hz, _, rfl, rfl, _⟩ := h
  obtain ⟨L', zs', q, hz', _, rfl, rfl, _⟩ := h'
  cases q
  cases hz.det hz'
  exact ⟨rfl, rfl⟩
theorem b52 {C : Calls} (hM : Meets C 70 Z70) {args : List Value} {s : AS} {v : Value} {s' : AS} (h : Z52 args s v s') : WpF E C 52 args (fun v1 s1 => Tells P (okOf E) E.glob s v1 s1 v s') s := by
  obtain ⟨L, zs, rfl, hz, hl, rfl, rfl, hs⟩ := h
  refine w52 ?_
  unfold S52
  refine hM.use Z70_fun ⟨L, zs, rfl, hz, hl, rfl, rfl, hs⟩ ?_
  simp only [binG_int, intG, ofV_some, firstBad_any, hs.flat]
  exact Tells.refl

/-! Images -/
/-- An image at hand: its three cells. -/
def ImgAt (s : AS) (W H : Int) (L : Value) (zs : List Int) : Prop := IntsAt s L zs ∧ zs.length < 9223372036854775808
def rightB (W H : Int) (zs : List Int) : Bool := !(decide (W < 0) || decide (256 < W) || decide (H < 0) || decide (256 < H) || decide ((zs.length : Int) ≠ W * H) || zs.any badN)
def img (W H : Int) (L : Value) : Value := .agg ⟨[.int .i64 W, .int .i64 H, L]⟩
def ZR : List Value → AS → Value → AS → Prop := fun args s v s' => ∃ (W H : Int) (L : Value) (zs : List Int), args = [img W H L] ∧ IntsAt s L zs ∧ zs.length < 9223372036854775808 ∧ v = .bool (rightB W H zs) ∧ s' = s ∧ Std s
theorem ZR_fun {args s v s' w t} (h : ZR args s v s') (h' : ZR args s w t) : w = v ∧ t = s' := by
  obtain ⟨W, H, L, zs, rfl, hz, _, rfl, rfl, _⟩ := h
  obtain ⟨W', H', L', zs', q, hz', _, rfl, rfl, _⟩ := h'
  cases q
  cases hz.det hz'
  exact ⟨rfl, rfl⟩
theorem b24 {C : Calls} (hM : Meets C 52 Z52) {args : List Value} {s : AS} {v : Value} {s' : AS} (h : ZR args s v s') : WpF E C 24 args (fun v1 s1 => Tells P (okOf E) E.glob s v1 s1 v s') s := by
  obtain ⟨W, H, L, zs, rfl, hz, hl, rfl, rfl, hs⟩ := h
  refine w24 ?_
  unfold S24
  have nb : (s'.new (.row true 48 [Value.int IntKind.i64 W, Value.int IntKind.i64 H, L] 0 0)).flat.get s'.next = some (.row true 48 [Value.int IntKind.i64 W, Value.int IntKind.i64 H, L] 0 0) := by simp [hs.pick]
  have std := hs.new (o := .row true 48 [Value.int IntKind.i64 W, Value.int IntKind.i64 H, L] 0 0) trivial
  have old := fun k (hk : k < s'.next) => hs.old (.row true 48 [Value.int IntKind.i64 W, Value.int IntKind.i64 H, L] 0 0) hk
  have hz2 := hz.new hs (.row true 48 [Value.int IntKind.i64 W, Value.int IntKind.i64 H, L] 0 0)
  rw [newRow_of sz48 hs.pick]
  simp only [vcells, ofE_some]
  generalize hs2 : (s'.new (.row true 48 [Value.int IntKind.i64 W, Value.int IntKind.i64 H, L] 0 0)).flat = s2 at *
  have close : rightB W H zs = false → Tells P (okOf E) E.glob s' (.bool false) s2 (.bool (rightB W H zs)) s' := fun h => by
    rw [h]
    exact tells_same hs.calm hs.pick old rfl
  simp only [fa48_0, fa48_1, fa48_2, ofV_some, ldS_ptr, nb, cellAt_row, List.getElem?_cons_zero, List.getElem?_cons_succ, binG_int, intG, Nat.zero_add, Nat.reduceAdd]
  by_cases h1 : W < 0
  · simp [h1]
    exact close (by simp [rightB, h1])
  by_cases h2 : 256 < W
  · simp [h1, h2, nb, intG]
    exact close (by simp [rightB, h2])
  by_cases h3 : H < 0
  · simp [h1, h2, h3, nb, intG]
    exact close (by simp [rightB, h3])
  by_cases h4 : 256 < H
  · simp [h1, h2, h3, h4, nb, intG]
    exact close (by simp [rightB, h4])
  have hw : IntKind.i64.wrap (W * H) = W * H := by
    have q0 : 0 ≤ W * H := Int.mul_nonneg (by omega) (by omega)
    have q1 : W * H ≤ 256 * 256 := Int.mul_le_mul (by omega) (by omega) (by omega) (by omega)
    exact wrap_fits (by omega) (by omega)
  by_cases h5 : (zs.length : Int) = W * H
  · simp [h1, h2, h3, h4, nb, intG, fa48_0, fa48_1, fa48_2, hz.len, hw, h5]
    refine hM.use Z52_fun ⟨L, zs, rfl, hz2, hl, rfl, rfl, std⟩ ?_
    simp
    have : rightB W H zs = !zs.any badN := by simp [rightB, h1, h2, h3, h4, h5]
    rw [this, std.flat]
    exact tells_same hs.calm hs.pick old rfl
  · simp [h1, h2, h3, h4, nb, intG, fa48_0, fa48_1, fa48_2, hz.len, hw, show ((zs.length : Int) == W * H) = false by simpa using h5]
    exact close (by simp [rightB, h5])
end Go.AE.D
