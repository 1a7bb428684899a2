import Derived.Test.YtgakphbkknfmdaaDoorAESound5
set_option linter.all false
set_option linter.unusedSimpArgs false
set_option linter.unusedVariables false
set_option autoImplicit false
namespace Go.AE
variable {P : Program}

noncomputable abbrev okOf (E : Env) : Nat → Code → Bool := fun N c => okCode E N c

theorem code_ok {E : Env} (hE : E.Ok P) (hF : FnOk E P) {C : Calls} (hC : CallsOk P (okOf E) E.glob C) : ∀ c : Code, CodeOk E P (okOf E) C c := by
  intro c
  induction c with
  | skip =>
    intro n r r' ι s W t a ms x t' ms' s' hrun hok hr ht hm hro
    change Out.ok .normal t ms s = _ at hrun
    cases hrun
    exact wpIn_skip ⟨rfl, ι, .refl hr, ht, rfl, hm⟩
  | label l =>
    intro n r r' ι s W t a ms x t' ms' s' hrun hok hr ht hm hro
    change Out.ok .normal t ms s = _ at hrun
    cases hrun
    exact wpIn_label ⟨rfl, ι, .refl hr, ht, rfl, hm⟩
  | exit id =>
    intro n r r' ι s W t a ms x t' ms' s' hrun hok hr ht hm hro
    change Out.ok (.exit id) t ms s = _ at hrun
    cases hrun
    exact wpIn_exit ⟨rfl, ι, .refl hr, ht, rfl, hm⟩
  | ret =>
    intro n r r' ι s W t a ms x t' ms' s' hrun hok hr ht hm hro
    change Out.ok .ret t ms s = _ at hrun
    cases hrun
    exact wpIn_ret ⟨rfl, ι, .refl hr, ht, rfl, hm⟩
  | scope c _ =>
    intro n r r' ι s W t a ms x t' ms' s' hrun
    change Out.bad = _ at hrun
    cases hrun
  | goto l =>
    intro n r r' ι s W t a ms x t' ms' s' hrun
    change Out.bad = _ at hrun
    cases hrun
  | refuse l =>
    intro n r r' ι s W t a ms x t' ms' s' hrun
    change Out.bad = _ at hrun
    cases hrun
  | region id ops draw =>
    intro n r r' ι s W t a ms x t' ms' s' hrun hok hr ht hm hro
    cases draw with
    | true =>
      change (drawFn E ops.toList).run C t s (fun t s => .ok .normal t ms s) = _ at hrun
      change (ops.toList.all (okOper a.tmps.size E.glob) && drawOk E ops.toList) = true at hok
      simp only [Bool.and_eq_true, List.all_eq_true] at hok
      have hops : ∀ o ∈ ops, okOper a.tmps.size E.glob o = true := fun o ho => hok.1 o (by simpa using ho)
      obtain ⟨t2, s2, h1, h2⟩ := draw_sound (r := r') (id := id) hE hF.mixed hC hr ht hops hok.2 (k := fun t s => .ok .normal t ms s) (by rw [hrun]; simp)
      rw [h1] at hrun
      cases hrun
      exact h2 _ fun ι' a' W' hp ht' hsz hdf => ⟨rfl, ι', hp, ht', hsz, hdf ▸ hm.mono hp.le⟩
    | false =>
      change (regionFn E ops.toList ops.toList).run C t s (fun t s => .ok .normal t ms s) = _ at hrun
      change (ops.toList.all (okOper a.tmps.size E.glob)) = true at hok
      simp only [List.all_eq_true] at hok
      have hops : ∀ o ∈ ops, okOper a.tmps.size E.glob o = true := fun o ho => hok o (by simpa using ho)
      rw [regionFn_eq] at hrun
      cases hd : regionD E ops.toList C ops.toList t s with
      | none => rw [hd] at hrun; cases hrun
      | some ts =>
        obtain ⟨t2, s2⟩ := ts
        rw [hd] at hrun
        have hrun' : Out.ok .normal t2 ms s2 = .ok x t' ms' s' := hrun
        injection hrun' with i1 i2 i3 i4
        subst i1 i2 i3 i4
        refine wpIn_region ?_
        have := region_sound hE hC (r := r') (Q := After P (okOf E) E.glob ι W a.tmps.size .normal t2 ms s2) ops.toList 0 (by simp) hr ht hops hd
          fun ι' a' W' hp ht' hsz hdf => ⟨rfl, ι', hp, ht', hsz, hdf ▸ hm.mono hp.le⟩
        simpa [List.range_eq_range'] using this
  | seq x y ihx ihy =>
    intro n r r' ι s W t a ms e t' ms' s' hrun hok hr ht hm hro
    change (match (codeFn E x).run n C r t ms s with
      | .ok .normal t ms s => (codeFn E y).run n C r t ms s
      | r => r) = _ at hrun
    change (okCode E a.tmps.size x && okCode E a.tmps.size y) = true at hok
    simp only [Bool.and_eq_true] at hok
    cases hx : (codeFn E x).run n C r t ms s with
    | bad => simp [hx] at hrun
    | ok e1 t1 ms1 s1 =>
      refine wpIn_seq (wpIn_mono (ihx hx hok.1 hr ht hm hro) ?_)
      intro e' a' W' h
      obtain ⟨he, ι', hp, ht', hsz, hm'⟩ := h
      subst he
      rw [hx] at hrun
      cases e1 with
      | normal =>
        refine wpIn_mono (ihy hrun (hsz ▸ hok.2) hp.rel ht' hm' (hro.mono hp.le)) fun e2 a2 W2 h2 => ?_
        exact After.trans hp (hsz ▸ h2)
      | exit id => cases hrun; exact ⟨rfl, ι', hp, ht', hsz, hm'⟩
      | ret => cases hrun; exact ⟨rfl, ι', hp, ht', hsz, hm'⟩
  | cond b x y ihx ihy =>
    intro n r r' ι s W t a ms e t' ms' s' hrun hok hr ht hm hro
    change (match rho t b with
      | .bool true => (codeFn E x).run n C r t ms s
      | .bool false => (codeFn E y).run n C r t ms s
      | _ => .bad) = _ at hrun
    change (okOperand a.tmps.size E.glob b && (okCode E a.tmps.size x && okCode E a.tmps.size y)) = true at hok
    simp only [Bool.and_eq_true] at hok
    have hb := rho_rel hr ht hok.1
    split at hrun
    · rename_i hbe
      rw [hbe] at hb
      exact wpIn_cond_true (hb.flat rfl) (ihx hrun hok.2.1 hr ht hm hro)
    · rename_i hbe
      rw [hbe] at hb
      exact wpIn_cond_false (hb.flat rfl) (ihy hrun hok.2.2 hr ht hm hro)
    · cases hrun
  | block id x ihx =>
    intro n r r' ι s W t a ms e t' ms' s' hrun hok hr ht hm hro
    change (match (codeFn E x).run n C r t ms s with
      | .ok (.exit j) t ms s => (match Nat.beq j id with
        | true => Out.ok .normal t ms s
        | false => Out.ok (.exit j) t ms s)
      | r => r) = _ at hrun
    change okCode E a.tmps.size x = true at hok
    cases hx : (codeFn E x).run n C r t ms s with
    | bad => simp [hx] at hrun
    | ok e1 t1 ms1 s1 =>
      refine wpIn_block (wpIn_mono (ihx hx hok hr ht hm hro) ?_)
      intro e' a' W' h
      obtain ⟨he, ι', hp, ht', hsz, hm'⟩ := h
      subst he
      rw [hx] at hrun
      cases e1 with
      | normal => cases hrun; exact ⟨rfl, ι', hp, ht', hsz, hm'⟩
      | ret => cases hrun; exact ⟨rfl, ι', hp, ht', hsz, hm'⟩
      | exit j =>
        simp only [exitOf, Exit.inBlock]
        cases hb : Nat.beq j id with
        | true =>
          simp only [hb] at hrun
          cases hrun
          rw [if_pos (Nat.eq_of_beq_eq_true hb)]
          exact ⟨rfl, ι', hp, ht', hsz, hm'⟩
        | false =>
          simp only [hb] at hrun
          cases hrun
          rw [if_neg (fun e => by rw [e, Nat.beq_refl] at hb; cases hb)]
          exact ⟨rfl, ι', hp, ht', hsz, hm'⟩
  | loop x ihx =>
    intro n r r' ι s W t a ms e t' ms' s' hrun hok hr ht hm hro
    change loopF ((codeFn E x).run n C r) n t ms s = _ at hrun
    change okCode E a.tmps.size x = true at hok
    refine wpIn_loop_fuel (fun m a1 W1 => ∃ ι1 t1 ms1 s1, loopF ((codeFn E x).run n C r) m t1 ms1 s1 = .ok e t' ms' s' ∧ Post P (okOf E) E.glob ι W ι1 s1 W1 ∧ TRel ι1 t1 a1.tmps ∧ a1.tmps.size = a.tmps.size ∧ MsRel ι1 ms1 a1.defers)
      (m := n) ⟨ι, t, ms, s, hrun, .refl hr, ht, rfl, hm⟩ ?_
    intro m a1 W1 ⟨ι1, t1, ms1, s1, hl, hp1, ht1, hsz1, hm1⟩
    cases m with
    | zero => change Out.bad = _ at hl; cases hl
    | succ m =>
      change (match (codeFn E x).run n C r t1 ms1 s1 with
        | .ok .normal t ms s => loopF ((codeFn E x).run n C r) m t ms s
        | r => r) = _ at hl
      cases hx : (codeFn E x).run n C r t1 ms1 s1 with
      | bad => simp [hx] at hl
      | ok e1 t2 ms2 s2 =>
        refine wpIn_mono (ihx hx (hsz1 ▸ hok) hp1.rel ht1 hm1 (hro.mono hp1.le)) ?_
        intro e' a' W' h
        obtain ⟨he, ι', hp, ht', hsz, hm'⟩ := h
        subst he
        rw [hx] at hl
        cases e1 with
        | normal => exact ⟨m, Nat.lt_succ_self m, ι', t2, ms2, s2, hl, hp1.trans hp, ht', hsz.trans hsz1, hm'⟩
        | exit id => cases hl; exact ⟨rfl, ι', hp1.trans hp, ht', hsz.trans hsz1, hm'⟩
        | ret => cases hl; exact ⟨rfl, ι', hp1.trans hp, ht', hsz.trans hsz1, hm'⟩
  | rangeFunc f params assign body _ _ => exact rangeFunc_ok hE hF hC f params assign body
end Go.AE
