import Derived.Test.YtgakphbkknfmdaaDoorAESound2
set_option linter.all false
set_option linter.unusedSimpArgs false
set_option linter.unusedVariables false
set_option autoImplicit false
namespace Go.AE
variable {P : Program} {ok : Nat → Code → Bool} {G : Nat}

theorem okOper.dst {N G : Nat} {o : Oper} (h : okOper N G o = true) {d : Nat} (hd : o.dst = some d) : d < N := by
  unfold okOper at h
  simp only [hd, Bool.and_eq_true] at h
  simpa [Nat.blt_eq] using h.1.1
theorem okOper.operands {N G : Nat} {o : Oper} (h : okOper N G o = true) : ∀ x ∈ o.op.operands, okOperand N G x = true := by
  unfold okOper at h
  simp only [Bool.and_eq_true, List.all_eq_true] at h
  exact fun x hx => h.1.2 x (by simpa using hx)
theorem okOper.noDefer {N G : Nat} {o : Oper} (h : okOper N G o = true) : ∀ c, o.op ≠ .defer c := fun c e => by
  unfold okOper at h
  simp [e, isDefer] at h

theorem plain_state {E : Env} {ρ : Operand → Value} {o : Oper} {s : AS} {r : Value × AS}
    (hv : (if operandsFlat ρ o.op then (match pureVal E.P (execOp ρ o) with
      | some (.value v) => if flatV v then some (v, s) else none
      | _ => none) else none) = some r) : r.2 = s := by
  split at hv
  · split at hv
    · split at hv
      · cases hv; rfl
      · cases hv
    · cases hv
  · cases hv
theorem here_state {v : Option Value} {s : AS} {r : Value × AS} (h : v.map (fun v => (v, s)) = some r) : r.2 = s := by
  cases v with
  | none => simp at h
  | some v => simp at h; subst h; rfl
theorem abuiltin_quiet {E : Env} {s : AS} {b : Builtin} {ts : List TypeId} {args : List Value} {r : Value × AS} (hb : quietB b = true) (h : abuiltin E s b ts args = some r) : r.2 = s := by
  unfold abuiltin at h
  split at h <;> first | (simp [quietB] at hb; done) | skip
  · split at h
    · cases h; rfl
    · cases h
  · split at h
    · cases h; rfl
    · cases h
  · split at h
    · cases h; rfl
    · cases h
  · cases h
theorem aop_quiet {E : Env} {ρ : Operand → Value} {o : Oper} {s : AS} {r : Value × AS} (hq : quietOp o.op = true) (hv : aop E ρ o s = some r) : r.2 = s := by
  obtain ⟨dst, op, type, pos, after, guard⟩ := o
  have hpl := fun h => plain_state (E := E) (ρ := ρ) (o := ⟨dst, op, type, pos, after, guard⟩) (s := s) (r := r) h
  unfold aop at hv
  cases op <;> simp only [quietOp, Bool.false_eq_true] at hq <;> simp only [] at hv
  case pick c a b =>
    split at hv
    · cases hv; rfl
    · cases hv; rfl
    · cases hv
  case build => exact here_state hv
  case unOp => exact hpl hv
  case binOp =>
    split at hv
    · split at hv
      · cases hv; rfl
      · exact hpl hv
    · split at hv
      · cases hv; rfl
      · exact hpl hv
    · exact hpl hv
  case makeInterface =>
    split at hv
    · cases hv
    · cases hv
    · cases hv; rfl
  case makeFunc =>
    split at hv
    · cases hv; rfl
    · cases hv
  case slice =>
    split at hv
    · cases hv
    · split at hv
      · cases hv; rfl
      · exact hpl hv
  case field =>
    split at hv
    · split at hv
      · split at hv
        · exact here_state hv
        · cases hv
      · cases hv
    · cases hv
  case index =>
    split at hv
    · split at hv
      · split at hv
        · split at hv
          · exact here_state hv
          · cases hv
        · cases hv
      · cases hv
    · exact hpl hv
  case lookup => exact here_state hv
  case typeAssert =>
    split at hv
    · exact hpl hv
    · split at hv
      · cases hv; rfl
      · split at hv
        · rename_i zz _ _
          exact here_state (v := (E.zero _).map fun z => .tuple #[z, .bool false]) (by rw [Option.map_map]; exact hv)
        · cases hv
    · exact hpl hv
  case call c =>
    cases hc : c.callee with
    | builtin b =>
      rw [hc] at hq
      simp only [hc] at hv
      split at hv
      · rename_i r' hab
        cases hv
        exact abuiltin_quiet hq hab
      · exact hpl hv
    | _ => rw [hc] at hq; cases hq
theorem val_aop {E : Env} {ρ : Operand → Value} {o : Oper} {s s' : AS} {v : Value} (hq : quietOp o.op = true) (hv : (match valOf (aop E ρ o s) with
      | some v => some (v, s)
      | none => none) = some (v, s')) : aop E ρ o s = some (v, s') := by
  cases h : aop E ρ o s with
  | none => rw [h] at hv; cases hv
  | some r =>
    obtain ⟨u, s1⟩ := r
    have := aop_quiet hq h
    simp only at this
    subst this
    rw [h] at hv
    exact hv

theorem aconvert_read {E : Env} {s s2 : AS} {src dst el : TypeId} {x u : Value} (h1 : E.und src = some (.slice el)) (h2 : E.und dst = some .string) (h : aconvert E s src dst x = some (u, s2)) : s2 = s := by
  unfold aconvert at h
  simp only [h1, h2, Option.bind_eq_bind, Option.bind_some] at h
  split at h
  case h_2 =>
    rw [Option.bind_eq_some_iff] at h
    obtain ⟨d, _, h⟩ := h
    split at h
    · rw [Option.bind_eq_some_iff] at h
      obtain ⟨c, _, h⟩ := h
      rw [Option.bind_eq_some_iff] at h
      obtain ⟨b, _, h⟩ := h
      cases h
      rfl
    · cases h
  all_goals simp_all
theorem opFn_core {E : Env} (hE : E.Ok P) {C : Calls} (hC : CallsOk P ok G C) {ι : Iota} {s s' : AS} {W : World} (hr : Rel P ok G ι s W) {t : T} {a : Act} {o : Oper}
    (hρ : ∀ x ∈ o.op.operands, VRel ι (rho t x) (a.eval x)) (hd : ∀ c, o.op ≠ .defer c)
    {v : Value} (hv : (opFn E o).run C t s = some (v, s')) (r : Option Nat) : OperOk P ok G r ι o a W v s' := by
  have main : aop E (rho t) o s = some (v, s') → OperOk P ok G r ι o a W v s' := fun h => operOk_of_op hd (aop_sound hE hr h hρ)
  have mine : OpOk P ok G ι W (execOp a.eval o) (v, s') → OperOk P ok G r ι o a W v s' := operOk_of_op hd
  obtain ⟨dst, op, type, pos, after, guard⟩ := o
  cases op
  case move x =>
    refine main ?_
    cases x <;> exact hv
  case assign x =>
    refine main ?_
    cases x <;> exact hv
  case alloc e =>
    refine main ?_
    unfold opFn at hv
    unfold aop
    cases hz : E.zero e with
    | none => simp [hz, OFn.run] at hv
    | some z =>
      simp only [hz, OFn.run] at hv
      simpa [hz] using hv
  case load ty x =>
    refine main ?_
    unfold opFn at hv
    unfold aop
    simp only [] at hv ⊢
    cases hu : E.und ty with
    | none => simp [hu, OFn.run] at hv
    | some d =>
      simp only [hu] at hv
      cases hg : isAggD d with
      | true =>
        simp only [hg, OFn.run] at hv
        show (match rho t x with
          | .pointer (some a) => (aload E s ty a).map fun v => (v, s)
          | _ => none) = _
        change (match (match rho t x with
          | .pointer (some a) => aload E s ty a
          | _ => none) with
          | some v => some (v, s)
          | none => none) = _ at hv
        cases hx : rho t x with
        | pointer p => cases p with
          | none => simp [hx] at hv
          | some p =>
            simp only [hx] at hv ⊢
            cases hl : aload E s ty p <;> simp [hl] at hv ⊢
            exact hv
        | _ => simp [hx] at hv
      | false =>
        simp only [hg, OFn.run] at hv
        show (match rho t x with
          | .pointer (some a) => (aload E s ty a).map fun v => (v, s)
          | _ => none) = _
        change (match (match rho t x with
          | .pointer (some ⟨b, off, none⟩) => match s.get b with
            | some (.row _ _ cells _ _) => cells[off]?
            | _ => none
          | _ => none) with
          | some v => some (v, s)
          | none => none) = _ at hv
        cases hx : rho t x with
        | pointer p => cases p with
          | none => simp [hx] at hv
          | some p =>
            obtain ⟨b, off, sp⟩ := p
            simp only [hx] at hv ⊢
            cases sp with
            | some z => simp at hv
            | none =>
              simp only [aload]
              cases hs : s.get b with
              | none => simp [hs] at hv
              | some ob =>
                simp only [hs] at hv ⊢
                cases ob <;> simp at hv
                rename_i own e cells lo hi
                simp only [hu, Option.bind_eq_bind, Option.bind_some, hg]
                cases hc : cells[off]? <;> simp [hc] at hv ⊢
                exact hv
        | _ => simp [hx] at hv
  case store ty x y =>
    refine main ?_
    change (match rho t x with
      | .pointer (some a) => skipF (astore E s ty a (rho t y))
      | _ => none) = _ at hv
    show (match rho t x with
      | .pointer (some a) => (astore E s ty a (rho t y)).map fun s => (undef, s)
      | _ => none) = _
    rw [← hv]
    cases rho t x with
    | pointer p => cases p with
      | none => rfl
      | some p => cases h : astore E s ty p (rho t y) <;> simp [h, skipF]
    | _ => rfl
  case nilCheck x =>
    refine main ?_
    change (match (match rho t x with
      | .pointer (some a) => some (Value.pointer (some a))
      | .func (.func f) first cap => some (Value.func (.func f) first cap)
      | .func (.yield f) first cap => some (Value.func (.yield f) first cap)
      | .slice a n c => some (Value.slice a n c)
      | .iface u v => some (Value.iface u v)
      | _ => (none : Option Value)) with
      | some v => some (v, s)
      | none => none) = _ at hv
    rw [← hv]
    unfold aop
    simp only []
    cases rho t x with
    | pointer p => cases p <;> rfl
    | func f _ _ => cases f <;> rfl
    | _ => rfl
  case fieldAddr ty x f =>
    refine main ?_
    change (match afieldAddr E ty (rho t x) f with
      | some v => some (v, s)
      | none => none) = _ at hv
    rw [← hv]
    show (afieldAddr E ty (rho t x) f).map _ = _
    cases afieldAddr E ty (rho t x) f <;> rfl
  case indexAddr ty x ix =>
    refine main ?_
    change (match aindexAddr E ty (rho t x) (rho t ix) with
      | some v => some (v, s)
      | none => none) = _ at hv
    rw [← hv]
    show (aindexAddr E ty (rho t x) (rho t ix)).map _ = _
    cases aindexAddr E ty (rho t x) (rho t ix) <;> rfl
  case extract x i =>
    refine main ?_
    change (match (match rho t x with
      | .tuple vs => vs.toList[i]?
      | _ => none) with
      | some v => some (v, s)
      | none => none) = _ at hv
    rw [← hv]
    unfold aop
    simp only []
    cases rho t x with
    | tuple vs => simp only []; cases vs.toList[i]? <;> rfl
    | _ => rfl
  case binOp op xt x y yt =>
    unfold opFn at hv
    simp only [] at hv
    cases hf : intFn op with
    | none =>
      rw [hf] at hv
      exact main (val_aop rfl hv)
    | some f =>
      have hx := hρ x (by simp [Op.operands])
      have hy := hρ y (by simp [Op.operands])
      simp only [hf, OFn.run] at hv
      change (match (match rho t x, rho t y with
        | .int k a, .int k' b => (match Nat.beq (kindNo k) (kindNo k') with
          | true => some (f.run k a b)
          | false => none)
        | _, _ => valOf (aop E (rho t) _ s)) with
        | some v => some (v, s)
        | none => none) = _ at hv
      cases hx1 : rho t x with
      | int k x1 =>
        cases hy1 : rho t y with
        | int k' y1 =>
          simp only [hx1, hy1] at hv
          rw [hx1] at hx
          rw [hy1] at hy
          cases hb : Nat.beq (kindNo k) (kindNo k') with
          | false => simp [hb] at hv
          | true =>
            have := kindNo_inj hb
            subst this
            simp only [hb, Option.some.injEq, Prod.mk.injEq] at hv
            obtain ⟨rfl, rfl⟩ := hv
            refine mine ?_
            have e1 : a.eval x = .int k x1 := hx.flat rfl
            have e2 : a.eval y = .int k y1 := hy.flat rfl
            obtain ⟨h1, _, h3⟩ := intFn_run (P := P) hf k x1 y1 xt yt x y W
            refine ⟨ι, f.run k x1 y1, W, .inl ?_, .refl hr, .ofFlat ι _ h3⟩
            show (do pure (Next.value (← (do eqGuard op xt x y (a.eval x) (a.eval y); binOp op xt (a.eval x) (a.eval y) : Sem Value))) : Sem Next).run P W = _
            rw [e1, e2, Sem.run_bind, h1]
            rfl
        | _ =>
          simp only [hx1, hy1] at hv
          exact main (val_aop rfl hv)
      | _ =>
        simp only [hx1] at hv
        exact main (val_aop rfl hv)
  case convert src dt x =>
    unfold opFn at hv
    simp only [] at hv
    have hx := hρ x (by simp [Op.operands])
    split at hv
    · rename_i d1 k h1 h2
      simp only [OFn.run] at hv
      change (match (match rho t x with
        | .int _ n => some (Value.int k (wrapF k n))
        | _ => none) with
        | some v => some (v, s)
        | none => none) = _ at hv
      cases hxn : rho t x with
      | int k' n =>
        rw [hxn] at hx
        simp only [hxn, Option.some.injEq, Prod.mk.injEq] at hv
        obtain ⟨rfl, rfl⟩ := hv
        have e1 : a.eval x = .int k' n := hx.flat rfl
        refine mine ⟨ι, .int k (wrapF k n), W, .inl ?_, .refl hr, .int _ _⟩
        show (do pure (Next.value (← convert src dt (a.eval x))) : Sem Next).run P W = _
        rw [e1, wrapF_eq]
        have hu1 := fun W => rund (hE.und h1) W
        have hu2 := fun W => rund (hE.und h2) W
        simp only [Sem.run_bind, convert, hu1, hu2, Result.andThen, Conv.intToInt, Sem.run_pure]
      | _ => simp [hxn] at hv
    · rename_i el h1 h2
      change (match valOf (aconvert E s src dt (rho t x)) with
        | some v => some (v, s)
        | none => none) = _ at hv
      cases hq : aconvert E s src dt (rho t x) with
      | none => rw [hq] at hv; cases hv
      | some r =>
        obtain ⟨u, s2⟩ := r
        rw [hq] at hv
        cases hv
        have hs2 : s2 = s := aconvert_read h1 h2 hq
        subst hs2
        refine main ?_
        unfold aop
        simp only [hq]
    · exact main hv
  case call c =>
    unfold opFn at hv
    simp only [] at hv
    have hargs : ∀ x ∈ c.args, VRel ι (rho t x) (a.eval x) := fun x hx => hρ x (by simp [Op.operands, Call.operands, hx])
    cases hc : c.callee with
    | value f =>
      simp only [hc, OFn.run] at hv
      have hf := hρ f (by simp [Op.operands, Call.operands, hc])
      refine invokeF_sound hC rfl hv hr hf (args_rel c.args hargs) ?_
      simp [execOp, resolve, hc]
    | invoke x name =>
      simp only [hc, OFn.run] at hv
      have hx := hρ x (by simp [Op.operands, Call.operands, hc])
      change (match rho t x with
        | .iface u v => (match methodF E u v name with
          | some f => C.call f (v :: (getsOf c.args.toList).map fun (g : Get) => g.of t) s
          | none => none)
        | _ => none) = _ at hv
      cases hxe : rho t x with
      | iface u w =>
        rw [hxe] at hx
        simp only [hxe] at hv
        cases hm : methodF E u w name with
        | none => simp [hm] at hv
        | some f =>
          simp only [hm] at hv
          cases hA : a.eval x <;> rw [hA] at hx <;> cases hx
          rename_i w' hw
          refine operOk_of_call rfl (f := f) (args := #[w'] ++ (c.args.map a.eval)) ?_ (hC.call hv hr ?_)
          · have hn : ∃ k, P.types.size + Made.depth = k + 1 := ⟨P.types.size + Made.depth - 1, (Nat.succ_pred_eq_of_pos (Nat.add_pos_right _ (by decide))).symm⟩
            obtain ⟨k, hk⟩ := hn
            have h0 : (#[Value.iface u w'] ++ Array.map a.eval c.args)[0]? = some (Value.iface u w') := by
              rw [Array.getElem?_append_left (by simp)]; rfl
            have h1 : (#[Value.iface u w'] ++ Array.map a.eval c.args).extract 1 (#[Value.iface u w'] ++ Array.map a.eval c.args).size = Array.map a.eval c.args := by
              apply Array.ext'
              simp [List.take_of_length_le]
            have hp : ∀ W, (program).run P W = .ok P W := fun _ => rfl
            simp only [execOp, resolve, hc, hA, invoke, Sem.run_bind, Sem.run_pure, Result.andThen, h0, h1, callMethod, hp, hk, methodF_run hE hm]
          · have := LRel.cons hw (args_rel c.args hargs)
            simpa using this
      | _ => simp [hxe] at hv
    | builtin b =>
      refine main ?_
      simp only [hc] at hv
      have back : aop E (rho t) ⟨dst, .call c, type, pos, after, guard⟩ s = some (v, s') → aop E (rho t) ⟨dst, .call c, type, pos, after, guard⟩ s = some (v, s') := id
      split at hv
      · rename_i tt rest x hts hxs
        split at hv
        · rename_i e hu
          change (match (match rho t x with
            | .slice _ n _ => some (Value.int .i64 (.ofNat n))
            | _ => (none : Option Value)) with
            | some v => some (v, s)
            | none => none) = _ at hv
          unfold aop
          simp only [hc, hts, hxs, List.map_cons, List.map_nil]
          cases hx : rho t x <;> simp only [hx, reduceCtorEq] at hv
          rename_i ad n cp
          simp only [abuiltin, hu]
          exact hv
        · exact val_aop (by simp [quietOp, hc, quietB]) hv
      · rename_i t1 u1 x y hts hxs
        change aappend E s t1 u1 (rho t x) (rho t y) = _ at hv
        unfold aop
        simp only [hc, hts, hxs, List.map_cons, List.map_nil, abuiltin, hv]
      · split at hv
        · rename_i hqb
          exact val_aop (by simp only [quietOp, hc]; exact hqb) hv
        · exact hv
  all_goals first | exact main hv | exact main (val_aop rfl hv)
theorem opFn_sound {E : Env} (hE : E.Ok P) {C : Calls} (hC : CallsOk P ok G C) {ι : Iota} {s s' : AS} {W : World} (hr : Rel P ok G ι s W) {t : T} {a : Act} (ht : TRel ι t a.tmps) {o : Oper} (hok : okOper a.tmps.size G o = true)
    {v : Value} (hv : (opFn E o).run C t s = some (v, s')) (r : Option Nat) : OperOk P ok G r ι o a W v s' :=
  opFn_core hE hC hr (fun x hx => rho_rel hr ht (okOper.operands hok x hx)) (okOper.noDefer hok) hv r
end Go.AE
