import Derived.Test.YtgakphbkknfmdaaDoorAESound3
set_option linter.all false
set_option linter.unusedSimpArgs false
set_option linter.unusedVariables false
set_option autoImplicit false
namespace Go.AE
variable {P : Program} {ok : Nat → Code → Bool} {G : Nat}

noncomputable def putD (d : Option Tmp) (v : Value) (t : T) : T :=
  match d with
  | some d => Tr.set (some v) (bits d) t
  | none => t
noncomputable def OFn.flatS (f : OFn) (s : AS) : AS :=
  match f with
  | .eff _ => s.flat
  | _ => s

theorem doFn_eq (f : OFn) (d : Option Tmp) (C : Calls) (t : T) (s : AS) (k : T → AS → Out) :
    (doFn f d).run C t s k = match f.run C t s with
      | none => .bad
      | some (v, s1) => k (putD d v t) (f.flatS s1) := by
  cases f with
  | copy p =>
    cases d with
    | none => rfl
    | some d =>
      show Option.rec (motive := fun _ => Out) (Tr.setK (some undef) (bits d) t fun t => k t s) (fun v => Tr.setK (some v) (bits d) t fun t => k t s) (Tr.get p t) = k (Tr.set (some (T.at t p)) (bits d) t) s
      unfold T.at
      cases Tr.get p t <;> simp only [Tr.setK_eq]
  | val f =>
    cases d with
    | none =>
      show Option.rec (motive := fun _ => Out) .bad (fun _ => k t s) (f t s) = match (match f t s with
        | some v => some (v, s)
        | none => none) with
        | none => .bad
        | some (v, s1) => k t s1
      cases f t s <;> rfl
    | some d =>
      show Option.rec (motive := fun _ => Out) .bad (fun v => forceT v fun v => Tr.setK (some v) (bits d) t fun t => k t s) (f t s) = match (match f t s with
        | some v => some (v, s)
        | none => none) with
        | none => .bad
        | some (v, s1) => k (Tr.set (some v) (bits d) t) s1
      cases f t s <;> simp only [Tr.setK_eq, forceT_eq]
  | eff f =>
    cases d with
    | none =>
      show Option.rec (motive := fun _ => Out) .bad (fun r => Prod.rec (motive := fun _ => Out) (fun _ s1 => s1.commit fun s1 => k t s1) r) (f C t s) = match f C t s with
        | none => .bad
        | some (v, s1) => k t s1.flat
      rcases f C t s with _ | ⟨v, s1⟩ <;> simp only [AS.commit_eq]
    | some d =>
      show Option.rec (motive := fun _ => Out) .bad (fun r => Prod.rec (motive := fun _ => Out) (fun v s1 => forceT v fun v => s1.commit fun s1 => Tr.setK (some v) (bits d) t fun t => k t s1) r) (f C t s) = match f C t s with
        | none => .bad
        | some (v, s1) => k (Tr.set (some v) (bits d) t) s1.flat
      rcases f C t s with _ | ⟨v, s1⟩ <;> simp only [AS.commit_eq, Tr.setK_eq, forceT_eq]

theorem keep_eq (d : Option Tmp) (v : Value) (t : T) (s : AS) (k : T → AS → Out) : keep d v t s k = k (putD d v t) s := by
  cases d with
  | none => rfl
  | some d => simp only [keep, forceT_eq, Tr.setK_eq, putD]

theorem TRel.putD {ι : Iota} {t : T} {a : Act} (p : TRel ι t a.tmps) {d : Option Tmp} {v v' : Value} (hv : VRel ι v v') : TRel ι (AE.putD d v t) (a.put d v').tmps := by
  cases d with
  | none => exact p
  | some d => exact p.set hv
theorem put_size (a : Act) (d : Option Tmp) (v : Value) : (a.put d v).tmps.size = a.tmps.size := by cases d <;> simp [Act.put]
theorem put_defers' (a : Act) (d : Option Tmp) (v : Value) : (a.put d v).defers = a.defers := by cases d <;> rfl

theorem wants_eq {ι : Iota} {ops : Array Oper} {o : Oper} {t : T} {a : Act} (ht : TRel ι t a.tmps) (hops : ∀ o ∈ ops, okOper a.tmps.size G o = true) :
    match guardOf ops.toList o with
    | none => Region.wanted o (yielded ops a.tmps) = true
    | some g => Region.wanted o (yielded ops a.tmps) = wantsF (some g) t := by
  unfold guardOf Region.wanted
  cases hg : o.guard with
  | none => rfl
  | some jw =>
    obtain ⟨j, want⟩ := jw
    simp only []
    have e : ops.toList[j]? = ops[j]? := by simp
    rw [e]
    unfold yielded
    cases hj : (ops[j]?).bind (·.dst) with
    | none => simp [wantsF]
    | some d =>
      simp only [Option.bind_some, wantsF]
      have hd : d < a.tmps.size := by
        rw [Option.bind_eq_some_iff] at hj
        obtain ⟨o1, h1, h2⟩ := hj
        exact okOper.dst (hops o1 (Array.mem_of_getElem? h1)) h2
      have hv := ht d hd
      have e1 : a.tmps[d]? = some (a.tmps.getD d undef) := by simp [Array.getD, hd]
      rw [e1]
      generalize a.tmps.getD d undef = x at hv
      generalize T.at t (bits d) = y at hv
      cases hv <;> simp only []
      case bool b => cases b <;> cases want <;> rfl
      all_goals simp

/-- What a step of a region comes to. -/
def StepTo (P : Program) (ok : Nat → Code → Bool) (G : Nat) (r : Option Nat) (ops : Array Oper) (ι : Iota) (i : Nat) (a : Act) (W : World) (t1 : T) (s1 : AS) : Prop :=
  ∀ (Q : Exit → Act → World → Prop) (K : Act → World → Prop),
    (∀ ι' a' W', Post P ok G ι W ι' s1 W' → TRel ι' t1 a'.tmps → a'.tmps.size = a.tmps.size → a'.defers = a.defers → K a' W') → wpOpIn (Fr r) 0 P ops Q i K a W

theorem flatS_post {ι ι' : Iota} {W W' : World} {s : AS} (f : OFn) (h : Post P ok G ι W ι' s W') : Post P ok G ι W ι' (f.flatS s) W' := by
  cases f with
  | eff f => exact h.flat
  | _ => exact h

noncomputable def doD (f : OFn) (d : Option Tmp) (C : Calls) (t : T) (s : AS) : Option (T × AS) :=
  match f.run C t s with
  | none => none
  | some (v, s1) => some (putD d v t, f.flatS s1)
noncomputable def stepD (E : Env) (ops : List Oper) (o : Oper) (C : Calls) (t : T) (s : AS) : Option (T × AS) :=
  match guardOf ops o with
  | none => doD (opFn E o) o.dst C t s
  | some g => match wantsF (some g) t with
    | true => doD (opFn E o) o.dst C t s
    | false => some (putD o.dst undef t, s)
noncomputable def regionD (E : Env) (ops : List Oper) (C : Calls) : List Oper → T → AS → Option (T × AS)
  | [], t, s => some (t, s)
  | o :: l, t, s => match stepD E ops o C t s with
    | none => none
    | some (t1, s1) => regionD E ops C l t1 s1
def onD (r : Option (T × AS)) (k : T → AS → Out) : Out :=
  match r with
  | none => .bad
  | some (t, s) => k t s
theorem stepFn_eq (E : Env) (ops : List Oper) (o : Oper) (C : Calls) (t : T) (s : AS) (k : T → AS → Out) : (stepFn E ops o).run C t s k = onD (stepD E ops o C t s) k := by
  have go : (doFn (opFn E o) o.dst).run C t s k = onD (doD (opFn E o) o.dst C t s) k := by
    rw [doFn_eq]
    unfold doD
    rcases (opFn E o).run C t s with _ | ⟨v, s1⟩ <;> rfl
  unfold stepFn stepD
  cases guardOf ops o with
  | none => exact go
  | some g =>
    show (match wantsF (some g) t with
      | true => (doFn (opFn E o) o.dst).run C t s k
      | false => keep o.dst undef t s k) = onD (match wantsF (some g) t with
      | true => doD (opFn E o) o.dst C t s
      | false => some (putD o.dst undef t, s)) k
    cases wantsF (some g) t with
    | true => exact go
    | false => exact keep_eq _ _ _ _ _
theorem regionFn_eq (E : Env) (ops : List Oper) (C : Calls) (k : T → AS → Out) : ∀ (l : List Oper) (t : T) (s : AS), (regionFn E ops l).run C t s k = onD (regionD E ops C l t s) k
  | [], _, _ => rfl
  | o :: l, t, s => by
    show (stepFn E ops o).run C t s (fun t s => (regionFn E ops l).run C t s k) = _
    rw [stepFn_eq]
    unfold regionD
    rcases stepD E ops o C t s with _ | ⟨t1, s1⟩
    · rfl
    · exact regionFn_eq E ops C k l t1 s1

theorem stepD_sound {E : Env} (hE : E.Ok P) {C : Calls} (hC : CallsOk P ok G C) {ι : Iota} {s : AS} {W : World} (hr : Rel P ok G ι s W) {t : T} {a : Act} (ht : TRel ι t a.tmps) {ops : Array Oper}
    (hops : ∀ o ∈ ops, okOper a.tmps.size G o = true) {i : Nat} {o : Oper} (ho : ops[i]? = some o) {t1 : T} {s1 : AS} (hd : stepD E ops.toList o C t s = some (t1, s1)) (r : Option Nat) :
    StepTo P ok G r ops ι i a W t1 s1 := by
  have hok := hops o (Array.mem_of_getElem? ho)
  have hw := wants_eq (o := o) ht hops
  have go : doD (opFn E o) o.dst C t s = some (t1, s1) → Region.wanted o (yielded ops a.tmps) = true → StepTo P ok G r ops ι i a W t1 s1 := by
    intro hne hwant
    unfold doD at hne
    cases hv : (opFn E o).run C t s with
    | none => rw [hv] at hne; cases hne
    | some vs =>
      obtain ⟨v, s2⟩ := vs
      rw [hv] at hne
      cases hne
      intro Q K hK
      unfold wpOpIn
      simp only [ho, hwant, if_true]
      exact opFn_sound hE hC hr ht hok hv r K Q fun ι' v' W' hp hvr =>
        hK ι' _ W' (flatS_post _ hp) ((ht.mono hp.le).putD hvr) (put_size _ _ _) (put_defers' _ _ _)
  unfold stepD at hd
  cases hg : guardOf ops.toList o with
  | none =>
    simp only [hg] at hd hw
    exact go hd hw
  | some g =>
    simp only [hg] at hw
    rw [hg] at hd
    change (match wantsF (some g) t with
      | true => doD (opFn E o) o.dst C t s
      | false => some (putD o.dst undef t, s)) = _ at hd
    cases hb : wantsF (some g) t with
    | true =>
      rw [hb] at hd hw
      exact go hd hw
    | false =>
      rw [hb] at hw hd
      cases hd
      intro Q K hK
      unfold wpOpIn
      simp only [ho, hw, Bool.false_eq_true, if_false]
      exact ⟨fun f _ => Fr.fn r f, hK ι _ W (.refl hr) (ht.putD (.ofFlat ι _ rfl)) (put_size _ _ _) (put_defers' _ _ _)⟩

/-- A region in the order of its text. -/
theorem region_sound {E : Env} (hE : E.Ok P) {C : Calls} (hC : CallsOk P ok G C) {ops : Array Oper} {r : Option Nat} {Q : Exit → Act → World → Prop} {t2 : T} {s2 : AS} :
    ∀ (l : List Oper) (i : Nat), ops.toList.drop i = l → ∀ {ι : Iota} {s : AS} {W : World} {t : T} {a : Act}, Rel P ok G ι s W → TRel ι t a.tmps → (∀ o ∈ ops, okOper a.tmps.size G o = true) →
      regionD E ops.toList C l t s = some (t2, s2) →
      (∀ ι' a' W', Post P ok G ι W ι' s2 W' → TRel ι' t2 a'.tmps → a'.tmps.size = a.tmps.size → a'.defers = a.defers → Q .normal a' W') → wpOpsIn (Fr r) 0 P ops Q (List.range' i l.length) a W
  | [], i, _, ι, s, W, t, a, hr, ht, _, hd, hQ => by
    cases hd
    exact hQ ι a W (.refl hr) ht rfl rfl
  | o :: l, i, hl, ι, s, W, t, a, hr, ht, hops, hd, hQ => by
    have ho : ops[i]? = some o := by
      have : (ops.toList.drop i)[0]? = some o := by rw [hl]; rfl
      simpa using this
    have hl' : ops.toList.drop (i + 1) = l := by
      have : (ops.toList.drop i).drop 1 = l := by rw [hl]; rfl
      rwa [List.drop_drop] at this
    unfold regionD at hd
    cases h1 : stepD E ops.toList o C t s with
    | none => rw [h1] at hd; cases hd
    | some ts =>
      obtain ⟨t1, s1⟩ := ts
      rw [h1] at hd
      rw [List.length_cons, List.range'_succ, wpOpsIn_cons]
      refine stepD_sound hE hC hr ht hops ho h1 r Q _ fun ι' a' W' hp ht' hsz hdf => ?_
      exact region_sound hE hC l (i + 1) hl' hp.rel ht' (hsz ▸ hops) hd fun ι2 a2 W2 hp2 ht2 hsz2 hdf2 => hQ ι2 a2 W2 (hp.trans hp2) ht2 (hsz2.trans hsz) (hdf2.trans hdf)
end Go.AE
