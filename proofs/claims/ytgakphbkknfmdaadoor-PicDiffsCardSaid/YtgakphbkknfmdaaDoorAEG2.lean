import Derived.Test.YtgakphbkknfmdaaDoorAEG1
import Derived.Test.YtgakphbkknfmdaaDoorAEDraw6
set_option linter.all false
set_option linter.unusedSimpArgs false
set_option linter.unusedVariables false
set_option autoImplicit false
namespace Go.AE
variable {P : Program} {ok : Nat → Code → Bool} {G : Nat}

/-! ### Symbolic runs: slots are functions -/
abbrev Sl := Nat → Value
noncomputable def su (g : Sl) (v : Value) (d : Nat) : Sl := fun j => Bool.rec (motive := fun _ => Value) (g j) v (Nat.beq j d)
noncomputable def suO (g : Sl) (v : Value) (d : Option Tmp) : Sl := Option.rec (motive := fun _ => Sl) g (fun d => su g v d) d
noncomputable def rhoG (g : Sl) (x : Operand) : Value :=
  @Operand.casesOn (fun _ => Value) x (fun i => g i) (fun v => v) (fun k => .pointer (some ⟨k, 0, none⟩)) (fun f => .func (.func f) #[] #[])

def ofV (r : Option Value) (k : Value → Prop) : Prop :=
  match r with
  | none => False
  | some v => k v
noncomputable def ofE (r : Option (Value × AS)) (k : Value → AS → Prop) : Prop :=
  match r with
  | none => False
  | some (v, s) => k v s.flat
def gdV (b : Value) (want : Bool) (r : Option Value) (k : Value → Prop) : Prop :=
  match b with
  | .bool b => match b, want with
    | true, true => ofV r k
    | true, false => k undef
    | false, true => k undef
    | false, false => ofV r k
  | _ => False
noncomputable def gdE (b : Value) (want : Bool) (r : Option (Value × AS)) (s : AS) (k : Value → AS → Prop) : Prop :=
  match b with
  | .bool b => match b, want with
    | true, true => ofE r k
    | true, false => k undef s
    | false, true => k undef s
    | false, false => ofE r k
  | _ => False
def guardG (ops : List Oper) (o : Oper) : Option (Option (Tmp × Bool)) :=
  match o.guard with
  | none => none
  | some (j, want) => match (ops[j]?).bind (·.dst) with
    | some d => some (some (d, want))
    | none => some none
noncomputable def stepG (E : Env) (ops : List Oper) (o : Oper) (C : Calls) (g : Sl) (s : AS) (k : Value → AS → Prop) : Prop :=
  match guardG ops o with
  | none => match opR E o C (rhoG g) s with
    | .now v => k v s
    | .val r => ofV r fun v => k v s
    | .eff r => ofE r k
  | some none => False
  | some (some (d, want)) => match opR E o C (rhoG g) s with
    | .now v => gdV (g d) want (some v) fun v => k v s
    | .val r => gdV (g d) want r fun v => k v s
    | .eff r => gdE (g d) want r s k
noncomputable def regG (E : Env) (ops : List Oper) (C : Calls) : List Oper → Sl → AS → (Sl → AS → Prop) → Prop
  | [], g, s, k => k g s
  | o :: l, g, s, k => stepG E ops o C g s fun v s1 => regG E ops C l (suO g v o.dst) s1 k

/-! Slots and trees. -/
def TG (N : Nat) (t : T) (g : Sl) : Prop := ∀ d, d < N → T.at t (bits d) = g d
theorem TG.put {N : Nat} {t : T} {g : Sl} (h : TG N t g) (d : Option Tmp) (v : Value) : TG N (putD d v t) (suO g v d) := fun j hj => by
  rw [at_putD]
  cases d with
  | none => simp [suO, h j hj]
  | some d =>
    simp only [suO, su, Option.some.injEq]
    by_cases e : d = j
    · subst e
      rw [if_pos rfl, Nat.beq_refl]
    · rw [if_neg e]
      have : Nat.beq j d = false := by rw [Bool.eq_false_iff]; exact fun h => e (Nat.eq_of_beq_eq_true h).symm
      rw [this]
      exact h j hj
theorem TG.rho {N : Nat} {t : T} {g : Sl} (h : TG N t g) {Gl : Nat} {x : Operand} (hx : okOperand N Gl x = true) : rho t x = rhoG g x := by
  cases x with
  | tmp i => exact h i (by simpa [okOperand, Nat.blt_eq] using hx)
  | const v => rfl
  | global k => rfl
  | func f => rfl
noncomputable def treeOf (g : Sl) : Nat → T
  | 0 => .leaf
  | n + 1 => Tr.set (some (g n)) (bits n) (treeOf g n)
theorem treeOf_at (g : Sl) : ∀ (N : Nat), TG N (treeOf g N) g
  | 0, d, h => by omega
  | n + 1, d, h => by
    unfold treeOf
    by_cases e : d = n
    · subst e; exact T.at_set_same _ _ _
    · rw [T.at_set_other _ _ fun h => e (bits_inj h)]
      exact treeOf_at g n d (by omega)
theorem TG.rel {N : Nat} {t : T} {g : Sl} (h : TG N t g) {ι : Iota} {a : Array Value} (hN : a.size = N) (hg : ∀ i, i < a.size → VRel ι (g i) (a.getD i undef)) : TRel ι t a := fun i hi => by
  rw [h i (by omega)]
  exact hg i hi

/-! The evaluator does what the symbolic run says. -/
theorem guard_of {ops : Array Oper} {o : Oper} {N Gl : Nat} (hops : ∀ o ∈ ops, okOper N Gl o = true) {t : T} {g : Sl} (h : TG N t g) :
    match guardG ops.toList o with
    | none => guardOf ops.toList o = none
    | some none => True
    | some (some (d, want)) => ∀ b, g d = .bool b → wantsF (guardOf ops.toList o) t = (b == want) ∧ guardOf ops.toList o ≠ none := by
  unfold guardG guardOf
  cases hg : o.guard with
  | none => rfl
  | some jw =>
    obtain ⟨j, want⟩ := jw
    simp only []
    cases hj : (ops.toList[j]?).bind (·.dst) with
    | none => trivial
    | some d =>
      simp only []
      intro b hb
      have hd : d < N := by
        rw [Option.bind_eq_some_iff] at hj
        obtain ⟨o1, h1, h2⟩ := hj
        have h1' : ops[j]? = some o1 := by simpa using h1
        exact okOper.dst (hops o1 (Array.mem_of_getElem? h1')) h2
      refine ⟨?_, by simp⟩
      simp only [wantsF]
      rw [h d hd, hb]
      cases b <;> cases want <;> rfl

def StepsTo (E : Env) (ops : Array Oper) (o : Oper) (C : Calls) (t : T) (s : AS) (k : Value → AS → Prop) : Prop :=
  ∃ v s', stepV E ops.toList o C t s = some (v, s') ∧ ((isEff (opFn E o) = true ∧ wantsF (guardOf ops.toList o) t = true ∧ k v s'.flat) ∨ ((isEff (opFn E o) = false ∨ wantsF (guardOf ops.toList o) t = false) ∧ s' = s ∧ k v s))
theorem step_of {E : Env} (hE : E.Ok P) {C : Calls} {ops : Array Oper} {o : Oper} {N Gl : Nat} (hops : ∀ o ∈ ops, okOper N Gl o = true) (ho : okOper N Gl o = true) {t : T} {g : Sl} {s : AS} (h : TG N t g) {k : Value → AS → Prop}
    (hk : stepG E ops.toList o C g s k) : StepsTo E ops o C t s k := by
  have hf := opR_fn (C := C) (t := t) (s := s) hE (ρ := rhoG g) (o := o) fun x hx => h.rho (okOper.operands ho x hx)
  have hgd := guard_of (o := o) hops h
  unfold stepG at hk
  have run : wantsF (guardOf ops.toList o) t = true → ∀ v s', (opFn E o).run C t s = some (v, s') → stepV E ops.toList o C t s = some (v, s') := fun hw v s' hr => by
    rw [stepV_wants, hw]; exact hr
  have not : wantsF (guardOf ops.toList o) t = false → stepV E ops.toList o C t s = some (undef, s) := fun hw => by rw [stepV_wants, hw]
  have vcase : ∀ r, opR E o C (rhoG g) s = .val r → ∀ k : Value → Prop, wantsF (guardOf ops.toList o) t = true → ofV r k → ∃ v, stepV E ops.toList o C t s = some (v, s) ∧ isEff (opFn E o) = false ∧ k v := by
    intro r hr k hw hk
    rw [hr] at hf
    cases r with
    | none => exact hk.elim
    | some v => exact ⟨v, run hw v s hf.1, hf.2, hk⟩
  have ecase : ∀ r, opR E o C (rhoG g) s = .eff r → ∀ k : Value → AS → Prop, wantsF (guardOf ops.toList o) t = true → ofE r k → ∃ v s', stepV E ops.toList o C t s = some (v, s') ∧ isEff (opFn E o) = true ∧ k v s'.flat := by
    intro r hr k hw hk
    rw [hr] at hf
    cases r with
    | none => exact hk.elim
    | some v => exact ⟨v.1, v.2, run hw _ _ hf.1, hf.2, hk⟩
  have ncase : ∀ u, opR E o C (rhoG g) s = .now u → wantsF (guardOf ops.toList o) t = true → stepV E ops.toList o C t s = some (u, s) ∧ isEff (opFn E o) = false := by
    intro u hr hw
    rw [hr] at hf
    exact ⟨run hw u s hf.1, hf.2⟩
  cases hg : guardG ops.toList o with
  | none =>
    rw [hg] at hgd hk
    have hw : wantsF (guardOf ops.toList o) t = true := by rw [show guardOf ops.toList o = none from hgd]; rfl
    cases hr : opR E o C (rhoG g) s with
    | now u =>
      rw [hr] at hk
      obtain ⟨h1, h2⟩ := ncase u hr hw
      exact ⟨u, s, h1, .inr ⟨.inl h2, rfl, hk⟩⟩
    | val r =>
      rw [hr] at hk
      obtain ⟨v, h1, h2, h3⟩ := vcase r hr _ hw hk
      exact ⟨v, s, h1, .inr ⟨.inl h2, rfl, h3⟩⟩
    | eff r =>
      rw [hr] at hk
      obtain ⟨v, s', h1, h2, h3⟩ := ecase r hr _ hw hk
      exact ⟨v, s', h1, .inl ⟨h2, hw, h3⟩⟩
  | some d =>
    rw [hg] at hgd hk
    cases d with
    | none => exact hk.elim
    | some dw =>
      obtain ⟨d, want⟩ := dw
      simp only at hgd hk
      cases hb : g d with
      | bool b =>
        obtain ⟨hw, _⟩ := hgd b hb
        cases hr : opR E o C (rhoG g) s with
        | now u =>
          rw [hr] at hk
          simp only [hb] at hk
          have go : (b == want) = true → ofV (some u) (fun v => k v s) → StepsTo E ops o C t s k := fun he hk => by
            rw [he] at hw
            obtain ⟨h1, h2⟩ := ncase u hr hw
            exact ⟨u, s, h1, .inr ⟨.inl h2, rfl, hk⟩⟩
          have no : (b == want) = false → k undef s → StepsTo E ops o C t s k := fun he hk => by
            rw [he] at hw
            exact ⟨undef, s, not hw, .inr ⟨.inr hw, rfl, hk⟩⟩
          cases b <;> cases want <;> first | exact go rfl hk | exact no rfl hk
        | val r =>
          rw [hr] at hk
          simp only [hb] at hk
          have go : (b == want) = true → ofV r (fun v => k v s) → StepsTo E ops o C t s k := fun he hk => by
            rw [he] at hw
            obtain ⟨v, h1, h2, h3⟩ := vcase r hr _ hw hk
            exact ⟨v, s, h1, .inr ⟨.inl h2, rfl, h3⟩⟩
          have no : (b == want) = false → k undef s → StepsTo E ops o C t s k := fun he hk => by
            rw [he] at hw
            exact ⟨undef, s, not hw, .inr ⟨.inr hw, rfl, hk⟩⟩
          cases b <;> cases want <;> first | exact go rfl hk | exact no rfl hk
        | eff r =>
          rw [hr] at hk
          simp only [hb] at hk
          have go : (b == want) = true → ofE r k → StepsTo E ops o C t s k := fun he hk => by
            rw [he] at hw
            obtain ⟨v, s', h1, h2, h3⟩ := ecase r hr _ hw hk
            exact ⟨v, s', h1, .inl ⟨h2, hw, h3⟩⟩
          have no : (b == want) = false → k undef s → StepsTo E ops o C t s k := fun he hk => by
            rw [he] at hw
            exact ⟨undef, s, not hw, .inr ⟨.inr hw, rfl, hk⟩⟩
          cases b <;> cases want <;> first | exact go rfl hk | exact no rfl hk
      | _ =>
        exfalso
        cases hr : opR E o C (rhoG g) s <;> (rw [hr] at hk; simp only [hb] at hk; exact hk)

theorem stepD_of {E : Env} {ops : List Oper} {o : Oper} {C : Calls} {t : T} {s : AS} {v : Value} {s' : AS} (h : stepV E ops o C t s = some (v, s')) :
    stepD E ops o C t s = some (putD o.dst v t, if wantsF (guardOf ops o) t = true then (opFn E o).flatS s' else s') := by
  unfold stepV at h
  unfold stepD
  split at h
  · rename_i hg
    simp only [hg]
    unfold doD
    rw [h]
    simp [wantsF]
  · rename_i g hg
    simp only [hg]
    cases hw : wantsF (some g) t with
    | true =>
      rw [hw] at h
      simp only [] at h
      unfold doD
      rw [h]
      simp
    | false =>
      rw [hw] at h
      cases h
      simp

theorem reg_of {E : Env} (hE : E.Ok P) {C : Calls} {ops : Array Oper} {N Gl : Nat} (hops : ∀ o ∈ ops, okOper N Gl o = true) : ∀ (l : List Oper), (∀ o ∈ l, okOper N Gl o = true) → ∀ {t : T} {g : Sl} {s : AS}, TG N t g → ∀ {k : Sl → AS → Prop},
    regG E ops.toList C l g s k → ∃ t' s' g', regionD E ops.toList C l t s = some (t', s') ∧ TG N t' g' ∧ k g' s'
  | [], _, t, g, s, h, k, hk => ⟨t, s, g, rfl, h, hk⟩
  | o :: l, hl, t, g, s, h, k, hk => by
    obtain ⟨v, s', h1, h2⟩ := step_of hE hops (hl o (by simp)) h hk
    have hd := stepD_of h1
    have fin : ∃ s2, stepD E ops.toList o C t s = some (putD o.dst v t, s2) ∧ regG E ops.toList C l (suO g v o.dst) s2 k := by
      rcases h2 with ⟨he, hw, hk⟩ | ⟨hn, rfl, hk⟩
      · refine ⟨s'.flat, ?_, hk⟩
        rw [hd, if_pos hw]
        unfold OFn.flatS
        cases hop : opFn E o <;> rw [hop] at he <;> first | rfl | cases he
      · refine ⟨s', ?_, hk⟩
        rw [hd]
        split
        · rename_i hw
          rcases hn with hn | hn
          · unfold OFn.flatS
            cases hop : opFn E o <;> rw [hop] at hn <;> first | rfl | cases hn
          · rw [hw] at hn; cases hn
        · rfl
    obtain ⟨s2, hd2, hk2⟩ := fin
    obtain ⟨t', s3, g', h3, h4, h5⟩ := reg_of hE hops l (fun o ho => hl o (by simp [ho])) (h.put o.dst v) hk2
    refine ⟨t', s3, g', ?_, h4, h5⟩
    unfold regionD
    rw [hd2]
    exact h3
end Go.AE
