import Derived.Test.YtgakphbkknfmdaaDoorAEG2
set_option linter.all false
set_option linter.unusedSimpArgs false
set_option linter.unusedVariables false
set_option autoImplicit false
namespace Go.AE
variable {P : Program} {ok : Nat → Code → Bool} {G : Nat}

/-! ### A region that draws its order -/
noncomputable def gdF (b : Value) (want : Bool) (r : Option (Value × AS)) (s : AS) (k : Value → AS → Prop) : Prop :=
  match b with
  | .bool b => match b, want with
    | true, true => ofE r k
    | true, false => k undef s.flat
    | false, true => k undef s.flat
    | false, false => ofE r k
  | _ => False
def gdP (b : Value) (want : Bool) (p : Prop) : Prop :=
  match b with
  | .bool b => match b, want with
    | true, true => p
    | true, false => True
    | false, true => True
    | false, false => p
  | _ => False
def ofX (r : Option (Value × AS)) (k : Value → AS → Prop) : Prop :=
  match r with
  | none => False
  | some (v, s) => k v s
noncomputable def dstepG (E : Env) (ops : List Oper) (o : Oper) (C : Calls) (g : Sl) (s : AS) (k : Value → AS → Prop) : Prop :=
  match guardG ops o with
  | none => match opR E o C (rhoG g) s with
    | .now v => k v s
    | .val r => ofV r fun v => k v s
    | .eff r => ofE r k
  | some none => False
  | some (some (d, want)) => match opR E o C (rhoG g) s, isEff (opFn E o) with
    | .now v, false => gdV (g d) want (some v) fun v => k v s
    | .val r, false => gdV (g d) want r fun v => k v s
    | .eff r, true => gdF (g d) want r s k
    | _, _ => False
noncomputable def rcRun (E : Env) (C : Calls) (o : Oper) (g : Sl) (v : Value) (id : Nat) (e : AS) : Prop :=
  match isFloat o.op with
  | true => match opR E o C (rhoG g) (e.at id) with
    | .eff r => ofX r fun u s1 => u = v ∧ s1.get id = e.get id
    | _ => False
  | false => match opR E o C (rhoG g) e with
    | .now u => u = v
    | .val r => r = some v
    | .eff _ => False
noncomputable def rcOne (E : Env) (ops : List Oper) (C : Calls) (o : Oper) (g : Sl) (v : Value) (id : Nat) (e : AS) : Prop :=
  match guardG ops o with
  | none => rcRun E C o g v id e
  | some none => False
  | some (some (d, want)) => gdP (g d) want (rcRun E C o g v id e)
noncomputable def rcAt (E : Env) (ops : List Oper) (C : Calls) (o : Oper) (g : Sl) (v : Value) (id : Nat) (ss : List AS) (j : Nat) : Prop :=
  match ss[j]? with
  | none => False
  | some e => rcOne E ops C o g v id e
noncomputable def rcGo (E : Env) (ops : List Oper) (C : Calls) (o : Oper) (g : Sl) (v : Value) (id : Nat) (ss : List AS) : List Nat → Prop
  | [] => True
  | j :: js => match js with
    | [] => rcAt E ops C o g v id ss j
    | js' => rcAt E ops C o g v id ss j ∧ rcGo E ops C o g v id ss js
def zAnd (Z : Option (List AS → Prop)) (Y : List AS → Prop) : Option (List AS → Prop) :=
  match Z with
  | none => some Y
  | some Z => some fun ss => Z ss ∧ Y ss
def zNext (js : List Nat) (Z : Option (List AS → Prop)) (Y : List AS → Prop) : Option (List AS → Prop) :=
  match js with
  | [] => Z
  | _ => zAnd Z Y
def zEnd (Z : Option (List AS → Prop)) (ss : List AS) (p : Prop) : Prop :=
  match Z with
  | none => p
  | some Z => Z ss ∧ p
noncomputable def dgo (E : Env) (ops : List Oper) (C : Calls) : List (Item × List Nat) → Sl → AS → Option (List AS → Prop) → List AS → (Sl → AS → Prop) → Prop
  | [], g, s, Z, ss, K => zEnd Z (ss ++ [s]) (K g s)
  | (x, js) :: l, g, s, Z, ss, K => dstepG E ops x.o C g s fun v s1 =>
    match isEff (opFn E x.o) with
      | true => s1.pick = none ∧ dgo E ops C l (suO g v x.o.dst) s1 (zNext js Z fun ss => rcGo E ops C x.o g v s.next ss js) (match isChain E x.o with
        | true => ss ++ [s]
        | false => ss) K
      | false => dgo E ops C l (suO g v x.o.dst) s1 (zNext js Z fun ss => rcGo E ops C x.o g v s.next ss js) (match isChain E x.o with
        | true => ss ++ [s]
        | false => ss) K
noncomputable def drawG (E : Env) (ops : List Oper) (C : Calls) (g : Sl) (s : AS) (K : Sl → AS → Prop) : Prop :=
  s.pick = none ∧ dgo E ops C ((canon E ops).zip (drawInfo E ops)) g s none [] K

theorem dstep_of {E : Env} (hE : E.Ok P) {C : Calls} {ops : Array Oper} {o : Oper} {N Gl : Nat} (hops : ∀ o ∈ ops, okOper N Gl o = true) (ho : okOper N Gl o = true) {t : T} {g : Sl} {s : AS} (h : TG N t g) {k : Value → AS → Prop}
    (hk : dstepG E ops.toList o C g s k) : ∃ v s', stepV E ops.toList o C t s = some (v, s') ∧ ((isEff (opFn E o) = true ∧ k v s'.flat) ∨ (isEff (opFn E o) = false ∧ s' = s ∧ k v s)) := by
  have hgd := guard_of (o := o) hops h
  cases hg : guardG ops.toList o with
  | none =>
    have hk' : stepG E ops.toList o C g s k := by
      unfold dstepG at hk
      unfold stepG
      rw [hg] at hk ⊢
      exact hk
    rw [hg] at hgd
    have hw : wantsF (guardOf ops.toList o) t = true := by rw [show guardOf ops.toList o = none from hgd]; rfl
    obtain ⟨v, s', h1, h2⟩ := step_of hE hops ho h hk'
    refine ⟨v, s', h1, ?_⟩
    rcases h2 with ⟨h2, _, h3⟩ | ⟨h2, h3, h4⟩
    · exact .inl ⟨h2, h3⟩
    · rcases h2 with h2 | h2
      · exact .inr ⟨h2, h3, h4⟩
      · rw [hw] at h2; cases h2
  | some d =>
    have hf := opR_fn (C := C) (t := t) (s := s) hE (ρ := rhoG g) (o := o) fun x hx => h.rho (okOper.operands ho x hx)
    unfold dstepG at hk
    rw [hg] at hgd hk
    cases d with
    | none => exact hk.elim
    | some dw =>
      obtain ⟨d, want⟩ := dw
      simp only at hgd hk
      have run : wantsF (guardOf ops.toList o) t = true → ∀ v s', (opFn E o).run C t s = some (v, s') → stepV E ops.toList o C t s = some (v, s') := fun hw v s' hr => by
        rw [stepV_wants, hw]; exact hr
      have not : wantsF (guardOf ops.toList o) t = false → stepV E ops.toList o C t s = some (undef, s) := fun hw => by rw [stepV_wants, hw]
      cases hr : opR E o C (rhoG g) s with
      | now u =>
        cases he : isEff (opFn E o) with
        | true => rw [hr, he] at hk; exact hk.elim
        | false =>
          rw [hr, he] at hk
          rw [hr] at hf
          simp only at hk
          unfold gdV at hk
          split at hk
          · rename_i b hb
            have hw := (hgd b hb).1
            have go : (b == want) = true → ofV (some u) (fun v => k v s) → ∃ v s', stepV E ops.toList o C t s = some (v, s') ∧ ((False ∧ k v s'.flat) ∨ (True ∧ s' = s ∧ k v s)) := fun he hk => by
              rw [he] at hw
              exact ⟨u, s, run hw _ _ hf.1, .inr ⟨trivial, rfl, hk⟩⟩
            have no : (b == want) = false → k undef s → ∃ v s', stepV E ops.toList o C t s = some (v, s') ∧ ((False ∧ k v s'.flat) ∨ (True ∧ s' = s ∧ k v s)) := fun he hk => by
              rw [he] at hw
              exact ⟨undef, s, not hw, .inr ⟨trivial, rfl, hk⟩⟩
            simp only [Bool.false_eq_true]
            cases b <;> cases want <;> first | exact go rfl hk | exact no rfl hk
          · exact hk.elim
      | val r =>
        cases he : isEff (opFn E o) with
        | true => rw [hr, he] at hk; exact hk.elim
        | false =>
          rw [hr, he] at hk
          rw [hr] at hf
          simp only at hk
          unfold gdV at hk
          split at hk
          · rename_i b hb
            have hw := (hgd b hb).1
            have go : (b == want) = true → ofV r (fun v => k v s) → ∃ v s', stepV E ops.toList o C t s = some (v, s') ∧ ((False ∧ k v s'.flat) ∨ (True ∧ s' = s ∧ k v s)) := fun he hk => by
              rw [he] at hw
              cases r with
              | none => exact hk.elim
              | some v => exact ⟨v, s, run hw _ _ hf.1, .inr ⟨trivial, rfl, hk⟩⟩
            have no : (b == want) = false → k undef s → ∃ v s', stepV E ops.toList o C t s = some (v, s') ∧ ((False ∧ k v s'.flat) ∨ (True ∧ s' = s ∧ k v s)) := fun he hk => by
              rw [he] at hw
              exact ⟨undef, s, not hw, .inr ⟨trivial, rfl, hk⟩⟩
            simp only [Bool.false_eq_true]
            cases b <;> cases want <;> first | exact go rfl hk | exact no rfl hk
          · exact hk.elim
      | eff r =>
        cases he : isEff (opFn E o) with
        | false => rw [hr, he] at hk; exact hk.elim
        | true =>
          rw [hr, he] at hk
          rw [hr] at hf
          simp only at hk
          unfold gdF at hk
          split at hk
          · rename_i b hb
            have hw := (hgd b hb).1
            have go : (b == want) = true → ofE r k → ∃ v s', stepV E ops.toList o C t s = some (v, s') ∧ ((True ∧ k v s'.flat) ∨ (False ∧ s' = s ∧ k v s)) := fun he hk => by
              rw [he] at hw
              cases r with
              | none => exact hk.elim
              | some v => exact ⟨v.1, v.2, run hw _ _ hf.1, .inl ⟨trivial, hk⟩⟩
            have no : (b == want) = false → k undef s.flat → ∃ v s', stepV E ops.toList o C t s = some (v, s') ∧ ((True ∧ k v s'.flat) ∨ (False ∧ s' = s ∧ k v s)) := fun he hk => by
              rw [he] at hw
              exact ⟨undef, s, not hw, .inl ⟨trivial, hk⟩⟩
            simp only [Bool.true_eq_false]
            cases b <;> cases want <;> first | exact go rfl hk | exact no rfl hk
          · exact hk.elim

theorem again_of {E : Env} (hE : E.Ok P) {C : Calls} {ops : Array Oper} {N Gl : Nat} (hops : ∀ o ∈ ops, okOper N Gl o = true) {x : Item} (ho : okOper N Gl x.o = true) {t : T} {g : Sl} {s s' e : AS} {v : Value} {j : Nat} (h : TG N t g)
    (hv : stepV E ops.toList x.o C t s = some (v, s')) (hc : isChain E x.o = false) (hk : rcOne E ops.toList C x.o g v s.next e) : Again E ops.toList C ⟨x, ⟨t, v, s.next⟩, s, j⟩ e := by
  have hgd := guard_of (o := x.o) hops h
  -- wanted
  have yes : wantsF (guardOf ops.toList x.o) t = true → rcRun E C x.o g v s.next e → Again E ops.toList C ⟨x, ⟨t, v, s.next⟩, s, j⟩ e := by
    intro hw hk
    unfold rcRun at hk
    cases hf : isFloat x.o.op with
    | true =>
      rw [hf] at hk
      refine ⟨fun hn => absurd (Lays.mk (ρ := ⟨x, ⟨t, v, s.next⟩, s, j⟩) hf hw) hn, fun _ => ?_⟩
      have hfit := opR_fn (C := C) (t := t) (s := e.at s.next) hE (ρ := rhoG g) (o := x.o) fun y hy => h.rho (okOper.operands ho y hy)
      cases hr : opR E x.o C (rhoG g) (e.at s.next) with
      | now r => rw [hr] at hk; exact hk.elim
      | val r => rw [hr] at hk; exact hk.elim
      | eff r =>
        rw [hr] at hk hfit
        cases r with
        | none => exact hk.elim
        | some us =>
          obtain ⟨u, s1⟩ := us
          obtain ⟨h1, h2⟩ := (hk : u = v ∧ s1.get s.next = e.get s.next)
          subst h1
          have hrun : (opFn E x.o).run C t (e.at s.next) = some (u, s1) := hfit.1
          obtain ⟨ob, rfl⟩ := float_new hf hrun
          refine ⟨ob, hrun, ?_⟩
          show e.get s.next = some ob
          rw [← h2, AS.get_new]
          exact if_pos rfl
    | false =>
      rw [hf] at hk
      refine ⟨fun _ => ?_, fun hl => absurd hl.float (by rw [hf]; simp)⟩
      have hfit := opR_fn (C := C) (t := t) (s := e) hE (ρ := rhoG g) (o := x.o) fun y hy => h.rho (okOper.operands ho y hy)
      cases hr : opR E x.o C (rhoG g) e with
      | eff r => rw [hr] at hk; exact hk.elim
      | now u =>
        rw [hr] at hk hfit
        have hk' : u = v := hk
        subst hk'
        show stepV E ops.toList x.o C t e = some (u, e)
        rw [stepV_wants, hw]
        exact hfit.1
      | val r =>
        rw [hr] at hk hfit
        have hk' : r = some v := hk
        subst hk'
        show stepV E ops.toList x.o C t e = some (v, e)
        rw [stepV_wants, hw]
        exact hfit.1
  have no : wantsF (guardOf ops.toList x.o) t = false → Again E ops.toList C ⟨x, ⟨t, v, s.next⟩, s, j⟩ e := by
    intro hw
    refine ⟨fun _ => ?_, fun hl => ?_⟩
    · show stepV E ops.toList x.o C t e = some (v, e)
      rw [stepV_wants, hw] at hv ⊢
      have hu : undef = v := congrArg Prod.fst (Option.some.inj hv)
      rw [← hu]
    · have : wantsF (guardOf ops.toList x.o) t = true := hl.wanted
      rw [hw] at this
      cases this
  unfold rcOne at hk
  cases hg : guardG ops.toList x.o with
  | none =>
    rw [hg] at hgd hk
    exact yes (by rw [show guardOf ops.toList x.o = none from hgd]; rfl) hk
  | some d =>
    rw [hg] at hgd hk
    cases d with
    | none => exact hk.elim
    | some dw =>
      obtain ⟨d, want⟩ := dw
      simp only at hgd hk
      unfold gdP at hk
      split at hk
      · rename_i b hb
        have hw := (hgd b hb).1
        cases b <;> cases want <;> first | exact yes hw hk | exact no hw
      · exact hk.elim

theorem rc_all {E : Env} {ops : List Oper} {C : Calls} {o : Oper} {g : Sl} {v : Value} {id : Nat} {ss : List AS} : ∀ {js : List Nat}, rcGo E ops C o g v id ss js → ∀ n ∈ js, ∃ e, ss[n]? = some e ∧ rcOne E ops C o g v id e
  | [], _, n, hn => by cases hn
  | j :: js, h, n, hn => by
    have one : rcAt E ops C o g v id ss j → ∃ e, ss[j]? = some e ∧ rcOne E ops C o g v id e := fun h1 => by
      unfold rcAt at h1
      cases he : ss[j]? with
      | none => rw [he] at h1; exact h1.elim
      | some e => rw [he] at h1; exact ⟨e, rfl, h1⟩
    cases js with
    | nil =>
      rcases List.mem_cons.1 hn with rfl | hn
      · exact one h
      · cases hn
    | cons a b =>
      obtain ⟨h1, h2⟩ := (h : rcAt E ops C o g v id ss j ∧ rcGo E ops C o g v id ss (a :: b))
      rcases List.mem_cons.1 hn with rfl | hn
      · exact one h1
      · exact rc_all h2 n hn
def zMet (Z : Option (List AS → Prop)) (ss : List AS) : Prop := zEnd Z ss True
theorem zEnd_iff {Z : Option (List AS → Prop)} {ss : List AS} {p : Prop} (h : zEnd Z ss p) : zMet Z ss ∧ p := by
  cases Z with
  | none => exact ⟨trivial, h⟩
  | some Z => exact ⟨⟨h.1, trivial⟩, h.2⟩
theorem zAnd_met {Z : Option (List AS → Prop)} {Y : List AS → Prop} {ss : List AS} (h : zMet (zAnd Z Y) ss) : zMet Z ss ∧ Y ss := by
  cases Z with
  | none => exact ⟨trivial, h.1⟩
  | some Z => exact ⟨⟨h.1.1, trivial⟩, h.1.2⟩

theorem dgo_rows {E : Env} (hE : E.Ok P) {C : Calls} {ops : Array Oper} {N Gl : Nat} (hops : ∀ o ∈ ops, okOper N Gl o = true) : ∀ (l : List (Item × List Nat)), (∀ p ∈ l, okOper N Gl p.1.o = true) → ∀ {j : Nat} {t : T} {g : Sl} {s : AS} {Z : Option (List AS → Prop)} {ss : List AS} {K : Sl → AS → Prop},
    TG N t g → dgo E ops.toList C l g s Z ss K → ∃ R ss' t1 g1 s1, Rows E ops.toList C j (l.map (·.1)) t s R ss' t1 s1 ∧ TG N t1 g1 ∧ K g1 s1 ∧ zMet Z (ss ++ ss') ∧ RcAll E ops.toList C (ss ++ ss') R (l.map (·.2))
  | [], _, j, t, g, s, Z, ss, K, h, hk => ⟨[], [s], t, g, s, .nil j t s, h, (zEnd_iff hk).2, (zEnd_iff hk).1, trivial⟩
  | (x, js) :: l, hl, j, t, g, s, Z, ss, K, h, hk => by
    have ho := hl (x, js) (by simp)
    obtain ⟨v, s', hv, hor⟩ := dstep_of hE hops ho h hk
    have hl' : ∀ p ∈ l, okOper N Gl p.1.o = true := fun p hp => hl p (by simp [hp])
    have hput := h.put x.o.dst v
    have fin : ∀ SS : List AS, zMet (zNext js Z fun ss => rcGo E ops.toList C x.o g v s.next ss js) SS → zMet Z SS ∧ (isChain E x.o = false → ∀ n ∈ js, ∃ e, SS[n]? = some e ∧ Again E ops.toList C ⟨x, ⟨t, v, s.next⟩, s, j⟩ e) := by
      intro SS hz
      cases js with
      | nil => exact ⟨hz, fun _ n hn => by cases hn⟩
      | cons a b =>
        obtain ⟨z1, z2⟩ := zAnd_met hz
        refine ⟨z1, fun hc n hn => ?_⟩
        obtain ⟨e, h1, h2⟩ := rc_all z2 n hn
        exact ⟨e, h1, again_of hE hops ho h hv hc h2⟩
    rcases hor with ⟨he, hk⟩ | ⟨he, rfl, hk⟩
    · rw [he] at hk
      obtain ⟨hp', hk⟩ := hk
      have hp' : s'.pick = none := hp'
      cases hf : isFloat x.o.op with
      | true =>
        rw [not_chain_of (E := E) (o := x.o) (.inr hf)] at hk
        obtain ⟨R, ss', t1, g1, s1, q1, q2, q3, q4, q5⟩ := dgo_rows hE hops l hl' (j := j) hput hk
        obtain ⟨z1, z2⟩ := fin _ q4
        exact ⟨_, ss', t1, g1, s1, .float he hf hv hp' q1, q2, q3, z1, z2, q5⟩
      | false =>
        rw [isChain_of he hf] at hk
        obtain ⟨R, ss', t1, g1, s1, q1, q2, q3, q4, q5⟩ := dgo_rows hE hops l hl' (j := j + 1) hput hk
        rw [List.append_assoc] at q4 q5
        obtain ⟨z1, z2⟩ := fin _ q4
        exact ⟨_, s :: ss', t1, g1, s1, .chain he hf hv hp' q1, q2, q3, z1, z2, q5⟩
    · rw [he] at hk
      rw [not_chain_of (E := E) (o := x.o) (.inl he)] at hk
      obtain ⟨R, ss', t1, g1, s1, q1, q2, q3, q4, q5⟩ := dgo_rows hE hops l hl' (j := j) hput hk
      obtain ⟨z1, z2⟩ := fin _ q4
      exact ⟨_, ss', t1, g1, s1, .quiet he hv q1, q2, q3, z1, z2, q5⟩

theorem infoGo_len {E : Env} {ks : List Item} : ∀ (l : List Item) (own : Nat), (infoGo E ks own l).length = l.length
  | [], _ => rfl
  | x :: l, own => by
    unfold infoGo
    split <;> simp [infoGo_len l]

/-! ### Code: what is asked where it ends, where it is left by an exit, where it returns -/
def jn (N : Sl → AS → Prop) : Sl → AS → Prop := fun g s => N g s
def blockX (id : Nat) (N : Sl → AS → Prop) (X : Nat → Sl → AS → Prop) : Nat → Sl → AS → Prop := fun j g s =>
  match Nat.beq j id with
  | true => N g s
  | false => X j g s
def loopN (I : Nat → Sl → AS → Prop) (m : Nat) : Sl → AS → Prop := fun g s => ∃ m', m' < m ∧ I m' g s
def LoopG (B : (Sl → AS → Prop) → Sl → AS → Prop) (g : Sl) (s : AS) : Prop :=
  ∃ (I : Nat → Sl → AS → Prop) (m : Nat), I m g s ∧ ∀ m g s, I m g s → B (loopN I m) g s
def ifG (b : Value) (x y : Prop) : Prop :=
  match b with
  | .bool b => match b with
    | true => x
    | false => y
  | _ => False

noncomputable def wpG (E : Env) (C : Calls) (c : Code) : (Sl → AS → Prop) → (Nat → Sl → AS → Prop) → (Sl → AS → Prop) → Sl → AS → Prop :=
  Code.rec (motive := fun _ => (Sl → AS → Prop) → (Nat → Sl → AS → Prop) → (Sl → AS → Prop) → Sl → AS → Prop)
    (fun N _ _ g s => N g s)
    (fun _ ops draw => match draw with
      | true => fun N _ _ g s => drawG E ops.toList C g s N
      | false => fun N _ _ g s => regG E ops.toList C ops.toList g s N)
    (fun _ _ x y => fun N X R g s => x (jn fun g s => y N X R g s) X R g s)
    (fun c _ _ x y => fun N X R g s => ifG (rhoG g c) (x N X R g s) (y N X R g s))
    (fun id _ x => fun N X R g s => x N (blockX id N X) R g s)
    (fun _ x => fun _ X R g s => LoopG (fun N g s => x N X R g s) g s)
    (fun _ _ _ _ _ _ => fun _ _ _ _ _ => False)
    (fun id => fun _ X _ g s => X id g s)
    (fun _ _ => fun _ _ _ _ _ => False)
    (fun _ => fun N _ _ g s => N g s)
    (fun _ => fun _ _ _ _ _ => False)
    (fun _ _ R g s => R g s)
    (fun _ => fun _ _ _ _ _ => False)
    c

/-- The three as one. -/
def allK (N : Sl → AS → Prop) (X : Nat → Sl → AS → Prop) (R : Sl → AS → Prop) : AX → Sl → AS → Prop := fun ax g s =>
  match ax with
  | .normal => N g s
  | .exit i => X i g s
  | .ret => R g s

def SlRel (ι : Iota) (g : Sl) (a : Array Value) : Prop := ∀ i, i < a.size → VRel ι (g i) (a.getD i undef)
theorem SlRel.tree {ι : Iota} {g : Sl} {a : Array Value} (h : SlRel ι g a) : TRel ι (treeOf g a.size) a := (treeOf_at g a.size).rel rfl h
theorem SlRel.of {ι : Iota} {t : T} {g : Sl} {a : Array Value} (h : TRel ι t a) (hg : TG a.size t g) : SlRel ι g a := fun i hi => by rw [← hg i hi]; exact h i hi
theorem SlRel.mono {ι ι' : Iota} (h : Le ι ι') {g : Sl} {a : Array Value} (p : SlRel ι g a) : SlRel ι' g a := fun i hi => (p i hi).mono h

def AfterG (P : Program) (ok : Nat → Code → Bool) (G : Nat) (ι : Iota) (W : World) (N : Nat) (df : List Deferred) (Q : AX → Sl → AS → Prop) : Exit → Act → World → Prop := fun e a' W' =>
  ∃ ax g' s' ι', e = exitOf ax ∧ Post P ok G ι W ι' s' W' ∧ SlRel ι' g' a'.tmps ∧ a'.tmps.size = N ∧ a'.defers = df ∧ Q ax g' s'

theorem AfterG.mono {ι : Iota} {W : World} {N : Nat} {df : List Deferred} {Q Q' : AX → Sl → AS → Prop} (h : ∀ ax g s, Q ax g s → Q' ax g s) {e : Exit} {a : Act} {W' : World} (p : AfterG P ok G ι W N df Q e a W') : AfterG P ok G ι W N df Q' e a W' := by
  obtain ⟨ax, g', s', ι', h1, h2, h3, h4, h5, h6⟩ := p
  exact ⟨ax, g', s', ι', h1, h2, h3, h4, h5, h _ _ _ h6⟩
theorem AfterG.from {ι ι1 : Iota} {W W1 : World} {s1 : AS} {N : Nat} {df : List Deferred} {Q : AX → Sl → AS → Prop} (hp : Post P ok G ι W ι1 s1 W1) {e : Exit} {a : Act} {W' : World} (p : AfterG P ok G ι1 W1 N df Q e a W') : AfterG P ok G ι W N df Q e a W' := by
  obtain ⟨ax, g', s', ι', h1, h2, h3, h4, h5, h6⟩ := p
  exact ⟨ax, g', s', ι', h1, hp.trans h2, h3, h4, h5, h6⟩

theorem exitOf_inj {x y : AX} (h : exitOf x = exitOf y) : x = y := by
  cases x <;> cases y <;> first | rfl | (simp [exitOf] at h) 
  subst h; rfl

theorem wpG_sound {E : Env} (hE : E.Ok P) (hm : P.follows .mixedOrders = true) {C : Calls} (hC : CallsOk P (okOf E) E.glob C) : ∀ (c : Code) {N : Sl → AS → Prop} {X : Nat → Sl → AS → Prop} {R : Sl → AS → Prop} {g : Sl} {s : AS} {ι : Iota} {W : World} {a : Act} {r : Option Nat},
    wpG E C c N X R g s → okCode E a.tmps.size c = true → Rel P (okOf E) E.glob ι s W → SlRel ι g a.tmps → c.wpIn (Fr r) 0 P (AfterG P (okOf E) E.glob ι W a.tmps.size a.defers (allK N X R)) a W := by
  intro c
  induction c with
  | skip =>
    intro N X R g s ι W a r h hok hr hs
    exact wpIn_skip ⟨.normal, g, s, ι, rfl, .refl hr, hs, rfl, rfl, h⟩
  | label l =>
    intro N X R g s ι W a r h hok hr hs
    exact wpIn_label ⟨.normal, g, s, ι, rfl, .refl hr, hs, rfl, rfl, h⟩
  | exit id =>
    intro N X R g s ι W a r h hok hr hs
    exact wpIn_exit ⟨.exit id, g, s, ι, rfl, .refl hr, hs, rfl, rfl, h⟩
  | ret =>
    intro N X R g s ι W a r h hok hr hs
    exact wpIn_ret ⟨.ret, g, s, ι, rfl, .refl hr, hs, rfl, rfl, h⟩
  | scope c _ => intro N X R g s ι W a r h; exact h.elim
  | goto l => intro N X R g s ι W a r h; exact h.elim
  | refuse l => intro N X R g s ι W a r h; exact h.elim
  | rangeFunc => intro N X R g s ι W a r h; exact h.elim
  | region id ops draw =>
    intro N X R g s ι W a r h hok hr hs
    cases draw with
    | false =>
      change (ops.toList.all (okOper a.tmps.size E.glob)) = true at hok
      simp only [List.all_eq_true] at hok
      have hops : ∀ o ∈ ops, okOper a.tmps.size E.glob o = true := fun o ho => hok o (by simpa using ho)
      obtain ⟨t', s', g', h1, h2, h3⟩ := reg_of hE hops ops.toList (fun o ho => hok o ho) (treeOf_at g a.tmps.size) h
      refine wpIn_region ?_
      have := region_sound (r := r) (Q := AfterG P (okOf E) E.glob ι W a.tmps.size a.defers (allK N X R)) hE hC ops.toList 0 rfl hr hs.tree hops h1 fun ι' a' W' hp ht' hsz hdf => ⟨.normal, g', s', ι', rfl, hp, .of ht' (by rw [hsz]; exact h2), hsz, hdf, h3⟩
      rw [← List.range_eq_range'] at this
      simpa using this
    | true =>
      change (ops.toList.all (okOper a.tmps.size E.glob) && drawOk E ops.toList) = true at hok
      simp only [Bool.and_eq_true, List.all_eq_true] at hok
      have hops : ∀ o ∈ ops, okOper a.tmps.size E.glob o = true := fun o ho => hok.1 o (by simpa using ho)
      obtain ⟨hpk, hd⟩ := h
      have hlen : (drawInfo E ops.toList).length = (canon E ops.toList).length := infoGo_len _ _
      obtain ⟨R, ss', t1, g1, s1, q1, q2, q3, _, q5⟩ := dgo_rows hE hops _ (fun p hp => by
        have hx : p.1 ∈ canon E ops.toList := (List.of_mem_zip hp).1
        exact hok.1 _ (List.mem_of_getElem? (canon_mem hx).1)) (j := 0) (treeOf_at g a.tmps.size) hd
      rw [List.map_fst_zip (by omega)] at q1
      rw [List.map_snd_zip (by omega), List.nil_append] at q5
      exact draw_region hE hm hC hr hs.tree hops hok.2 hpk q1 q5 _ fun ι' a' W' hp ht' hsz hdf => ⟨.normal, g1, s1, ι', rfl, hp, .of ht' (by rw [hsz]; exact q2), hsz, hdf, q3⟩
  | seq x y ihx ihy =>
    intro N X R g s ι W a r h hok hr hs
    change (okCode E a.tmps.size x && okCode E a.tmps.size y) = true at hok
    simp only [Bool.and_eq_true] at hok
    refine wpIn_seq (wpIn_mono (ihx (r := r) h hok.1 hr hs) fun e a' W' ⟨ax, g', s', ι', h1, h2, h3, h4, h5, h6⟩ => ?_)
    subst h1
    cases ax with
    | normal =>
      refine wpIn_mono (ihy (r := r) h6 (by rw [h4]; exact hok.2) h2.rel h3) fun e a2 W2 h7 => ?_
      rw [h4, h5] at h7
      exact h7.from h2
    | exit i => exact ⟨.exit i, g', s', ι', rfl, h2, h3, h4, h5, h6⟩
    | ret => exact ⟨.ret, g', s', ι', rfl, h2, h3, h4, h5, h6⟩
  | cond c x y ihx ihy =>
    intro N X R g s ι W a r h hok hr hs
    change (okOperand a.tmps.size E.glob c && (okCode E a.tmps.size x && okCode E a.tmps.size y)) = true at hok
    simp only [Bool.and_eq_true] at hok
    have hv := rho_rel hr hs.tree hok.1
    rw [(treeOf_at g a.tmps.size).rho hok.1] at hv
    change ifG (rhoG g c) _ _ at h
    unfold ifG at h
    split at h
    · rename_i b hb
      rw [hb] at hv
      cases b with
      | true => exact wpIn_cond_true (hv.flat rfl) (ihx (r := r) h hok.2.1 hr hs)
      | false => exact wpIn_cond_false (hv.flat rfl) (ihy (r := r) h hok.2.2 hr hs)
    · exact h.elim
  | block id x ih =>
    intro N X R g s ι W a r h hok hr hs
    change okCode E a.tmps.size x = true at hok
    refine wpIn_block (wpIn_mono (ih (r := r) h hok hr hs) fun e a' W' ⟨ax, g', s', ι', h1, h2, h3, h4, h5, h6⟩ => ?_)
    subst h1
    cases ax with
    | normal => exact ⟨.normal, g', s', ι', rfl, h2, h3, h4, h5, h6⟩
    | ret => exact ⟨.ret, g', s', ι', rfl, h2, h3, h4, h5, h6⟩
    | exit j =>
      change (match Nat.beq j id with
        | true => N g' s'
        | false => X j g' s') at h6
      simp only [exitOf, Exit.inBlock]
      cases hb : Nat.beq j id with
      | true =>
        rw [hb] at h6
        rw [if_pos (Nat.eq_of_beq_eq_true hb)]
        exact ⟨.normal, g', s', ι', rfl, h2, h3, h4, h5, h6⟩
      | false =>
        rw [hb] at h6
        rw [if_neg (fun e => by rw [e, Nat.beq_refl] at hb; cases hb)]
        exact ⟨.exit j, g', s', ι', rfl, h2, h3, h4, h5, h6⟩
  | loop x ih =>
    intro N X R g s ι W a r h hok hr hs
    change okCode E a.tmps.size x = true at hok
    obtain ⟨I, m, h0, hround⟩ := h
    refine wpIn_loop_fuel (fun m a' W' => ∃ g' s' ι', I m g' s' ∧ Post P (okOf E) E.glob ι W ι' s' W' ∧ SlRel ι' g' a'.tmps ∧ a'.tmps.size = a.tmps.size ∧ a'.defers = a.defers) (m := m) ⟨g, s, ι, h0, .refl hr, hs, rfl, rfl⟩ fun m a' W' ⟨g', s', ι', k1, k2, k3, k4, k5⟩ => ?_
    refine wpIn_mono (ih (r := r) (hround m g' s' k1) (by rw [k4]; exact hok) k2.rel k3) fun e a2 W2 ⟨ax, g2, s2, ι2, h1, h2, h3, h4, h5, h6⟩ => ?_
    subst h1
    rw [k4] at h4
    rw [k5] at h5
    cases ax with
    | normal =>
      obtain ⟨m', hlt, hI⟩ := h6
      exact ⟨m', hlt, g2, s2, ι2, hI, k2.trans h2, h3, h4, h5⟩
    | exit i => exact ⟨.exit i, g2, s2, ι2, rfl, k2.trans h2, h3, h4, h5, h6⟩
    | ret => exact ⟨.ret, g2, s2, ι2, rfl, k2.trans h2, h3, h4, h5, h6⟩
end Go.AE
