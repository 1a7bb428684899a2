import Derived.Test.YtgakphbkknfmdaaDoorAEDraw4
set_option linter.all false
set_option linter.unusedSimpArgs false
set_option linter.unusedVariables false
set_option autoImplicit false
namespace Go.AE
variable {P : Program} {ok : Nat → Code → Bool} {G : Nat}

/-! ### One operation, asked only for what it reads -/
theorem mem_tmpsOf {d : Tmp} : ∀ {l : List Operand}, d ∈ tmpsOf l ↔ Operand.tmp d ∈ l
  | [] => by simp [tmpsOf]
  | x :: l => by
    have ih := mem_tmpsOf (d := d) (l := l)
    cases x <;> simp [tmpsOf, ih]

/-- What an operation reads. -/
def Reads (ι : Iota) (ops : List Oper) (o : Oper) (t : T) (a : Act) : Prop :=
  ∀ d, d ∈ readsOf ops o → d < a.tmps.size → VRel ι (T.at t (bits d)) (a.tmps.getD d undef)
theorem Reads.monoV {ι ι' : Iota} (h : LeV ι ι') {ops : List Oper} {o : Oper} {t : T} {a : Act} (p : Reads ι ops o t a) : Reads ι' ops o t a := fun d hd hlt => (p d hd hlt).monoV h

theorem rho_reads {ι : Iota} {s : AS} {W : World} (h : Rel P ok G ι s W) {t : T} {a : Act} {ops : List Oper} {o : Oper} (hp : Reads ι ops o t a) {x : Operand} (hm : x ∈ o.op.operands) (hx : okOperand a.tmps.size G x = true) : VRel ι (rho t x) (a.eval x) := by
  cases x with
  | tmp i =>
    have hi : i < a.tmps.size := by simpa [okOperand, Nat.blt_eq] using hx
    exact hp i (List.mem_append_left _ (mem_tmpsOf.2 (by simpa using hm))) hi
  | const v => exact .ofFlat ι v hx
  | global g =>
    have hg : g < G := by simpa [okOperand, Nat.blt_eq] using hx
    refine .ptr ⟨rfl, ?_⟩
    rcases h.glob g hg with h1 | ⟨l, h1, h2, h3⟩
    · exact .inl h1
    · exact .inr ⟨l, h1, by simp [h2, h3]⟩
  | func f => exact .func (.same f) rfl (fun i hi => by simp at hi) rfl (fun i hi => by simp at hi)

theorem wants_reads {ι : Iota} {ops : Array Oper} {o : Oper} {t : T} {a : Act} (hp : Reads ι ops.toList o t a) (hops : ∀ o ∈ ops, okOper a.tmps.size G o = true) :
    Region.wanted o (yielded ops a.tmps) = wantsF (guardOf ops.toList o) t := by
  unfold guardOf Region.wanted
  cases hg : o.guard with
  | none => rfl
  | some jw =>
    obtain ⟨j, want⟩ := jw
    simp only []
    have e : ops.toList[j]? = ops[j]? := by simp
    rw [e]
    unfold yielded
    cases hj : (ops[j]?).bind (·.dst) with
    | none => simp [wantsF]
    | some d =>
      simp only [Option.bind_some, wantsF]
      have hd : d < a.tmps.size := by
        rw [Option.bind_eq_some_iff] at hj
        obtain ⟨o1, h1, h2⟩ := hj
        exact okOper.dst (hops o1 (Array.mem_of_getElem? h1)) h2
      have hv := hp d (List.mem_append_right _ (by rw [hg]; simp only [e, hj]; simp)) hd
      have e1 : a.tmps[d]? = some (a.tmps.getD d undef) := by simp [Array.getD, hd]
      rw [e1]
      generalize a.tmps.getD d undef = x at hv
      generalize T.at t (bits d) = y at hv
      cases hv <;> simp only []
      case bool b => cases b <;> cases want <;> rfl
      all_goals simp

theorem stepV_wants (E : Env) (ops : List Oper) (o : Oper) (C : Calls) (t : T) (s : AS) : stepV E ops o C t s = match wantsF (guardOf ops o) t with
    | true => (opFn E o).run C t s
    | false => some (undef, s) := by
  unfold stepV
  cases guardOf ops o with
  | none => rfl
  | some g => rfl

theorem stepV_sound {E : Env} (hE : E.Ok P) {C : Calls} (hC : CallsOk P ok G C) {ι : Iota} {s : AS} {W : World} (hr : Rel P ok G ι s W) {t : T} {a : Act} {ops : Array Oper}
    (hops : ∀ o ∈ ops, okOper a.tmps.size G o = true) {i : Nat} {o : Oper} (ho : ops[i]? = some o) (hp : Reads ι ops.toList o t a) {v : Value} {s' : AS} (hv : stepV E ops.toList o C t s = some (v, s')) (r : Option Nat)
    (Q : Exit → Act → World → Prop) (K : Act → World → Prop) (hK : ∀ ι' v' W', Post P ok G ι W ι' s' W' → VRel ι' v v' → K (a.put o.dst v') W') : wpOpIn (Fr r) 0 P ops Q i K a W := by
  have hok := hops o (Array.mem_of_getElem? ho)
  have hw := wants_reads hp hops
  rw [stepV_wants] at hv
  unfold wpOpIn
  simp only [ho, hw]
  cases hb : wantsF (guardOf ops.toList o) t with
  | true =>
    rw [hb] at hv
    exact opFn_core hE hC hr (fun x hx => rho_reads hr hp hx (okOper.operands hok x hx)) (okOper.noDefer hok) hv r K Q hK
  | false =>
    rw [hb] at hv
    cases hv
    exact ⟨fun f _ => Fr.fn r f, hK ι undef W (.refl hr) (.ofFlat ι _ rfl)⟩

/-! ### Positions of the canonical run -/
def isWanted (ops : List Oper) (ρ : Row) : Prop := wantsF (guardOf ops ρ.x.o) ρ.r.t = true
/-- A row that lays one object. -/
structure Lays (ops : List Oper) (ρ : Row) : Prop where
  float : isFloat ρ.x.o.op = true
  wanted : wantsF (guardOf ops ρ.x.o) ρ.r.t = true

noncomputable def slotsOf (t : T) : List Row → T
  | [] => t
  | ρ :: l => slotsOf (putD ρ.x.o.dst ρ.r.v t) l
theorem at_putD (d : Option Tmp) (v : Value) (t : T) (j : Nat) : T.at (putD d v t) (bits j) = if d = some j then v else T.at t (bits j) := by
  cases d with
  | none => simp [putD]
  | some d =>
    by_cases e : d = j
    · subst e; rw [if_pos rfl]; exact T.at_set_same _ _ _
    · rw [if_neg (by simpa using e)]
      exact T.at_set_other _ _ fun h => e (bits_inj h).symm
theorem slots_out {d : Tmp} : ∀ {l : List Row} {t : T}, (∀ ρ ∈ l, ρ.x.o.dst ≠ some d) → T.at (slotsOf t l) (bits d) = T.at t (bits d)
  | [], _, _ => rfl
  | ρ :: l, t, h => by
    unfold slotsOf
    rw [slots_out fun σ hσ => h σ (by simp [hσ]), at_putD, if_neg (h ρ (by simp))]
theorem slots_in {E : Env} {ops : List Oper} {d : Tmp} : ∀ {l : List Row} {t : T}, l.Pairwise (fun ρ σ => PairOk E ops ρ.x σ.x) → ∀ {ρ : Row}, ρ ∈ l → ρ.x.o.dst = some d → T.at (slotsOf t l) (bits d) = ρ.r.v
  | [], _, _, _, h, _ => by cases h
  | τ :: l, t, hp, ρ, h, hd => by
    unfold slotsOf
    rw [List.pairwise_cons] at hp
    rcases List.mem_cons.1 h with rfl | h
    · rw [slots_out fun σ hσ => (hp.1 σ hσ).dst d hd, at_putD, if_pos hd]
    · exact slots_in hp.2 h hd

/-- A later state of a stretch in which only new objects are laid. -/
structure Ext (s e : AS) : Prop where
  pick : e.pick = none
  next : s.next ≤ e.next
  get : ∀ k, k < s.next → e.get k = s.get k

section rows
variable {E : Env} {ops : List Oper} {C : Calls}

theorem isChain_of {o : Oper} (he : isEff (opFn E o) = true) (hf : isFloat o.op = false) : isChain E o = true := by simp [isChain, he, hf]
theorem not_chain_of {o : Oper} (h : isEff (opFn E o) = false ∨ isFloat o.op = true) : isChain E o = false := by rcases h with h | h <;> simp [isChain, h]

theorem rows_slots {j : Nat} {l : List Item} {t : T} {s : AS} {rs : List Row} {ss : List AS} {t1 : T} {s1 : AS} (h : Rows E ops C j l t s rs ss t1 s1) :
    rs.map (·.x) = l ∧ t1 = slotsOf t rs ∧ ∀ pre ρ post, rs = pre ++ ρ :: post → ρ.r.t = slotsOf t pre := by
  have key : ∀ (x : Item) (t : T) (v : Value) (n : Nat) (s : AS) (j : Nat) (l : List Item) (rs : List Row) (t1 : T), (rs.map (·.x) = l ∧ t1 = slotsOf (putD x.o.dst v t) rs ∧ ∀ pre ρ post, rs = pre ++ ρ :: post → ρ.r.t = slotsOf (putD x.o.dst v t) pre) →
      ((⟨x, ⟨t, v, n⟩, s, j⟩ :: rs : List Row).map (·.x) = x :: l ∧ t1 = slotsOf t (⟨x, ⟨t, v, n⟩, s, j⟩ :: rs) ∧ ∀ pre ρ post, (⟨x, ⟨t, v, n⟩, s, j⟩ :: rs : List Row) = pre ++ ρ :: post → ρ.r.t = slotsOf t pre) := by
    intro x t v n s j l rs t1 ⟨h1, h2, h3⟩
    refine ⟨by simp [h1], h2, fun pre ρ post e => ?_⟩
    cases pre with
    | nil =>
      simp only [List.nil_append, List.cons.injEq] at e
      rw [← e.1]
      rfl
    | cons τ pre =>
      simp only [List.cons_append, List.cons.injEq] at e
      rw [← e.1]
      exact h3 pre ρ post e.2
  induction h with
  | nil j t s => exact ⟨rfl, rfl, (fun pre ρ post e => by simp at e)⟩
  | quiet he hv h ih => exact key _ _ _ _ _ _ _ _ _ ih
  | float he hf hv hp h ih => exact key _ _ _ _ _ _ _ _ _ ih
  | chain he hf hv hp h ih => exact key _ _ _ _ _ _ _ _ _ ih

theorem rows_own {j : Nat} {l : List Item} {t : T} {s : AS} {rs : List Row} {ss : List AS} {t1 : T} {s1 : AS} (h : Rows E ops C j l t s rs ss t1 s1) :
    (∀ ρ ∈ rs, j ≤ ρ.own) ∧ rs.Pairwise (fun ρ σ => ρ.own ≤ σ.own ∧ (isChain E ρ.x.o = true → ρ.own < σ.own)) ∧
      (∀ pre ρ post, rs = pre ++ ρ :: post → j < ρ.own → ∃ σ ∈ pre, isChain E σ.x.o = true ∧ σ.own + 1 = ρ.own) := by
  induction h with
  | nil j t s => exact ⟨(fun ρ h => by cases h), .nil, (fun pre ρ post e => by simp at e)⟩
  | quiet he hv h ih =>
    obtain ⟨h1, h2, h3⟩ := ih
    refine ⟨fun ρ hρ => ?_, .cons (fun σ hσ => ⟨h1 σ hσ, fun hc => ?_⟩) h2, fun pre ρ post e hlt => ?_⟩
    · rcases List.mem_cons.1 hρ with rfl | hρ
      · exact Nat.le_refl _
      · exact h1 ρ hρ
    · rw [not_chain_of (.inl he)] at hc; cases hc
    · cases pre with
      | nil => simp only [List.nil_append, List.cons.injEq] at e; rw [← e.1] at hlt; exact absurd hlt (Nat.lt_irrefl _)
      | cons τ pre =>
        simp only [List.cons_append, List.cons.injEq] at e
        obtain ⟨σ, m1, m2, m3⟩ := h3 pre ρ post e.2 hlt
        exact ⟨σ, by simp [m1], m2, m3⟩
  | float he hf hv hp h ih =>
    obtain ⟨h1, h2, h3⟩ := ih
    refine ⟨fun ρ hρ => ?_, .cons (fun σ hσ => ⟨h1 σ hσ, fun hc => ?_⟩) h2, fun pre ρ post e hlt => ?_⟩
    · rcases List.mem_cons.1 hρ with rfl | hρ
      · exact Nat.le_refl _
      · exact h1 ρ hρ
    · rw [not_chain_of (.inr hf)] at hc; cases hc
    · cases pre with
      | nil => simp only [List.nil_append, List.cons.injEq] at e; rw [← e.1] at hlt; exact absurd hlt (Nat.lt_irrefl _)
      | cons τ pre =>
        simp only [List.cons_append, List.cons.injEq] at e
        obtain ⟨σ, m1, m2, m3⟩ := h3 pre ρ post e.2 hlt
        exact ⟨σ, by simp [m1], m2, m3⟩
  | @chain j x l t s s' v rs ss t1 s1 he hf hv hp h ih =>
    obtain ⟨h1, h2, h3⟩ := ih
    refine ⟨fun ρ hρ => ?_, .cons (fun σ hσ => ⟨Nat.le_of_succ_le (h1 σ hσ), fun hc => h1 σ hσ⟩) h2, fun pre ρ post e hlt => ?_⟩
    · rcases List.mem_cons.1 hρ with rfl | hρ
      · exact Nat.le_refl _
      · exact Nat.le_of_succ_le (h1 ρ hρ)
    · cases pre with
      | nil => simp only [List.nil_append, List.cons.injEq] at e; rw [← e.1] at hlt; exact absurd hlt (Nat.lt_irrefl _)
      | cons τ pre =>
        simp only [List.cons_append, List.cons.injEq] at e
        by_cases e1 : j + 1 < ρ.own
        · obtain ⟨σ, m1, m2, m3⟩ := h3 pre ρ post e.2 e1
          exact ⟨σ, by simp [m1], m2, m3⟩
        · refine ⟨τ, by simp, ?_, ?_⟩
          · rw [← e.1]; exact isChain_of he hf
          · rw [← e.1]; show j + 1 = ρ.own; omega

/-- The states. -/
theorem rows_states {j : Nat} {l : List Item} {t : T} {s : AS} {rs : List Row} {ss : List AS} {t1 : T} {s1 : AS} (h : Rows E ops C j l t s rs ss t1 s1) (hs : s.pick = none) :
    (∃ e, ss[0]? = some e ∧ Ext s e ∧ ∀ ρ ∈ rs, Lays ops ρ → ρ.own = j → s.next ≤ ρ.r.id ∧ ρ.r.id < e.next) ∧
    (∀ ρ ∈ rs, ∃ s', stepV E ops ρ.x.o C ρ.r.t ρ.s = some (ρ.r.v, s') ∧
      (isChain E ρ.x.o = true → s'.pick = none ∧ ss[ρ.own - j]? = some ρ.s ∧ ∃ e, ss[ρ.own - j + 1]? = some e ∧ Ext s' e ∧ ∀ σ ∈ rs, Lays ops σ → σ.own = ρ.own + 1 → s'.next ≤ σ.r.id ∧ σ.r.id < e.next)) ∧
    rs.Pairwise (fun ρ σ => ρ.own = σ.own → Lays ops ρ → Lays ops σ → ρ.r.id ≠ σ.r.id) ∧
    (∃ c, ss.length = c + 1 ∧ ss[c]? = some s1 ∧ ∀ n, n < c → ∃ ρ ∈ rs, isChain E ρ.x.o = true ∧ ρ.own = j + n) := by
  induction h with
  | nil j t s => exact ⟨⟨s, rfl, ⟨hs, Nat.le_refl _, fun _ _ => rfl⟩, (fun ρ h => by cases h)⟩, (fun ρ h => by cases h), .nil, 0, rfl, rfl, (fun n h => by omega)⟩
  | @quiet j x l t s v rs ss t1 s1 he hv h ih =>
    obtain ⟨⟨e, a1, a2, a3⟩, b, c, d⟩ := ih hs
    have nc := not_chain_of (o := x.o) (.inl he)
    have nl : ∀ (r : DRec) (s : AS) (j : Nat), stepV E ops x.o C r.t s = some (r.v, s) → Lays ops ⟨x, r, s, j⟩ → False := fun r s j hv hl => by
      have hf := hl.float
      have := float_new hf (E := E) (C := C) (t := r.t) (s := s) (s' := s) (v := r.v) (by
        rw [stepV_wants] at hv
        rw [show wantsF (guardOf ops x.o) r.t = true from hl.wanted] at hv
        exact hv)
      obtain ⟨ob, hob⟩ := this
      -- a quiet operation lays nothing
      have e1 : s.get s.id = some ob := by
        have h1 := congrArg (fun z => AS.get z s.id) hob
        simp only [AS.get_new, if_pos] at h1
        exact h1
      have e2 := congrArg AS.pick hob
      rw [AS.pick_new] at e2
      have e3 := (AS.next_new s ob).2 e2
      rw [← hob] at e3
      omega
    refine ⟨⟨e, a1, a2, fun ρ hρ hl ho => ?_⟩, fun ρ hρ => ?_, .cons (fun σ hσ ho hl _ => ?_) c, ?_⟩
    · rcases List.mem_cons.1 hρ with rfl | hρ
      · exact (nl _ _ _ hv hl).elim
      · exact a3 ρ hρ hl ho
    · rcases List.mem_cons.1 hρ with rfl | hρ
      · exact ⟨s, hv, fun hc => by rw [nc] at hc; cases hc⟩
      · obtain ⟨s', m1, m2⟩ := b ρ hρ
        refine ⟨s', m1, fun hc => ?_⟩
        obtain ⟨p1, p2, e', p3, p4, p5⟩ := m2 hc
        refine ⟨p1, p2, e', p3, p4, fun σ hσ hl ho => ?_⟩
        rcases List.mem_cons.1 hσ with rfl | hσ
        · exact (nl _ _ _ hv hl).elim
        · exact p5 σ hσ hl ho
    · exact (nl _ _ _ hv hl).elim
    · obtain ⟨n, d1, d2, d3⟩ := d
      exact ⟨n, d1, d2, fun k hk => let ⟨ρ, q1, q2, q3⟩ := d3 k hk; ⟨ρ, by simp [q1], q2, q3⟩⟩
  | @float j x l t s s' v rs ss t1 s1 he hf hv hp h ih =>
    obtain ⟨⟨e, a1, a2, a3⟩, b, c, d⟩ := ih hp
    have nc := not_chain_of (E := E) (o := x.o) (.inr hf)
    have own := (rows_own h).1
    -- the state behind it
    have hst : s.next ≤ s'.next ∧ (∀ k, k < s.next → s'.get k = s.get k) ∧ (wantsF (guardOf ops x.o) t = true → s.next < s'.next) := by
      have hv' := hv
      rw [stepV_wants] at hv'
      cases hw : wantsF (guardOf ops x.o) t with
      | true =>
        rw [hw] at hv'
        obtain ⟨ob, rfl⟩ := float_new hf hv'
        have := (AS.next_new s ob).2 hs
        refine ⟨by omega, fun k hk => ?_, fun _ => by omega⟩
        rw [AS.get_new, if_neg]
        unfold AS.id
        rw [hs]
        show k ≠ s.next
        omega
      | false =>
        rw [hw] at hv'
        cases hv'
        exact ⟨Nat.le_refl _, fun _ _ => rfl, fun h => by cases h⟩
    have a2n : s'.next ≤ e.next := a2.next
    refine ⟨⟨e, a1, ⟨a2.pick, Nat.le_trans hst.1 a2n, fun k hk => ?_⟩, fun ρ hρ hl ho => ?_⟩, fun ρ hρ => ?_, .cons (fun σ hσ ho hl hl' => ?_) c, ?_⟩
    · rw [a2.get k (Nat.lt_of_lt_of_le hk hst.1), AS.get_flat]
      exact hst.2.1 k hk
    · rcases List.mem_cons.1 hρ with rfl | hρ
      · have := hst.2.2 hl.wanted
        exact ⟨Nat.le_refl _, Nat.lt_of_lt_of_le this a2n⟩
      · obtain ⟨q1, q2⟩ := a3 ρ hρ hl ho
        exact ⟨Nat.le_trans hst.1 q1, q2⟩
    · rcases List.mem_cons.1 hρ with rfl | hρ
      · exact ⟨s', hv, fun hc => by rw [nc] at hc; cases hc⟩
      · obtain ⟨s2, m1, m2⟩ := b ρ hρ
        refine ⟨s2, m1, fun hc => ?_⟩
        obtain ⟨p1, p2, e', p3, p4, p5⟩ := m2 hc
        refine ⟨p1, p2, e', p3, p4, fun σ hσ hl ho => ?_⟩
        rcases List.mem_cons.1 hσ with rfl | hσ
        · have : j = ρ.own + 1 := ho
          have := own ρ hρ
          omega
        · exact p5 σ hσ hl ho
    · have := hst.2.2 hl.wanted
      obtain ⟨q1, q2⟩ := a3 σ hσ hl' ho.symm
      have q1' : s'.next ≤ σ.r.id := q1
      show s.next ≠ σ.r.id
      omega
    · obtain ⟨n, d1, d2, d3⟩ := d
      exact ⟨n, d1, d2, fun k hk => let ⟨ρ, q1, q2, q3⟩ := d3 k hk; ⟨ρ, by simp [q1], q2, q3⟩⟩
  | @chain j x l t s s' v rs ss t1 s1 he hf hv hp h ih =>
    obtain ⟨⟨e, a1, a2, a3⟩, b, c, d⟩ := ih hp
    have own := (rows_own h).1
    have nl : ∀ (r : DRec) (s : AS) (j : Nat), Lays ops ⟨x, r, s, j⟩ → False := fun r s j hl => by
      have h1 : isFloat x.o.op = true := hl.float
      rw [hf] at h1; cases h1
    refine ⟨⟨s, rfl, ⟨hs, Nat.le_refl _, fun _ _ => rfl⟩, fun ρ hρ hl ho => ?_⟩, fun ρ hρ => ?_, .cons (fun σ hσ ho hl _ => (nl _ _ _ hl).elim) c, ?_⟩
    · rcases List.mem_cons.1 hρ with rfl | hρ
      · exact (nl _ _ _ hl).elim
      · have := own ρ hρ
        omega
    · rcases List.mem_cons.1 hρ with rfl | hρ
      · refine ⟨s', hv, fun hc => ⟨hp, ?_, e, ?_, ?_, fun σ hσ hl ho => ?_⟩⟩
        · show (s :: ss)[j - j]? = some s
          rw [Nat.sub_self]; rfl
        · show (s :: ss)[j - j + 1]? = some e
          rw [Nat.sub_self]
          simpa using a1
        · exact ⟨a2.pick, a2.next, fun k hk => (a2.get k hk).trans (AS.get_flat _ _)⟩
        · rcases List.mem_cons.1 hσ with rfl | hσ
          · exact (nl _ _ _ hl).elim
          · exact a3 σ hσ hl ho
      · obtain ⟨s2, m1, m2⟩ := b ρ hρ
        refine ⟨s2, m1, fun hc => ?_⟩
        obtain ⟨p1, p2, e', p3, p4, p5⟩ := m2 hc
        have hlt := own ρ hρ
        have e1 : ρ.own - j = ρ.own - (j + 1) + 1 := by omega
        refine ⟨p1, ?_, e', ?_, p4, fun σ hσ hl ho => ?_⟩
        · rw [e1, List.getElem?_cons_succ]; exact p2
        · rw [e1, List.getElem?_cons_succ]; exact p3
        · rcases List.mem_cons.1 hσ with rfl | hσ
          · exact (nl _ _ _ hl).elim
          · exact p5 σ hσ hl ho
    · obtain ⟨n, d1, d2, d3⟩ := d
      refine ⟨n + 1, by simp [d1], by simpa using d2, fun k hk => ?_⟩
      cases k with
      | zero => exact ⟨_, List.mem_cons_self, isChain_of he hf, rfl⟩
      | succ k =>
        obtain ⟨ρ, q1, q2, q3⟩ := d3 k (by omega)
        exact ⟨ρ, by simp [q1], q2, by omega⟩

theorem rows_chains {j : Nat} {l : List Item} {t : T} {s : AS} {rs : List Row} {ss : List AS} {t1 : T} {s1 : AS} (h : Rows E ops C j l t s rs ss t1 s1) :
    ∀ n, ∀ k ∈ (chainOf E l).take n, ∃ ρ ∈ rs, ρ.x = k ∧ isChain E ρ.x.o = true ∧ ρ.own < j + n := by
  induction h with
  | nil j t s => intro n k hk; simp [chainOf] at hk
  | @quiet j x l t s v rs ss t1 s1 he hv h ih =>
    intro n k hk
    unfold chainOf at hk
    rw [not_chain_of (.inl he)] at hk
    obtain ⟨ρ, h1, h2⟩ := ih n k hk
    exact ⟨ρ, by simp [h1], h2⟩
  | @float j x l t s s' v rs ss t1 s1 he hf hv hp h ih =>
    intro n k hk
    unfold chainOf at hk
    rw [not_chain_of (.inr hf)] at hk
    obtain ⟨ρ, h1, h2⟩ := ih n k hk
    exact ⟨ρ, by simp [h1], h2⟩
  | @chain j x l t s s' v rs ss t1 s1 he hf hv hp h ih =>
    intro n k hk
    unfold chainOf at hk
    rw [isChain_of he hf] at hk
    cases n with
    | zero => simp at hk
    | succ n =>
      simp only [List.take_succ_cons, List.mem_cons] at hk
      rcases hk with rfl | hk
      · exact ⟨_, List.mem_cons_self, rfl, isChain_of he hf, by show j < j + (n + 1); omega⟩
      · obtain ⟨ρ, h1, h2, h3, h4⟩ := ih n k hk
        exact ⟨ρ, by simp [h1], h2, h3, by omega⟩

theorem rows_len {j : Nat} {l : List Item} {t : T} {s : AS} {rs : List Row} {ss : List AS} {t1 : T} {s1 : AS} (h : Rows E ops C j l t s rs ss t1 s1) : ss.length = (chainOf E l).length + 1 := by
  induction h with
  | nil j t s => rfl
  | @quiet j x l t s v rs ss t1 s1 he hv h ih => unfold chainOf; rw [not_chain_of (.inl he)]; exact ih
  | @float j x l t s s' v rs ss t1 s1 he hf hv hp h ih => unfold chainOf; rw [not_chain_of (.inr hf)]; exact ih
  | @chain j x l t s s' v rs ss t1 s1 he hf hv hp h ih => unfold chainOf; rw [isChain_of he hf]; simp [ih]

theorem recheck_all {o : Oper} {r : DRec} {ss : List AS} : ∀ {js : List Nat}, recheck E ops C o r ss js = true → ∀ n ∈ js, ∃ e, ss[n]? = some e ∧ retry E ops C o r e = true
  | [], _, n, h => by cases h
  | m :: js, h, n, hn => by
    unfold recheck at h
    cases he : ss[m]? with
    | none => simp [he] at h
    | some e =>
      simp only [he] at h
      cases hr : retry E ops C o r e with
      | false => simp [hr] at h
      | true =>
        simp only [hr] at h
        rcases List.mem_cons.1 hn with rfl | hn
        · exact ⟨e, he, hr⟩
        · exact recheck_all h n hn

/-- What is asked of an operation that is taken late. -/
def Again (E : Env) (ops : List Oper) (C : Calls) (ρ : Row) (e : AS) : Prop :=
  (¬ Lays ops ρ → stepV E ops ρ.x.o C ρ.r.t e = some (ρ.r.v, e)) ∧ (Lays ops ρ → ∃ ob, (opFn E ρ.x.o).run C ρ.r.t (e.at ρ.r.id) = some (ρ.r.v, (e.at ρ.r.id).new ob) ∧ e.get ρ.r.id = some ob)

theorem again_of_retry {ρ : Row} {e : AS} {s0 s1 : AS} (hc : isChain E ρ.x.o = false) (h0 : stepV E ops ρ.x.o C ρ.r.t s0 = some (ρ.r.v, s1)) (h : retry E ops C ρ.x.o ρ.r e = true) : Again E ops C ρ e := by
  unfold retry at h
  cases hw : wantsF (guardOf ops ρ.x.o) ρ.r.t with
  | false =>
    refine ⟨fun _ => ?_, fun hl => absurd hl.wanted (by rw [hw]; simp)⟩
    rw [stepV_wants, hw] at h0 ⊢
    have hu : undef = ρ.r.v := congrArg Prod.fst (Option.some.inj h0)
    rw [← hu]
  | true =>
    rw [hw] at h
    cases hf : isFloat ρ.x.o.op with
    | false =>
      rw [hf] at h
      have he : isEff (opFn E ρ.x.o) = false := by simpa [isChain, hf] using hc
      cases hr2 : (opFn E ρ.x.o).run C ρ.r.t e with
      | none => simp [hr2] at h
      | some us =>
        obtain ⟨u, e2⟩ := us
        simp only [hr2] at h
        have := sameV_eq 6 _ _ h
        subst this
        have := quiet_state he hr2
        subst this
        refine ⟨fun _ => ?_, fun hl => absurd hl.float (by rw [hf]; simp)⟩
        rw [stepV_wants, hw]
        exact hr2
    | true =>
      rw [hf] at h
      refine ⟨fun hn => absurd ⟨hf, hw⟩ hn, fun _ => ?_⟩
      cases hr2 : (opFn E ρ.x.o).run C ρ.r.t (e.at ρ.r.id) with
      | none =>
        have hr3 : (opFn E ρ.x.o).run C ρ.r.t ⟨e.next, e.heap, e.log, some ρ.r.id⟩ = none := hr2
        simp [hr3] at h
      | some us =>
        obtain ⟨u, e2⟩ := us
        have hr3 : (opFn E ρ.x.o).run C ρ.r.t ⟨e.next, e.heap, e.log, some ρ.r.id⟩ = some (u, e2) := hr2
        simp only [hr3, Bool.and_eq_true] at h
        have := sameV_eq 6 _ _ h.1
        subst this
        have hobj := sameObj_eq h.2
        obtain ⟨ob, rfl⟩ := float_new hf hr2
        refine ⟨ob, rfl, ?_⟩
        rw [← hobj, AS.get_new]
        exact if_pos rfl

/-! Operations that look at no state. -/
theorem plain_any {c : Bool} {x : Option Next} {s s' e : AS} {v : Value}
    (h : (if c = true then (match x with
      | some (.value v) => if flatV v = true then some (v, s) else none
      | _ => none) else none) = some (v, s')) :
    (if c = true then (match x with
      | some (.value v) => if flatV v = true then some (v, e) else none
      | _ => none) else none) = some (v, e) := by
  cases c with
  | false => cases h
  | true =>
    rw [if_pos rfl] at h ⊢
    match x, h with
    | some (.value u), h =>
      simp only at h ⊢
      cases hf : flatV u with
      | true => rw [hf, if_pos rfl] at h; cases h; rw [if_pos rfl]
      | false => rw [hf] at h; cases h
theorem here_any {x : Option Value} {s s' e : AS} {v : Value} (h : x.map (fun v => (v, s)) = some (v, s')) : x.map (fun v => (v, e)) = some (v, e) := by
  cases x with
  | none => cases h
  | some u => cases h; rfl

theorem aop_any {ρ : Operand → Value} {o : Oper} {s s' e : AS} {v : Value} (hp : pureOp o.op = true) (hc : ∀ a b x, o.op ≠ .convert a b x) (h : aop E ρ o s = some (v, s')) : aop E ρ o e = some (v, e) := by
  unfold aop at h ⊢
  obtain ⟨dst, op, type, pos, after, guard⟩ := o
  cases op <;> simp only [pureOp, Bool.false_eq_true] at hp <;> simp only at h ⊢
  case move x => cases h; rfl
  case assign x => cases h; rfl
  case pick c a b => split at h <;> cases h <;> rfl
  case build ty parts => exact here_any h
  case nilCheck x => split at h <;> cases h <;> rfl
  case unOp => exact plain_any h
  case binOp op xt x y ty =>
    cases op <;> simp only [reduceCtorEq, Bool.false_eq_true] at hp <;> simp only at h ⊢ <;> exact plain_any h
  case makeInterface xt x =>
    split at h
    · cases h
    · cases h
    · cases h; rfl
  case makeFunc fn first cap =>
    split at h
    · cases h; rfl
    · cases h
  case fieldAddr => exact here_any h
  case indexAddr => exact here_any h
  case field ty x f =>
    split at h
    · split at h
      · split at h
        · exact here_any h
        · cases h
      · cases h
    · cases h
  case index ty x ix =>
    split at h
    · split at h
      · split at h
        · split at h
          · rename_i hcnd
            rw [if_pos hcnd]
            exact here_any h
          · cases h
        · cases h
      · cases h
    · exact plain_any h
  case extract x i =>
    split at h
    · exact here_any h
    · cases h

theorem val_any {f : T → AS → Option Value} {t : T} {s s' e : AS} {v : Value} (hf : ∀ s e, f t s = f t e) (h : (OFn.val f).run C t s = some (v, s')) : (OFn.val f).run C t e = some (v, e) := by
  simp only [OFn.run] at h ⊢
  rw [hf e s]
  cases hq : f t s with
  | none => rw [hq] at h; cases h
  | some u => rw [hq] at h; cases h; rfl

theorem valOf_any {ρ : Operand → Value} {o : Oper} {s s' e : AS} {v : Value} (hp : pureOp o.op = true) (hc : ∀ a b x, o.op ≠ .convert a b x)
    (h : (match valOf (aop E ρ o s) with
      | some v => some (v, s)
      | none => none) = some (v, s')) : (match valOf (aop E ρ o e) with
      | some v => some (v, e)
      | none => none) = some (v, e) := by
  cases ha : aop E ρ o s with
  | none => rw [ha] at h; cases h
  | some r =>
    obtain ⟨u, s2⟩ := r
    rw [ha] at h
    cases h
    rw [aop_any hp hc ha]
    rfl

theorem pure_any {o : Oper} {t : T} {s s' e : AS} {v : Value} (he : isEff (opFn E o) = false) (hp : pureO E o.op = true) (h : (opFn E o).run C t s = some (v, s')) : (opFn E o).run C t e = some (v, e) := by
  by_cases hc : ∃ a b x, o.op = .convert a b x
  · obtain ⟨a, b, x, hc⟩ := hc
    unfold opFn at h he ⊢
    simp only [hc] at h he ⊢
    simp only [hc, pureO] at hp
    split at he
    · rename_i hq1 hq2
      simp only [hq1, hq2] at h ⊢
      exact val_any (fun _ _ => rfl) h
    · rename_i hq1 hq2
      rw [hq2] at hp
      cases hp
    · cases he
  · replace hp : pureOp o.op = true := by
      revert hp
      unfold pureO
      split
      · rename_i a b x hq
        exact absurd ⟨a, b, x, hq⟩ hc
      · exact id
    have hc' : ∀ a b x, o.op ≠ .convert a b x := fun a b x e => hc ⟨a, b, x, e⟩
    have hq := @valOf_any E (rho t) o s s' e v hp hc'
    obtain ⟨dst, op, type, pos, after, guard⟩ := o
    cases op <;> simp only [pureOp, Bool.false_eq_true] at hp
    case move x => cases x <;> (cases h; rfl)
    case assign x => cases x <;> (cases h; rfl)
    case pick => exact hq h
    case build => exact hq h
    case nilCheck => exact val_any (fun _ _ => rfl) h
    case unOp => exact hq h
    case makeInterface => exact hq h
    case makeFunc => exact hq h
    case fieldAddr => exact val_any (fun _ _ => rfl) h
    case indexAddr => exact val_any (fun _ _ => rfl) h
    case field => exact hq h
    case index => exact hq h
    case extract => exact val_any (fun _ _ => rfl) h
    case binOp op xt x y ty =>
      have hp : pureOp (Op.binOp op xt x y ty) = true := hp
      have key : ∀ (s e : AS), valOf (aop E (rho t) ⟨dst, .binOp op xt x y ty, type, pos, after, guard⟩ s) = valOf (aop E (rho t) ⟨dst, .binOp op xt x y ty, type, pos, after, guard⟩ e) := by
        intro s e
        cases ha : aop E (rho t) ⟨dst, .binOp op xt x y ty, type, pos, after, guard⟩ s with
        | none =>
          cases hb : aop E (rho t) ⟨dst, .binOp op xt x y ty, type, pos, after, guard⟩ e with
          | none => rfl
          | some r =>
            obtain ⟨u, s2⟩ := r
            rw [aop_any (e := s) hp hc' hb] at ha
            cases ha
        | some r =>
          obtain ⟨u, s2⟩ := r
          rw [aop_any (e := e) hp hc' ha]
          rfl
      unfold opFn at h ⊢
      cases hq1 : intFn op with
      | some f =>
        simp only [hq1] at h ⊢
        refine val_any (fun s e => ?_) h
        split
        · rfl
        · exact key s e
      | none =>
        simp only [hq1] at h ⊢
        exact val_any (fun s e => key s e) h

/-- A float, laid late. -/
theorem newRow_at {s e : AS} {ty : TypeId} {cells : List Value} {v : Value} {ob : AObj} (hp : s.pick = none) (h : newRow E s ty cells = some (v, s.new ob)) : newRow E (e.at s.next) ty cells = some (v, (e.at s.next).new ob) := by
  unfold newRow at h ⊢
  have hid : s.id = s.next := by unfold AS.id; rw [hp]
  split at h
  · rename_i hq
    try simp only [hq]
    simp only [Option.some.injEq, Prod.mk.injEq] at h
    obtain ⟨h1, h2⟩ := h
    have hob : AObj.row true ty cells 0 0 = ob := by
      have h3 := congrArg (fun z => AS.get z s.id) h2
      simp only [AS.get_new, if_pos] at h3
      exact Option.some.inj h3
    rw [← h1, ← hob, hid]
    rfl
  · cases h
theorem float_at {o : Oper} (hf : isFloat o.op = true) {t : T} {s e : AS} {v : Value} {ob : AObj} (hp : s.pick = none) (h : (opFn E o).run C t s = some (v, s.new ob)) : (opFn E o).run C t (e.at s.next) = some (v, (e.at s.next).new ob) := by
  have hid : s.id = s.next := by unfold AS.id; rw [hp]
  have hob : ∀ {ob' : AObj}, s.new ob' = s.new ob → ob' = ob := fun h2 => by
    have h3 := congrArg (fun z => AS.get z s.id) h2
    simp only [AS.get_new, if_pos] at h3
    exact Option.some.inj h3
  obtain ⟨dst, op, type, pos, after, guard⟩ := o
  cases op <;> simp only [isFloat, Bool.false_eq_true] at hf
  case alloc ty =>
    unfold opFn at h ⊢
    cases hz : E.zero ty with
    | none => simp [hz, OFn.run] at h
    | some z =>
      simp only [hz, OFn.run] at h ⊢
      exact newRow_at hp h
  case box ty x => exact newRow_at hp h
  case buildSlice ty len parts =>
    have h' : abuildSlice E s ty len (parts.toList.map fun p => (p.1, rho t p.2)) = some (v, s.new ob) := h
    show abuildSlice E (e.at s.next) ty len (parts.toList.map fun p => (p.1, rho t p.2)) = some (v, (e.at s.next).new ob)
    unfold abuildSlice at h' ⊢
    cases hd : E.und ty with
    | none => simp [hd] at h'
    | some d =>
      simp only [hd, Option.bind_eq_bind, Option.bind_some] at h' ⊢
      split at h'
      · rename_i elem
        cases hn : E.size elem with
        | none => simp [hn] at h'
        | some n =>
          simp only [hn, Option.bind_some] at h' ⊢
          cases hz : E.zero elem with
          | none => simp [hz] at h'
          | some z =>
            simp only [hz, Option.bind_some] at h' ⊢
            split at h'
            · cases h'
            · rename_i hcnd
              rw [if_neg hcnd]
              rw [Option.bind_eq_some_iff] at h'
              obtain ⟨cells, hcl, h'⟩ := h'
              simp only [Option.some.injEq, Prod.mk.injEq] at h'
              rw [hcl, Option.bind_some, ← h'.1, ← hob h'.2, hid]
              rfl
      · cases h'
  case makeSlice ty l c =>
    have h' : amakeSlice E s ty (rho t l) (rho t c) = some (v, s.new ob) := h
    show amakeSlice E (e.at s.next) ty (rho t l) (rho t c) = some (v, (e.at s.next).new ob)
    unfold amakeSlice at h' ⊢
    cases hd : E.und ty with
    | none => simp [hd] at h'
    | some d =>
      simp only [hd, Option.bind_eq_bind, Option.bind_some] at h' ⊢
      split at h'
      · rename_i elem n m hk2 hk3
        try simp only [hk2, hk3] at h' ⊢
        cases hn : E.size elem with
        | none => simp [hn] at h'
        | some sz =>
          simp only [hn, Option.bind_some] at h' ⊢
          cases hb : E.bytes elem with
          | none => simp [hb] at h'
          | some bs =>
            simp only [hb, Option.bind_some] at h' ⊢
            cases hz : E.zero elem with
            | none => simp [hz] at h'
            | some z =>
              simp only [hz, Option.bind_some] at h' ⊢
              split at h'
              · cases h'
              · rename_i hcnd
                rw [if_neg hcnd]
                simp only [Option.some.injEq, Prod.mk.injEq] at h'
                rw [← h'.1, ← hob h'.2, hid]
                rfl
      · cases h'

theorem rows_calm {j : Nat} {l : List Item} {t : T} {s : AS} {rs : List Row} {ss : List AS} {t1 : T} {s1 : AS} (h : Rows E ops C j l t s rs ss t1 s1) (hf : floatsAhead E l = false) : ss[0]? = some s := by
  induction h with
  | nil j t s => rfl
  | @quiet j x l t s v rs ss t1 s1 he hv h ih =>
    unfold floatsAhead at hf
    rw [not_chain_of (.inl he)] at hf
    simp only [Bool.or_eq_false_iff] at hf
    exact ih hf.2
  | @float j x l t s s' v rs ss t1 s1 he hfl hv hp h ih =>
    unfold floatsAhead at hf
    rw [not_chain_of (.inr hfl), hfl] at hf
    simp at hf
  | chain he hf hv hp h ih => rfl

/-- What is asked of the rows of a run. -/
def RcAll (E : Env) (ops : List Oper) (C : Calls) (SS : List AS) : List Row → List (List Nat) → Prop
  | [], [] => True
  | ρ :: rs, js :: is => (isChain E ρ.x.o = false → ∀ n ∈ js, ∃ e, SS[n]? = some e ∧ Again E ops C ρ e) ∧ RcAll E ops C SS rs is
  | _, _ => False
theorem rc_of_recheck {ks : List Item} {SS : List AS} {j : Nat} {l : List Item} {t : T} {s : AS} {rs : List Row} {ss : List AS} {t1 : T} {s1 : AS} (h : Rows E ops C j l t s rs ss t1 s1)
    (hc : recheckAll E ops C SS l (rs.map (·.r)) (infoGo E ks j l) = true) : RcAll E ops C SS rs (infoGo E ks j l) := by
  induction h with
  | nil j t s => trivial
  | @quiet j x l t s v rs ss t1 s1 he hv h ih =>
    unfold infoGo at hc ⊢
    have nc := not_chain_of (o := x.o) (.inl he)
    rw [nc] at hc ⊢
    simp only [List.map_cons, recheckAll] at hc
    split at hc
    · rename_i hr
      refine ⟨fun _ n hn => ?_, ih hc⟩
      obtain ⟨e, h1, h2⟩ := recheck_all hr n hn
      exact ⟨e, h1, again_of_retry (ρ := ⟨x, ⟨t, v, s.next⟩, s, j⟩) nc hv h2⟩
    · cases hc
  | @float j x l t s s' v rs ss t1 s1 he hf hv hp h ih =>
    unfold infoGo at hc ⊢
    have nc := not_chain_of (E := E) (o := x.o) (.inr hf)
    rw [nc] at hc ⊢
    simp only [List.map_cons, recheckAll] at hc
    split at hc
    · rename_i hr
      refine ⟨fun _ n hn => ?_, ih hc⟩
      obtain ⟨e, h1, h2⟩ := recheck_all hr n hn
      exact ⟨e, h1, again_of_retry (ρ := ⟨x, ⟨t, v, s.next⟩, s, j⟩) nc hv h2⟩
    · cases hc
  | @chain j x l t s s' v rs ss t1 s1 he hf hv hp h ih =>
    unfold infoGo at hc ⊢
    rw [isChain_of he hf] at hc ⊢
    simp only [List.map_cons, recheckAll] at hc
    split at hc
    · exact ⟨(fun _ n hn => by cases hn), ih hc⟩
    · cases hc

theorem rows_again {ks : List Item} {SS : List AS} {j : Nat} {l : List Item} {t : T} {s : AS} {rs : List Row} {ss : List AS} {t1 : T} {s1 : AS} (h : Rows E ops C j l t s rs ss t1 s1) (hs : s.pick = none)
    (hSS : ∀ n, SS[j + n]? = ss[n]?) (hc : RcAll E ops C SS rs (infoGo E ks j l)) :
    ∀ ρ ∈ rs, isChain E ρ.x.o = false → ∀ n, n ≤ ks.length → ρ.own ≤ n → (∀ k ∈ ks.take n, Nat.testBit k.m ρ.x.i = false) → ∀ e, SS[n]? = some e → Again E ops C ρ e := by
  have here : ∀ (ρ : Row) (l : List Item) (s' : AS), stepV E ops ρ.x.o C ρ.r.t ρ.s = some (ρ.r.v, s') →
      (∀ n ∈ (match !isEff (opFn E ρ.x.o) && pureO E ρ.x.o.op with
      | true => []
      | false => (List.range (ks.length + 1)).filter fun j' => Nat.ble ρ.own j' && ((Nat.blt ρ.own j' || (!isFloat ρ.x.o.op && floatsAhead E l)) && (ks.take j').all fun k => !Nat.testBit k.m ρ.x.i)), ∃ e, SS[n]? = some e ∧ Again E ops C ρ e) →
      isChain E ρ.x.o = false → (∀ e, SS[ρ.own]? = some e → (isFloat ρ.x.o.op = true ∨ floatsAhead E l = false) → Again E ops C ρ e) →
      ∀ n, n ≤ ks.length → ρ.own ≤ n → (∀ k ∈ ks.take n, Nat.testBit k.m ρ.x.i = false) → ∀ e, SS[n]? = some e → Again E ops C ρ e := by
    intro ρ l s' hv hrc hch hown n hn hj hk e he
    cases hpu : (!isEff (opFn E ρ.x.o) && pureO E ρ.x.o.op) with
    | true =>
      simp only [Bool.and_eq_true, Bool.not_eq_true'] at hpu
      have nl : ¬ Lays ops ρ := fun hl => by
        have h1 := hl.float
        have h2 := hpu.2
        revert h1 h2
        cases ρ.x.o.op <;> simp [isFloat, pureOp, pureO]
      refine ⟨fun _ => ?_, fun hl => absurd hl nl⟩
      rw [stepV_wants] at hv ⊢
      split at hv
      · exact pure_any hpu.1 hpu.2 hv
      · have hu : undef = ρ.r.v := congrArg Prod.fst (Option.some.inj hv)
        rw [← hu]
    | false =>
      rw [hpu] at hrc
      by_cases ho : Nat.blt ρ.own n = true ∨ (isFloat ρ.x.o.op = false ∧ floatsAhead E l = true)
      · obtain ⟨e', h1, h2⟩ := hrc n (List.mem_filter.2 ⟨List.mem_range.2 (by omega), by
          simp only [Bool.and_eq_true, List.all_eq_true, Bool.not_eq_true', Bool.or_eq_true]
          exact ⟨by simpa using hj, ho, hk⟩⟩)
        rw [he] at h1
        cases h1
        exact h2
      · simp only [not_or, Bool.not_eq_true] at ho
        have hno : n = ρ.own := by
          have : ¬ ρ.own < n := fun hlt => by
            have h1 : Nat.blt ρ.own n = true := by rw [Nat.blt_eq]; exact hlt
            rw [h1] at ho
            exact absurd ho.1 (by simp)
          omega
        subst hno
        refine hown e he ?_
        cases hf : isFloat ρ.x.o.op with
        | true => exact .inl rfl
        | false =>
          refine .inr ?_
          cases hfa : floatsAhead E l with
          | false => rfl
          | true => exact absurd ⟨hf, hfa⟩ ho.2
  induction h with
  | nil j t s => intro ρ h; cases h
  | @quiet j x l t s v rs ss t1 s1 he hv h ih =>
    unfold infoGo at hc
    rw [not_chain_of (.inl he)] at hc
    obtain ⟨hr, hc⟩ := hc
    · intro ρ hρ hn
      rcases List.mem_cons.1 hρ with rfl | hρ
      · refine here ⟨x, ⟨t, v, s.next⟩, s, j⟩ l s hv (hr hn) hn fun e hSe hfl => ?_
        have hnl : ¬ Lays ops ⟨x, ⟨t, v, s.next⟩, s, j⟩ := fun hl => by
          have hfo : isFloat x.o.op = true := hl.float
          have hw : wantsF (guardOf ops x.o) t = true := hl.wanted
          rw [stepV_wants, hw] at hv
          obtain ⟨ob, hob⟩ := float_new hfo hv
          have e3 := (AS.next_new s ob).2 hs
          rw [← hob] at e3
          omega
        refine ⟨fun _ => ?_, fun hl => absurd hl hnl⟩
        have h0 := hSS 0
        rw [Nat.add_zero] at h0
        have hSe' : SS[j]? = some e := hSe
        rcases hfl with hfl | hfl
        · -- a float that lays nothing
          have hfl' : isFloat x.o.op = true := hfl
          have hw : wantsF (guardOf ops x.o) t = false := by
            cases hw : wantsF (guardOf ops x.o) t with
            | false => rfl
            | true => exact absurd ⟨hfl', hw⟩ hnl
          show stepV E ops x.o C t e = some (v, e)
          rw [stepV_wants, hw] at hv ⊢
          have hu : undef = v := congrArg Prod.fst (Option.some.inj hv)
          rw [← hu]
        · have hcalm := rows_calm h hfl
          rw [hcalm, hSe'] at h0
          cases h0
          exact hv
      · exact ih hs hSS hc ρ hρ hn
  | @float j x l t s s' v rs ss t1 s1 he hf hv hp h ih =>
    unfold infoGo at hc
    rw [not_chain_of (.inr hf)] at hc
    obtain ⟨hr, hc⟩ := hc
    · intro ρ hρ hn
      rcases List.mem_cons.1 hρ with rfl | hρ
      · refine here ⟨x, ⟨t, v, s.next⟩, s, j⟩ l s' hv (hr hn) hn fun e hSe _ => ?_
        have h0 := hSS 0
        rw [Nat.add_zero] at h0
        have hSe' : SS[j]? = some e := hSe
        obtain ⟨⟨e', a1, a2, _⟩, _⟩ := rows_states h hp
        rw [a1, hSe'] at h0
        cases h0
        cases hw : wantsF (guardOf ops x.o) t with
        | false =>
          refine ⟨fun _ => ?_, fun hl => ?_⟩
          · show stepV E ops x.o C t e = some (v, e)
            rw [stepV_wants, hw] at hv ⊢
            have hu : undef = v := congrArg Prod.fst (Option.some.inj hv)
            rw [← hu]
          · have : wantsF (guardOf ops x.o) t = true := hl.wanted
            rw [hw] at this; cases this
        | true =>
          rw [stepV_wants, hw] at hv
          obtain ⟨ob, rfl⟩ := float_new hf hv
          refine ⟨fun hn => absurd (Lays.mk (ρ := ⟨x, ⟨t, v, s.next⟩, s, j⟩) hf hw) hn, fun _ => ⟨ob, float_at hf hs hv, ?_⟩⟩
          have hnx := (AS.next_new s ob).2 hs
          have hid : s.id = s.next := by unfold AS.id; rw [hs]
          show e.get s.next = some ob
          rw [a2.get s.next (by show s.next < (s.new ob).next; omega), AS.get_flat, AS.get_new, hid, if_pos rfl]
      · exact ih hp hSS hc ρ hρ hn
  | @chain j x l t s s' v rs ss t1 s1 he hf hv hp h ih =>
    unfold infoGo at hc
    rw [isChain_of he hf] at hc
    obtain ⟨_, hc⟩ := hc
    · intro ρ hρ hn
      rcases List.mem_cons.1 hρ with rfl | hρ
      · rw [isChain_of he hf] at hn; cases hn
      · refine ih hp (fun n => ?_) hc ρ hρ hn
        have := hSS (n + 1)
        rw [List.getElem?_cons_succ] at this
        rw [← this]
        congr 1
        omega
end rows
end Go.AE
