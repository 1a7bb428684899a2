import Derived.Test.YtgakphbkknfmdaaDoorAEG3
set_option linter.all false
set_option linter.unusedSimpArgs false
set_option linter.unusedVariables false
set_option autoImplicit false
namespace Go.AE
variable {P : Program}

/-! ### Functions -/
noncomputable def resG (E : Env) (g : Sl) (s : AS) : List ResultVar → (List Value → Prop) → Prop
  | [], k => k []
  | .tmp i :: r, k => resG E g s r fun l => k (g i :: l)
  | .cell p ty :: r, k => ofV (ldA E ty (g p) s) fun v => resG E g s r fun l => k (v :: l)
noncomputable def endK (E : Env) (rl : List ResultVar) (R : Value → AS → Prop) : Sl → AS → Prop := fun g s => resG E g s rl fun l => R (resultOf l) s
noncomputable def goA : Nat → List Value → Sl → Sl
  | _, [], g => g
  | i, v :: l, g => goA (i + 1) l (su g v i)
noncomputable def argsSl (l : List Value) : Sl := goA 0 l fun _ => undef

theorem su_at (d : Nat) (v : Value) (g : Sl) (j : Nat) : su g v d j = if j = d then v else g j := by
  unfold su
  by_cases e : j = d
  · subst e; rw [Nat.beq_refl, if_pos rfl]
  · have : Nat.beq j d = false := by rw [Bool.eq_false_iff]; exact fun h => e (Nat.eq_of_beq_eq_true h)
    rw [this, if_neg e]
theorem goA_at : ∀ (l : List Value) (i : Nat) (g : Sl) (j : Nat), goA i l g j = if i ≤ j ∧ j < i + l.length then l.getD (j - i) undef else g j
  | [], i, g, j => by
    have : ¬ (i ≤ j ∧ j < i + ([] : List Value).length) := by simp <;> omega
    rw [if_neg this]
    rfl
  | v :: l, i, g, j => by
    unfold goA
    rw [goA_at l (i + 1) _ j, su_at]
    by_cases e : j = i
    · subst e
      rw [if_neg (by omega), if_pos rfl, if_pos ⟨Nat.le_refl _, by simp⟩]
      simp
    · by_cases h : i + 1 ≤ j ∧ j < i + 1 + l.length
      · rw [if_pos h, if_pos ⟨by omega, by simp; omega⟩]
        obtain ⟨k, rfl⟩ : ∃ k, j = i + 1 + k := ⟨j - (i + 1), by omega⟩
        rw [show i + 1 + k - (i + 1) = k by omega, show i + 1 + k - i = k + 1 by omega]
        simp
      · rw [if_neg h, if_neg e, if_neg (by simp; omega)]
theorem argsSl_at (l : List Value) (j : Nat) : argsSl l j = l.getD j undef := by
  unfold argsSl
  rw [goA_at]
  split
  · simp
  · rename_i h
    rw [List.getD_eq_getElem?_getD, List.getElem?_eq_none (by omega)]
    rfl
theorem argsSl_rel {ι : Iota} {args : List Value} {args' : Array Value} {n : Nat} (h : LRel ι args args'.toList) : SlRel ι (argsSl args) (args' ++ Array.replicate n undef) := by
  have ht := enter_rel (n := n) h
  refine .of ht fun d hd => ?_
  rw [at_putArgs, argsSl_at]
  simp only [Nat.zero_le, true_and, Nat.zero_add, Nat.sub_zero]
  split
  · rfl
  · rename_i hlt
    rw [T.at_leaf, List.getD_eq_getElem?_getD, List.getElem?_eq_none (by omega)]
    rfl

theorem res_of {E : Env} {N : Nat} {t : T} {g : Sl} {s : AS} (h : TG N t g) : ∀ (rl : List ResultVar) {k : List Value → Prop}, rl.all (okResult N) = true → resG E g s rl k → ∃ l, resultsF E t s rl = some l ∧ k l
  | [], k, _, hk => ⟨[], rfl, hk⟩
  | .tmp i :: r, k, hok, hk => by
    simp only [List.all_cons, Bool.and_eq_true, okResult, Nat.blt_eq] at hok
    obtain ⟨l, h1, h2⟩ := res_of h r hok.2 hk
    refine ⟨g i :: l, ?_, h2⟩
    unfold resultsF
    rw [h1, h i hok.1]
  | .cell p ty :: r, k, hok, hk => by
    simp only [List.all_cons, Bool.and_eq_true, okResult, Nat.blt_eq] at hok
    unfold resG at hk
    cases hl : ldA E ty (g p) s with
    | none => rw [hl] at hk; exact hk.elim
    | some v =>
      rw [hl] at hk
      obtain ⟨l, h1, h2⟩ := res_of h r hok.2 hk
      refine ⟨v :: l, ?_, h2⟩
      unfold resultsF
      rw [h p hok.1]
      unfold ldA at hl
      split at hl
      · rename_i a ha
        rw [ha]
        simp only [hl, h1]
      · cases hl

structure WpF (E : Env) (C : Calls) (f : FuncId) (args : List Value) (R : Value → AS → Prop) (s : AS) : Prop where
  mk' ::
  run : ∃ fn c, E.fn f = some fn ∧ fn.body = some c ∧ (okCode E fn.ntmps c && Nat.ble args.length fn.ntmps && fn.results.toList.all (okResult fn.ntmps)) = true ∧ wpG E C c (endK E fn.results.toList R) (fun _ _ _ => False) (endK E fn.results.toList R) (argsSl args) s

theorem wpF_mk {E : Env} {C : Calls} {f : FuncId} {args : List Value} {R : Value → AS → Prop} {s : AS} {fn : Func} {c : Code} {p : Prop} (hf : E.fn f = some fn) (hb : fn.body = some c)
    (hk : (okCode E fn.ntmps c && Nat.ble args.length fn.ntmps && fn.results.toList.all (okResult fn.ntmps)) = true) (he : wpG E C c (endK E fn.results.toList R) (fun _ _ _ => False) (endK E fn.results.toList R) (argsSl args) s = p) (hp : p) : WpF E C f args R s :=
  ⟨⟨fn, c, hf, hb, hk, by rw [he]; exact hp⟩⟩
/-- What a call comes back with. -/
def Back (P : Program) (ok : Nat → Code → Bool) (G : Nat) (ι : Iota) (W : World) (R : Value → AS → Prop) : Ending → World → Prop := fun e W' =>
  ∃ v v' s' ι', e = .returned v' ∧ Post P ok G ι W ι' s' W' ∧ VRel ι' v v' ∧ R v s'

theorem wpF_sound {E : Env} (hE : E.Ok P) (hF : FnOk E P) {C : Calls} (hC : CallsOk P (okOf E) E.glob C) {f : FuncId} {args : List Value} {R : Value → AS → Prop} {s : AS} {ι : Iota} {W : World} {args' : Array Value} (h : WpF E C f args R s)
    (hr : Rel P (okOf E) E.glob ι s W) (ha : LRel ι args args'.toList) :
    (callFunc f args').run P W = .ok (.enter f args') W ∧ CallsIn Fence.wide 0 P f args' W (Back P (okOf E) E.glob ι W R) := by
  obtain ⟨fn, c, hf, hb, hk, hw⟩ := h.run
  obtain ⟨hpf, hent⟩ := hF.fn f fn c hf hb
  refine ⟨hent _ _, ?_⟩
  simp only [Bool.and_eq_true] at hk
  obtain ⟨⟨hk1, hk2⟩, hk3⟩ := hk
  have hlen : args.length = args'.size := by simpa using ha.1
  have hle : args'.size ≤ fn.ntmps := hlen ▸ Nat.le_of_ble_eq_true hk2
  have hsz : (args' ++ Array.replicate (fn.ntmps - args'.size) undef).size = fn.ntmps := by simp <;> omega
  refine callsIn_of_wp hpf hb trivial ?_
  have hw' := wpG_sound hE hF.mixed hC c (r := none) (a := { tmps := args' ++ Array.replicate (fn.ntmps - args'.size) undef, defers := [] }) hw (by rw [hsz]; exact hk1) hr (argsSl_rel ha)
  refine wpIn_mono hw' fun e a' W' ⟨ax, g', s', ι', h1, h2, h3, h4, h5, h6⟩ => ?_
  have h4' : a'.tmps.size = fn.ntmps := h4.trans hsz
  have fin : resG E g' s' fn.results.toList (fun l => R (resultOf l) s') → a'.defers = [] ∧ ∃ v, (results fn a'.tmps).run P W' = .ok v W' ∧ Back P (okOf E) E.glob ι W R (.returned v) W' := by
    intro hres
    obtain ⟨l, q1, q2⟩ := res_of (treeOf_at g' a'.tmps.size) fn.results.toList (by rw [h4']; exact hk3) hres
    obtain ⟨v', p1, p2⟩ := results_run hE h2.rel h3.tree q1 (by rw [h4']; exact hk3)
    exact ⟨h5, v', p1, _, v', s', ι', rfl, h2, p2, q2⟩
  subst h1
  cases ax with
  | normal => exact fin h6
  | ret => exact fin h6
  | exit i => exact h6.elim

/-! ### Tables of contracts -/
def Calls.put (C : Calls) (f : FuncId) (p : List Value → AS → Option (Value × AS)) : Calls :=
  { C with call := fun g args s => match Nat.beq g f with
    | true => p args s
    | false => C.call g args s }

/-- What came back may be told shorter. -/
def Tells (P : Program) (ok : Nat → Code → Bool) (G : Nat) (s : AS) (v1 : Value) (s1 : AS) (v : Value) (s' : AS) : Prop :=
  ∀ (ι : Iota) (W : World) (ι1 : Iota) (W1 : World) (v' : Value), Rel P ok G ι s W → Post P ok G ι W ι1 s1 W1 → VRel ι1 v1 v' → ∃ ι', Post P ok G ι W ι' s' W1 ∧ VRel ι' v v'

theorem Tells.refl {ok : Nat → Code → Bool} {G : Nat} {s : AS} {v : Value} {s' : AS} : Tells P ok G s v s' v s' := fun ι W ι1 W1 v' _ hp hv => ⟨ι1, hp, hv⟩

theorem put_ok {E : Env} (hE : E.Ok P) (hF : FnOk E P) {C : Calls} (hC : CallsOk P (okOf E) E.glob C) {f : FuncId} {p : List Value → AS → Option (Value × AS)}
    (h : ∀ args s v s', p args s = some (v, s') → s.pick = none → WpF E C f args (fun v1 s1 => Tells P (okOf E) E.glob s v1 s1 v s') s) (hpk : ∀ args s v s', p args s = some (v, s') → s.pick = none) : CallsOk P (okOf E) E.glob (C.put f p) := by
  refine ⟨fun {g args s v s' ι W args'} hc hr ha => ?_, fun hc hr hl ha => hC.yield hc hr hl ha⟩
  change (match Nat.beq g f with
    | true => p args s
    | false => C.call g args s) = _ at hc
  cases hb : Nat.beq g f with
  | false => rw [hb] at hc; exact hC.call hc hr ha
  | true =>
    rw [hb] at hc
    have := Nat.eq_of_beq_eq_true hb
    subst this
    obtain ⟨h1, h2⟩ := wpF_sound hE hF hC (h args s v s' hc (hpk args s v s' hc)) hr ha
    refine .inl ⟨h1, CallsIn.mono h2 fun e W' ⟨v1, v', s1, ι1, e1, e2, e3, e4⟩ => ?_⟩
    obtain ⟨ι', p1, p2⟩ := e4 ι W ι1 W' v' hr e2 e3
    exact ⟨v', ι', e1, p1, p2⟩

/-! What was laid on the way is forgotten. -/
/-- Numbers that were not known before are not known behind. -/
def cutI (ι ι1 : Iota) : Iota := fun k => match ι k with
  | .free => .free
  | _ => ι1 k
theorem cutI_at {ι ι1 : Iota} {k : Nat} (h : ι k ≠ .free) : cutI ι ι1 k = ι1 k := by
  unfold cutI
  cases hk : ι k <;> first | rfl | exact absurd hk h
theorem cutI_free {ι ι1 : Iota} {k : Nat} (h : ι k = .free) : cutI ι ι1 k = .free := by unfold cutI; rw [h]

/-- A value that was known before the call, as it is known behind it, without what is new. -/
theorem vrel_cut {ι ι1 : Iota} : ∀ {v v' : Value}, VRel ι v v' → ∀ {v'' : Value}, VRel ι1 v v'' → VRel (cutI ι ι1) v v'' := by
  intro v v' h
  induction h with
  | bool b => intro v'' h; cases h; exact .bool b
  | int k n => intro v'' h; cases h; exact .int k n
  | float k b => intro v'' h; cases h; exact .float k b
  | complex k a b => intro v'' h; cases h; exact .complex k a b
  | string s => intro v'' h; cases h; exact .string s
  | ptrNil => intro v'' h; cases h; exact .ptrNil
  | ptr p =>
    intro v'' h
    cases h with
    | ptr q =>
      refine .ptr ⟨q.1, ?_⟩
      rw [cutI_at (by rcases p.2 with h | ⟨l, h, _⟩ <;> rw [h] <;> simp)]
      exact q.2
  | sliceNil n c => intro v'' h; cases h; exact .sliceNil n c
  | slice p =>
    intro v'' h
    cases h with
    | slice q =>
      refine .slice ⟨q.1, q.2.1, ?_⟩
      rw [cutI_at (by rcases p.2.2 with h | ⟨l, h, _⟩ <;> rw [h] <;> simp)]
      exact q.2.2
  | mapNil => intro v'' h; cases h; exact .mapNil
  | map hl hr e =>
    intro v'' h
    cases h with
    | map hl' hr' e' => exact .map (by rw [cutI_at (by rw [hl]; simp)]; exact hl') hr' e'
  | chanNil => intro v'' h; cases h; exact .chanNil
  | func hf ha _ hb _ ia ib =>
    intro v'' h
    cases h with
    | func hf' ha' ia' hb' ib' =>
      refine .func ?_ ha' (fun i hi => ia i hi (ia' i hi)) hb' (fun i hi => ib i hi (ib' i hi))
      cases hf with
      | same f => cases hf' with | same => exact .same f
      | yield hl hr e => cases hf' with
        | yield hl' hr' e' => exact .yield (by rw [cutI_at (by rw [hl]; simp)]; exact hl') hr' e'
  | nilFunc => intro v'' h; cases h; exact .nilFunc
  | iface t _ ih => intro v'' h; cases h with | iface _ h' => exact .iface t (ih h')
  | nilIface => intro v'' h; cases h; exact .nilIface
  | agg ha _ ia => intro v'' h; cases h with | agg ha' ia' => exact .agg ha' fun i hi => ia i hi (ia' i hi)
  | tuple ha _ ia => intro v'' h; cases h with | tuple ha' ia' => exact .tuple ha' fun i hi => ia i hi (ia' i hi)

theorem vrel_flat_cut {ι ι' : Iota} {v v' : Value} (h : VRel ι v v') (hf : flatV v = true) : VRel ι' v v' := by
  rw [h.flat hf]
  exact .ofFlat _ v hf

/-- Objects that the short telling can bear: no loop's record. -/
def calmO : AObj → Prop
  | .loop _ _ _ _ _ _ _ => False
  | _ => True
/-- Rows without addresses. -/
def flatO : AObj → Prop
  | .row _ _ cells _ _ => flatV.flatL cells = true
  | _ => False

theorem orel_cut {ok : Nat → Code → Bool} {ι ι1 : Iota} {l l1 : Loc} {o : AObj} (hcalm : calmO o) {W W1 : World} (h : ORel P ok ι l o W) (h1 : ORel P ok ι1 l1 o W1) : ORel P ok (cutI ι ι1) l1 o W1 := by
  match o, hcalm, h, h1 with
  | .row true e cells lo hi, _, ⟨_, _, _, _, _, _, c0, _, _, _, _, k9⟩, ⟨h1, h2, h3, h4, h5, h6, c', fr, hc, h7, h8, h9⟩ =>
    exact ⟨h1, h2, h3, h4, h5, h6, c', fr, hc, h7, h8, fun i hi => vrel_cut (k9 i hi) (h9 i hi)⟩
  | .row false e cells lo hi, _, ⟨_, _, _, _, _, _, k7⟩, ⟨h1, h2, h3, h4, h5, h6, h7⟩ =>
    refine ⟨h1, h2, h3, h4, h5, h6, fun i hi => ?_⟩
    obtain ⟨v0, _, r0⟩ := k7 i hi
    obtain ⟨v', hv, hr⟩ := h7 i hi
    exact ⟨v', hv, vrel_cut r0 hr⟩
  | .map es clock, _, ⟨_, _, _, es0, _, k4, k5⟩, ⟨h1, h2, h3, es', hc, h4, h5⟩ =>
    refine ⟨h1, h2, h3, es', hc, h4, fun i e he => ?_⟩
    obtain ⟨e0, _, _, _, r0⟩ := k5 i e he
    obtain ⟨e', h6, h7, h8, h9⟩ := h5 i e he
    exact ⟨e', h6, h7, h8, vrel_cut r0 h9⟩
  | .iter x pos, _, _, h1 => exact h1
  | .deferred _, _, _, h1 => exact h1
theorem orel_flat {ok : Nat → Code → Bool} {ι ι1 : Iota} {l : Loc} {o : AObj} (hf : flatO o) {W : World} (h1 : ORel P ok ι1 l o W) : ORel P ok ι l o W := by
  match o, hf, h1 with
  | .row true e cells lo hi, hf, ⟨h1, h2, h3, h4, h5, h6, c', fr, hc, h7, h8, h9⟩ =>
    exact ⟨h1, h2, h3, h4, h5, h6, c', fr, hc, h7, h8, fun i hi => vrel_flat_cut (h9 i hi) ((flatL_iff cells).1 hf i hi)⟩
  | .row false e cells lo hi, hf, ⟨h1, h2, h3, h4, h5, h6, h7⟩ =>
    refine ⟨h1, h2, h3, h4, h5, h6, fun i hi => ?_⟩
    obtain ⟨v', hv, hr⟩ := h7 i hi
    exact ⟨v', hv, vrel_flat_cut hr ((flatL_iff cells).1 hf i hi)⟩

/-- A state in which no loop over a function is under way. -/
def AS.calm (s : AS) : Prop := ∀ k o, s.get k = some o → calmO o

theorem rel_cut {ok : Nat → Code → Bool} {G : Nat} {s s1 s' : AS} (hc : s.calm) (hn : s'.next = s.next) (hp : s'.pick = none) (hg : ∀ k, k < s.next → s'.get k = s1.get k) (ho : ∀ k o, k < s.next → s1.get k = some o → s.get k = some o ∨ flatO o) {ι ι1 : Iota} {W W1 : World}
    (hr : Rel P ok G ι s W) (h : Post P ok G ι W ι1 s1 W1) : Post P ok G ι W (cutI ι ι1) s' W1 := by
  have lt : ∀ {k : Nat}, ι k ≠ .free → k < s.next := fun {k} h => Nat.lt_of_not_le fun hle => h (hr.next k hle)
  have old : ∀ k x, cutI ι ι1 k = x → x ≠ .free → ι k ≠ .free ∧ ι1 k = x := fun k x hk hx => by
    by_cases e : ι k = .free
    · rw [cutI_free e] at hk; exact absurd hk.symm hx
    · rw [cutI_at e] at hk; exact ⟨e, hk⟩
  refine ⟨fun k => ?_, ⟨?_, ?_, ?_, ?_, ?_, ?_, ?_⟩, h.frame, h.grow, h.os, h.tape, h.output, ?_⟩
  · have := h.le k
    cases hk : ι k with
    | free => trivial
    | kept => rw [hk] at this; simp only at this ⊢; rw [cutI_at (by rw [hk]; simp)]; exact this
    | dead => rw [hk] at this; simp only at this ⊢; rw [cutI_at (by rw [hk]; simp)]; exact this
    | live l => rw [hk] at this; simp only at this ⊢; rw [cutI_at (by rw [hk]; simp)]; exact this
  · intro k hk
    exact cutI_free (hr.next k (by omega))
  · intro k hk
    rw [hp] at hk
    cases hk
  · intro k l hk
    obtain ⟨e1, e2⟩ := old k _ hk (by simp)
    have hlt := lt e1
    obtain ⟨o, q1, q2⟩ := h.rel.live k l e2
    refine ⟨o, (hg k hlt).trans q1, ?_⟩
    rcases ho k o hlt q1 with hs | hf
    · have hle := h.le k
      cases hk0 : ι k with
      | free => exact absurd hk0 e1
      | kept => rw [hk0] at hle; simp only at hle; rw [hle] at e2; cases e2
      | dead => rw [hk0] at hle; simp only at hle; rw [hle] at e2; cases e2
      | live l0 =>
        obtain ⟨o0, p1, p2⟩ := hr.live k l0 hk0
        rw [hs] at p1
        cases p1
        exact orel_cut (hc k o hs) p2 q2
    · exact orel_flat hf q2
  · intro k hk
    obtain ⟨e1, e2⟩ := old k _ hk (by simp)
    rw [hg k (lt e1)]
    exact h.rel.dead k e2
  · intro k k' l l' hk hk' ho' hb
    exact h.rel.inj k k' l l' (old k _ hk (by simp)).2 (old k' _ hk' (by simp)).2 ho' hb
  · intro g hgl
    have e : ι g ≠ .free := by rcases hr.glob g hgl with h | ⟨l, h, _⟩ <;> rw [h] <;> simp
    rw [cutI_at e]
    exact h.rel.glob g hgl
  · rw [hn]; exact hr.gnext
  · intro k l hk ho'
    exact h.own k l (old k _ hk (by simp)).2 ho'

/-- A call that only reckons. -/
theorem tells_same {ok : Nat → Code → Bool} {G : Nat} {s s1 : AS} {v : Value} (hc : s.calm) (hp : s.pick = none) (hg : ∀ k, k < s.next → s1.get k = s.get k) (hv : flatV v = true) : Tells P ok G s v s1 v s :=
  fun ι W ι1 W1 v' hr h hv' => ⟨cutI ι ι1, rel_cut hc rfl hp (fun k hk => (hg k hk).symm) (fun k o hk ho => .inl (by rw [← hg k hk]; exact ho)) hr h, vrel_flat_cut hv' hv⟩

/-- A call that comes back with a new row of numbers or texts. -/
theorem tells_row {ok : Nat → Code → Bool} {G : Nat} {s s1 : AS} {k n c : Nat} {e : TypeId} {cells : List Value} {lo hi : Nat} (hc : s.calm) (hp : s.pick = none) (hg : ∀ k, k < s.next → s1.get k = s.get k) (hk : s.next ≤ k) (ho : s1.get k = some (.row true e cells lo hi)) (hf : flatV.flatL cells = true) :
    Tells P ok G s (.slice (some ⟨k, 0, none⟩) n c) s1 (.slice (some ⟨s.next, 0, none⟩) n c) (s.new (.row true e cells lo hi)) := by
  intro ι W ι1 W1 v' hr h hv'
  have hcut := rel_cut (s' := s) hc rfl hp (fun k hk => (hg k hk).symm) (fun k o hk ho => .inl (by rw [← hg k hk]; exact ho)) hr h
  have hid : s.id = s.next := by unfold AS.id; rw [hp]
  have hnx : (s.new (.row true e cells lo hi)).next = s.next + 1 := (AS.next_new s _).2 hp
  cases hv' with
  | @slice _ a' _ _ c' q =>
  rcases q.2.2 with hd | ⟨l, hl, q1, q2, q3⟩
  · rw [h.rel.dead k hd] at ho; cases ho
  obtain ⟨o, p1, p2⟩ := h.rel.live k l hl
  rw [ho] at p1
  cases p1
  have hfree : cutI ι ι1 s.next = .free := cutI_free (hr.next _ (Nat.le_refl _))
  have hle : Le (cutI ι ι1) (upd (cutI ι ι1) s.next (.live l)) := .upd_free _ hfree
  have hblk : ∀ j l0, cutI ι ι1 j = .live l0 → l0.own = true → l0.block ≠ l.block := fun j l0 hj ho0 hb => by
    have e : ι j ≠ .free := fun e => by rw [cutI_free e] at hj; cases hj
    rw [cutI_at e] at hj
    have := h.rel.inj j k l0 l hj hl ho0 hb
    have hlt : j < s.next := Nat.lt_of_not_le fun hle => e (hr.next j hle)
    omega
  refine ⟨upd (cutI ι ι1) s.next (.live l), ⟨hcut.le.trans hle, ⟨?_, ?_, ?_, ?_, ?_, ?_, ?_⟩, h.frame, h.grow, h.os, h.tape, h.output, ?_⟩, .slice ⟨rfl, q.2.1, .inr ⟨l, upd_same _ _ _, q1, q2, q3⟩⟩⟩
  · intro j hj
    rw [hnx] at hj
    rw [upd_other _ (by omega)]
    exact hcut.rel.next j (by omega)
  · intro j hj
    rw [AS.pick_new] at hj
    cases hj
  · intro j l0 hj
    by_cases e : j = s.next
    · subst e
      rw [upd_same] at hj
      cases hj
      exact ⟨_, by rw [AS.get_new, hid, if_pos rfl], orel_flat (o := .row true _ _ _ _) hf p2⟩
    · rw [upd_other _ e] at hj
      obtain ⟨o1, r1, r2⟩ := hcut.rel.live j l0 hj
      exact ⟨o1, by rw [AS.get_new, hid, if_neg e]; exact r1, r2.mono hle rfl⟩
  · intro j hj
    by_cases e : j = s.next
    · subst e; rw [upd_same] at hj; cases hj
    · rw [upd_other _ e] at hj
      rw [AS.get_new, hid, if_neg e]
      exact hcut.rel.dead j hj
  · intro j j' l0 l0' hj hj' ho0 hb
    by_cases e : j = s.next <;> by_cases e' : j' = s.next
    · omega
    · subst e
      rw [upd_same] at hj
      cases hj
      rw [upd_other _ e'] at hj'
      -- the new row is the call's own: no elder place lies in it
      have e2 : ι j' ≠ .free := fun e2 => by rw [cutI_free e2] at hj'; cases hj'
      rw [cutI_at e2] at hj'
      have := h.rel.inj k j' l l0' hl hj' ho0 hb
      have hlt : j' < s.next := Nat.lt_of_not_le fun hle => e2 (hr.next j' hle)
      omega
    · subst e'
      rw [upd_same] at hj'
      cases hj'
      rw [upd_other _ e] at hj
      exact absurd hb (hblk j l0 hj ho0)
    · rw [upd_other _ e] at hj
      rw [upd_other _ e'] at hj'
      exact hcut.rel.inj j j' l0 l0' hj hj' ho0 hb
  · intro g hgl
    have : g ≠ s.next := by have := hr.gnext; omega
    rw [upd_other _ this]
    exact hcut.rel.glob g hgl
  · have := hr.gnext; omega
  · intro j l0 hj ho0
    by_cases e : j = s.next
    · subst e
      rw [upd_same] at hj
      cases hj
      exact h.own k l hl ho0
    · rw [upd_other _ e] at hj
      exact hcut.own j l0 hj ho0
end Go.AE
