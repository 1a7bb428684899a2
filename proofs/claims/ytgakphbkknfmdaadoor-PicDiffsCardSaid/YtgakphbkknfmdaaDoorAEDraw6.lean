import Derived.Test.YtgakphbkknfmdaaDoorAEDraw5
set_option linter.all false
set_option linter.unusedSimpArgs false
set_option linter.unusedVariables false
set_option autoImplicit false
namespace Go.AE
variable {P : Program} {ok : Nat → Code → Bool} {G : Nat}

/-- What is known of the canonical run. -/
structure Facts (E : Env) (ops : Array Oper) (C : Calls) (t : T) (R : List Row) (SS : List AS) (t1 : T) (s1 : AS) : Prop where
  back : backAll 0 ops.toList = true
  cover : ∀ p, p < ops.size → ∃ ρ ∈ R, ρ.x.i = p
  item : ∀ ρ ∈ R, ops[ρ.x.i]? = some ρ.x.o ∧ ρ.x.m = (masks ops.toList).getD ρ.x.i 0
  pw : R.Pairwise fun ρ σ => PairOk E ops.toList ρ.x σ.x
  slots : ∀ pre ρ post, R = pre ++ ρ :: post → ρ.r.t = slotsOf t pre
  last : t1 = slotsOf t R
  own : R.Pairwise fun ρ σ => ρ.own ≤ σ.own ∧ (isChain E ρ.x.o = true → ρ.own < σ.own)
  before : ∀ pre ρ post, R = pre ++ ρ :: post → 0 < ρ.own → ∃ σ ∈ pre, isChain E σ.x.o = true ∧ σ.own + 1 = ρ.own
  run : ∀ ρ ∈ R, ∃ s', stepV E ops.toList ρ.x.o C ρ.r.t ρ.s = some (ρ.r.v, s') ∧
      (isChain E ρ.x.o = true → s'.pick = none ∧ SS[ρ.own]? = some ρ.s ∧ ∃ e, SS[ρ.own + 1]? = some e ∧ Ext s' e ∧ ∀ σ ∈ R, Lays ops.toList σ → σ.own = ρ.own + 1 → s'.next ≤ σ.r.id ∧ σ.r.id < e.next)
  ids : R.Pairwise fun ρ σ => ρ.own = σ.own → Lays ops.toList ρ → Lays ops.toList σ → ρ.r.id ≠ σ.r.id
  states : ∃ c, SS.length = c + 1 ∧ SS[c]? = some s1 ∧ ∀ n, n < c → ∃ ρ ∈ R, isChain E ρ.x.o = true ∧ ρ.own = n
  retry : ∀ ρ ∈ R, isChain E ρ.x.o = false → ∀ n e, SS[n]? = some e → ρ.own ≤ n → (∀ σ ∈ R, isChain E σ.x.o = true → σ.own < n → Nat.testBit σ.x.m ρ.x.i = false) → Again E ops.toList C ρ e

theorem pw_cases {α : Type} {R : α → α → Prop} : ∀ {l : List α}, l.Pairwise R → ∀ {x y : α}, x ∈ l → y ∈ l → x = y ∨ R x y ∨ R y x
  | [], _, _, _, h, _ => by cases h
  | z :: l, hp, x, y, hx, hy => by
    rw [List.pairwise_cons] at hp
    rcases List.mem_cons.1 hx with rfl | hx' <;> rcases List.mem_cons.1 hy with rfl | hy'
    · exact .inl rfl
    · exact .inr (.inl (hp.1 y hy'))
    · exact .inr (.inr (hp.1 x hx'))
    · exact pw_cases hp.2 hx' hy'

section
variable {E : Env} {ops : Array Oper} {C : Calls} {t : T} {R : List Row} {SS : List AS} {t1 : T} {s1 : AS}

theorem Facts.uniq (F : Facts E ops C t R SS t1 s1) {ρ σ : Row} (hρ : ρ ∈ R) (hσ : σ ∈ R) (h : ρ.x.i = σ.x.i) : ρ = σ := by
  rcases pw_cases F.pw hρ hσ with h1 | h1 | h1
  · exact h1
  · exact absurd h h1.ne
  · exact absurd h.symm h1.ne
theorem Facts.dsts (F : Facts E ops C t R SS t1 s1) {ρ σ : Row} (hρ : ρ ∈ R) (hσ : σ ∈ R) {d : Tmp} (h : ρ.x.o.dst = some d) (h' : σ.x.o.dst = some d) : ρ = σ := by
  rcases pw_cases F.pw hρ hσ with h1 | h1 | h1
  · exact h1
  · exact absurd h' (h1.dst d h)
  · exact absurd h (h1.dst d h')

def Lst (listed : Array Bool) (p : Nat) : Prop := listed.getD p false = true

structure Inv (P : Program) (ok : Nat → Code → Bool) (G : Nat) (E : Env) (ops : Array Oper) (t : T) (R : List Row) (SS : List AS) (N : Nat) (df : List Deferred) (ι0 : Iota) (W0 : World) (listed : Array Bool) (j : Nat) (ι : Iota) (a : Act) (W : World) : Prop where
  size : listed.size = ops.size
  closed : ∀ p, Lst listed p → ∀ o, ops[p]? = some o → ∀ e ∈ o.after, Region.binds .any e = true → Lst listed e.on
  chains : ∀ ρ ∈ R, isChain E ρ.x.o = true → (Lst listed ρ.x.i ↔ ρ.own < j)
  st : ∃ e, SS[j]? = some e ∧ Post P ok G ι0 W0 ι e W ∧ e.pick = none
  kept : ∀ ρ ∈ R, Lays ops.toList ρ → ¬ Lst listed ρ.x.i → ρ.own ≤ j → ι ρ.r.id = .kept ∧ ι0 ρ.r.id = .free ∧ G ≤ ρ.r.id
  inj : ∀ ρ ∈ R, ∀ σ ∈ R, Lays ops.toList ρ → Lays ops.toList σ → ¬ Lst listed ρ.x.i → ¬ Lst listed σ.x.i → ρ.own ≤ j → σ.own ≤ j → ρ.r.id = σ.r.id → ρ = σ
  slots1 : ∀ ρ ∈ R, Lst listed ρ.x.i → ∀ d, ρ.x.o.dst = some d → VRel ι ρ.r.v (a.tmps.getD d undef)
  slots2 : ∀ d, d < a.tmps.size → (∀ ρ ∈ R, Lst listed ρ.x.i → ρ.x.o.dst ≠ some d) → VRel ι (T.at t (bits d)) (a.tmps.getD d undef)
  sz : a.tmps.size = N
  df : a.defers = df

theorem lst_set {listed : Array Bool} {i : Nat} (hi : i < listed.size) (p : Nat) : Lst (listed.setIfInBounds i true) p ↔ p = i ∨ Lst listed p := by
  unfold Lst
  by_cases e : i = p
  · subst e; simp [hi]
  · rw [getD_set_ne false e]
    simp [Ne.symm e]

theorem getD_putD {a : Act} {o : Oper} {v : Value} {d : Tmp} (hd : d < a.tmps.size) : (a.put o.dst v).tmps.getD d undef = if o.dst = some d then v else a.tmps.getD d undef := by
  unfold Act.put
  cases o.dst with
  | none => simp
  | some d' =>
    simp only [Option.some.injEq]
    by_cases e : d' = d
    · subst e; simp [Array.getD, hd]
    · rw [if_neg e]
      simp [Array.getD, hd, Array.getElem_setIfInBounds, e]

/-- The slots behind one operation more. -/
theorem Inv.slots (F : Facts E ops C t R SS t1 s1) {N : Nat} {df : List Deferred} {ι0 : Iota} {W0 : World} {listed : Array Bool} {j : Nat} {ι : Iota} {a : Act} {W : World} (I : Inv P ok G E ops t R SS N df ι0 W0 listed j ι a W)
    (hops : ∀ o ∈ ops, okOper N G o = true) {ρ : Row} (hρ : ρ ∈ R) (hun : ¬ Lst listed ρ.x.i) {ι1 ι' : Iota} (hV1 : LeV ι ι1) (hV : LeV ι1 ι') {v' : Value} (hv : VRel ι' ρ.r.v v') :
    (∀ σ ∈ R, Lst (listed.setIfInBounds ρ.x.i true) σ.x.i → ∀ d, σ.x.o.dst = some d → VRel ι' σ.r.v ((a.put ρ.x.o.dst v').tmps.getD d undef)) ∧
    (∀ d, d < (a.put ρ.x.o.dst v').tmps.size → (∀ σ ∈ R, Lst (listed.setIfInBounds ρ.x.i true) σ.x.i → σ.x.o.dst ≠ some d) → VRel ι' (T.at t (bits d)) ((a.put ρ.x.o.dst v').tmps.getD d undef)) := by
  have hi : ρ.x.i < listed.size := by rw [I.size]; exact (Array.getElem?_eq_some_iff.1 (F.item ρ hρ).1).1
  refine ⟨fun σ hσ hl d hd => ?_, fun d hd hno => ?_⟩
  · have hdn : d < a.tmps.size := by rw [I.sz]; exact okOper.dst (hops σ.x.o (Array.mem_of_getElem? (F.item σ hσ).1)) hd
    rw [getD_putD hdn]
    rcases (lst_set hi _).1 hl with h | h
    · have := F.uniq hσ hρ h
      subst this
      rw [if_pos hd]
      exact hv
    · have : ρ.x.o.dst ≠ some d := fun e => by
        have := F.dsts hσ hρ hd e
        subst this
        exact hun h
      rw [if_neg this]
      exact ((I.slots1 σ hσ h d hd).monoV hV1).monoV hV
  · rw [put_size] at hd
    rw [getD_putD hd, if_neg (hno ρ hρ ((lst_set hi _).2 (.inl rfl)))]
    exact ((I.slots2 d hd fun σ hσ h => hno σ hσ ((lst_set hi _).2 (.inr h))).monoV hV1).monoV hV

theorem dstIn_mem {d : Tmp} {l : List Tmp} (h : d ∈ l) : dstIn (some d) l = true := by
  simp only [dstIn, List.any_eq_true]
  exact ⟨d, h, Nat.beq_refl d⟩

theorem Post.unkeep {ι0 ι : Iota} {e : AS} {W0 W : World} (h : Post P ok G ι0 W0 ι e W) {k : Nat} (hk : ι k = .kept) (h0 : ι0 k = .free) (hG : G ≤ k) : Post P ok G ι0 W0 (upd ι k .free) (e.at k) W := by
  have hlt : k < e.next := Nat.lt_of_not_le fun hle => by rw [h.rel.next k hle] at hk; cases hk
  refine ⟨fun j => ?_, h.rel.unkeep hk hlt hG, h.frame, h.grow, h.os, h.tape, h.output, fun j l hj ho => ?_⟩
  · by_cases e : j = k
    · subst e; rw [h0]; trivial
    · rw [upd_other _ e]; exact h.le j
  · by_cases e : j = k
    · subst e; rw [upd_same] at hj; cases hj
    · rw [upd_other _ e] at hj; exact h.own j l hj ho
theorem Post.reserve {ι0 ι : Iota} {s e : AS} {W0 W : World} (h : Post P ok G ι0 W0 ι s W) (hx : Ext s e) {K : Nat → Prop} (hK : ∀ k, K k → s.next ≤ k ∧ k < e.next) : Post P ok G ι0 W0 (keeps ι K) e W := by
  refine ⟨h.le.trans (Le.keeps fun k hk => h.rel.next k (hK k hk).1), h.rel.reserve hx.pick hx.next hx.get hK, h.frame, h.grow, h.os, h.tape, h.output, fun j l hj ho => ?_⟩
  by_cases e : K j
  · rw [keeps_in e] at hj; cases hj
  · rw [keeps_out e] at hj; exact h.own j l hj ho
theorem Le.free {ι0 ι : Iota} (h : Le ι0 ι) {k : Nat} (hk : ι k = .free) : ι0 k = .free := by
  have h1 := h k
  cases h0 : ι0 k with
  | free => rfl
  | kept => rw [h0] at h1; simp only at h1; rw [h1] at hk; cases hk
  | dead => rw [h0] at h1; simp only at h1; rw [h1] at hk; cases hk
  | live l => rw [h0] at h1; simp only at h1; rcases h1 with h1 | ⟨_, h1⟩ <;> rw [h1] at hk <;> cases hk

theorem countP_lt {f g : Nat → Bool} : ∀ {l : List Nat}, (∀ x ∈ l, g x = true → f x = true) → (∃ x ∈ l, f x = true ∧ g x = false) → l.countP g < l.countP f
  | [], _, ⟨x, h, _⟩ => by cases h
  | y :: l, h, ⟨x, hx, h1, h2⟩ => by
    rw [List.countP_cons, List.countP_cons]
    have hle : l.countP g ≤ l.countP f := List.countP_mono_left fun x hx => h x (by simp [hx])
    rcases List.mem_cons.1 hx with rfl | hx
    · rw [h1, h2]; simp; omega
    · have ih := countP_lt (f := f) (g := g) (fun x hx => h x (by simp [hx])) ⟨x, hx, h1, h2⟩
      have := h y (by simp)
      cases hg : g y <;> cases hf : f y <;> simp [hg, hf] at this ⊢ <;> omega

def unlisted (ops : Array Oper) (listed : Array Bool) : Nat := (List.range ops.size).countP fun p => !listed.getD p false

/-- The operations are taken in whatever order. -/
theorem any_sound (hE : E.Ok P) (hC : CallsOk P ok G C) (F : Facts E ops C t R SS t1 s1) {N : Nat} (hops : ∀ o ∈ ops, okOper N G o = true) {df : List Deferred} {ι0 : Iota} {W0 : World} {r : Option Nat} {Q : Exit → Act → World → Prop}
    (hQ : ∀ ι' a' W', Post P ok G ι0 W0 ι' s1 W' → TRel ι' t1 a'.tmps → a'.tmps.size = N → a'.defers = df → Q .normal a' W') :
    ∀ (fuel : Nat) (listed : Array Bool) (j : Nat) (ι : Iota) (a : Act) (W : World), Inv P ok G E ops t R SS N df ι0 W0 listed j ι a W → unlisted ops listed ≤ fuel → wpAnyIn (Fr r) 0 P .any ops Q fuel listed a W := by
  intro fuel
  -- all are taken
  have fin : ∀ (listed : Array Bool) (j : Nat) (ι : Iota) (a : Act) (W : World), Inv P ok G E ops t R SS N df ι0 W0 listed j ι a W → (∀ p, p < ops.size → Lst listed p) → Q .normal a W := by
    intro listed j ι a W I hall
    have hl : ∀ ρ ∈ R, Lst listed ρ.x.i := fun ρ hρ => hall _ (Array.getElem?_eq_some_iff.1 (F.item ρ hρ).1).1
    obtain ⟨e, he, hp, _⟩ := I.st
    obtain ⟨c, hc1, hc2, hc3⟩ := F.states
    have hj : j < SS.length := (List.getElem?_eq_some_iff.1 he).1
    have hjc : j = c := by
      rcases Nat.lt_or_ge j c with h | h
      · obtain ⟨ρ, h1, h2, h3⟩ := hc3 j h
        have := (I.chains ρ h1 h2).1 (hl ρ h1)
        omega
      · omega
    subst hjc
    rw [he] at hc2
    cases hc2
    refine hQ ι a W hp (fun d hd => ?_) I.sz I.df
    rw [F.last]
    by_cases h : ∃ ρ ∈ R, ρ.x.o.dst = some d
    · obtain ⟨ρ, h1, h2⟩ := h
      rw [slots_in F.pw h1 h2]
      exact I.slots1 ρ h1 (hl ρ h1) d h2
    · have h' : ∀ ρ ∈ R, ρ.x.o.dst ≠ some d := fun ρ hρ e => h ⟨ρ, hρ, e⟩
      rw [slots_out h']
      exact I.slots2 d hd fun ρ hρ _ => h' ρ hρ
  have stuck : ∀ (listed : Array Bool) (j : Nat) (ι : Iota) (a : Act) (W : World), Inv P ok G E ops t R SS N df ι0 W0 listed j ι a W → Region.ready .any ops listed = [] → ∀ p, p < ops.size → Lst listed p := by
    intro listed j ι a W I hr p
    induction p using Nat.strongRecOn with
    | _ p ih =>
      intro hp
      cases hl : listed.getD p false with
      | true => exact hl
      | false =>
        have : p ∈ Region.ready .any ops listed := by
          refine mem_ready.2 ⟨?_, ops[p], Array.getElem?_eq_getElem hp, fun e he hb => ?_⟩
          · have : p < listed.size := by rw [I.size]; exact hp
            simpa [this] using hl
          · have ho : ops.toList[p]? = some ops[p] := by simp [hp]
            have hback := backAll_get ops.toList 0 p _ F.back ho
            rw [Nat.zero_add] at hback
            have hlt := edgesBack_all _ hback e (by simpa using he) hb
            exact ih e.on hlt (by omega)
        rw [hr] at this
        cases this
  induction fuel with
  | zero =>
    intro listed j ι a W I hcnt
    have hall : ∀ p, p < ops.size → Lst listed p := by
      intro p hp
      unfold unlisted at hcnt
      have := List.countP_eq_zero.1 (Nat.le_zero.1 hcnt) p (List.mem_range.2 hp)
      simpa [Lst] using this
    refine ⟨?_, fin listed j ι a W I hall⟩
    apply List.eq_nil_iff_forall_not_mem.2
    intro p hp
    obtain ⟨h1, o, h2, _⟩ := mem_ready.1 hp
    have hps := (Array.getElem?_eq_some_iff.1 h2).1
    have h3 := hall p hps
    have : p < listed.size := by rw [I.size]; exact hps
    unfold Lst at h3
    simp [this] at h1 h3
    rw [h1] at h3
    cases h3
  | succ fuel ih =>
    intro listed j ι a W I hcnt
    refine ⟨fun hr => fin listed j ι a W I (stuck listed j ι a W I hr), fun i hi => ?_⟩
    obtain ⟨hun0, o, ho, hall⟩ := mem_ready.1 hi
    have hi : i < ops.size := (Array.getElem?_eq_some_iff.1 ho).1
    have hil : i < listed.size := by rw [I.size]; exact hi
    have hun : ¬ Lst listed i := fun h => by
      unfold Lst at h
      simp [hil] at h hun0
      rw [h] at hun0
      cases hun0
    obtain ⟨ρ, hρ, rfl⟩ := F.cover i hi
    obtain ⟨hio, him⟩ := F.item ρ hρ
    rw [ho] at hio
    cases hio
    have hcnt' : unlisted ops (listed.setIfInBounds ρ.x.i true) ≤ fuel := by
      have : unlisted ops (listed.setIfInBounds ρ.x.i true) < unlisted ops listed := by
        refine countP_lt (fun p _ h => ?_) ⟨ρ.x.i, List.mem_range.2 hi, ?_, ?_⟩
        · by_cases e : ρ.x.i = p
          · subst e
            simp [hil] at h
          · rw [getD_set_ne false e] at h; exact h
        · unfold Lst at hun
          simpa using hun
        · simp [hil]
      omega
    -- what is before it is listed
    have hmask : ∀ p, Nat.testBit ρ.x.m p = true → Lst listed p := fun p hp =>
      mask_listed F.back (L := Lst listed) I.closed (ρ.x.i + 1) ρ.x.i ρ.x.o (Nat.lt_succ_self _) ho hall p (by rw [← him]; exact hp)
    have hmaskL : ∀ σ ∈ R, Lst listed σ.x.i → ∀ p, Nat.testBit σ.x.m p = true → Lst listed p := fun σ hσ hl p hp =>
      mask_listed F.back (L := Lst listed) I.closed (σ.x.i + 1) σ.x.i σ.x.o (Nat.lt_succ_self _) (F.item σ hσ).1 (I.closed _ hl _ (F.item σ hσ).1) p (by rw [← (F.item σ hσ).2]; exact hp)
    obtain ⟨pre, post, hsplit⟩ := List.append_of_mem hρ
    have hpw := F.pw
    rw [hsplit, List.pairwise_append, List.pairwise_cons] at hpw
    obtain ⟨hpw1, ⟨hpw2, _⟩, hpw3⟩ := hpw
    have inpre : ∀ σ ∈ pre, σ ∈ R := fun σ h => by rw [hsplit]; simp [h]
    have inpost : ∀ σ ∈ post, σ ∈ R := fun σ h => by rw [hsplit]; simp [h]
    have hreads : Reads ι ops.toList ρ.x.o ρ.r.t a := by
      intro d hd hlt
      rw [F.slots pre ρ post hsplit]
      by_cases h : ∃ σ ∈ pre, σ.x.o.dst = some d
      · obtain ⟨σ, h1, h2⟩ := h
        rw [slots_in hpw1 h1 h2]
        have hpr := hpw3 σ h1 ρ (by simp)
        refine I.slots1 σ (inpre σ h1) (hmask _ (hpr.rel ?_)) d h2
        unfold related
        rw [h2, dstIn_mem hd]
        simp
      · have h' : ∀ σ ∈ pre, σ.x.o.dst ≠ some d := fun σ hσ e => h ⟨σ, hσ, e⟩
        rw [slots_out h']
        refine I.slots2 d hlt fun σ hσ hl e => ?_
        rw [hsplit] at hσ
        simp only [List.mem_append, List.mem_cons] at hσ
        rcases hσ with hσ | rfl | hσ
        · exact h' σ hσ e
        · exact hun hl
        · have hpr := hpw2 σ hσ
          refine hun (hmaskL σ (inpost σ hσ) hl _ (hpr.rel ?_))
          unfold related
          rw [e, dstIn_mem hd]
          simp
    have hopsa : ∀ o ∈ ops, okOper a.tmps.size G o = true := by rw [I.sz]; exact hops
    obtain ⟨e, hSe, hpost, hpick⟩ := I.st
    obtain ⟨s', hrun, hchain⟩ := F.run ρ hρ
    have hclosed' : ∀ p, Lst (listed.setIfInBounds ρ.x.i true) p → ∀ o, ops[p]? = some o → ∀ e ∈ o.after, Region.binds .any e = true → Lst (listed.setIfInBounds ρ.x.i true) e.on := by
      intro p hp o' ho' e he hb
      refine (lst_set hil _).2 (.inr ?_)
      rcases (lst_set hil _).1 hp with rfl | hp
      · rw [ho] at ho'
        cases ho'
        exact hall e he hb
      · exact I.closed p hp o' ho' e he hb
    -- chain operations ahead of it
    have hbefore : ρ.own ≤ j := by
      rcases Nat.eq_zero_or_pos ρ.own with h0 | h0
      · omega
      · obtain ⟨σ, h1, h2, h3⟩ := F.before pre ρ post hsplit h0
        have hpr := hpw3 σ h1 ρ (by simp)
        have hb : Nat.testBit ρ.x.m σ.x.i = true := by
          cases hc : isChain E ρ.x.o with
          | false => exact hpr.late h2 hc
          | true => exact hpr.rel (by unfold related; rw [h2, hc]; rfl)
        have := (I.chains σ (inpre σ h1) h2).1 (hmask _ hb)
        omega
    cases hc : isChain E ρ.x.o with
    | true =>
      obtain ⟨hp', hSs, e', hSe', hext, hnew⟩ := hchain hc
      have hown : ρ.own = j := by
        have := mt (I.chains ρ hρ hc).2 hun
        omega
      rw [hown] at hSs hSe' hnew
      rw [hSe] at hSs
      cases hSs
      refine stepV_sound hE hC hpost.rel hopsa ho hreads hrun r Q _ fun ι' v' W' hp hv => ?_
      let K : Nat → Prop := fun k => s'.next ≤ k ∧ k < e'.next
      have hfree : ∀ k, K k → ι' k = .free := fun k hk => hp.rel.next k hk.1
      have hle := Le.keeps hfree
      have hpost' := (hpost.trans hp).reserve hext (K := K) fun k hk => hk
      have hsl := I.slots F hops hρ hun hp.le.v hle.v (hv.mono hle)
      refine ih _ (j + 1) (keeps ι' K) _ W' ⟨by simp [I.size], hclosed', fun σ hσ hcσ => ?_, ⟨e', hSe', hpost', hext.pick⟩, fun σ hσ hl hnl ho => ?_, fun σ hσ τ hτ hl1 hl2 hn1 hn2 ho1 ho2 hid => ?_, hsl.1, hsl.2, (put_size _ _ _).trans I.sz, (put_defers' _ _ _).trans I.df⟩ hcnt'
      · rw [lst_set hil]
        constructor
        · rintro (h | h)
          · have := F.uniq hσ hρ h
            subst this
            omega
          · have := (I.chains σ hσ hcσ).1 h
            omega
        · intro h
          by_cases e1 : σ.own < j
          · exact .inr ((I.chains σ hσ hcσ).2 e1)
          · rcases pw_cases F.own hσ hρ with h1 | h1 | h1
            · exact .inl (by rw [h1])
            · have := h1.2 hcσ
              omega
            · have := h1.2 hc
              omega
      · have hnl' : ¬ Lst listed σ.x.i := fun h => hnl ((lst_set hil _).2 (.inr h))
        by_cases e1 : σ.own ≤ j
        · obtain ⟨h1, h2, h3⟩ := I.kept σ hσ hl hnl' e1
          refine ⟨?_, h2, h3⟩
          have h4 := hp.le.kept h1
          exact hle.kept h4
        · have hK := hnew σ hσ hl (by omega)
          refine ⟨keeps_in hK, ?_, Nat.le_trans hp.rel.gnext hK.1⟩
          exact (hpost.le.trans hp.le).free (hfree _ hK)
      · have hn1' : ¬ Lst listed σ.x.i := fun h => hn1 ((lst_set hil _).2 (.inr h))
        have hn2' : ¬ Lst listed τ.x.i := fun h => hn2 ((lst_set hil _).2 (.inr h))
        by_cases e1 : σ.own ≤ j <;> by_cases e2 : τ.own ≤ j
        · exact I.inj σ hσ τ hτ hl1 hl2 hn1' hn2' e1 e2 hid
        · obtain ⟨h1, _⟩ := I.kept σ hσ hl1 hn1' e1
          have h4 := hp.le.kept h1
          have hK := hnew τ hτ hl2 (by omega)
          rw [hid, hfree _ hK] at h4
          cases h4
        · obtain ⟨h1, _⟩ := I.kept τ hτ hl2 hn2' e2
          have h4 := hp.le.kept h1
          have hK := hnew σ hσ hl1 (by omega)
          rw [← hid, hfree _ hK] at h4
          cases h4
        · rcases pw_cases F.ids hσ hτ with h1 | h1 | h1
          · exact h1
          · exact absurd hid (h1 (by omega) hl1 hl2)
          · exact absurd hid.symm (h1 (by omega) hl2 hl1)
    | false =>
      have hretry : Again E ops.toList C ρ e := by
        refine F.retry ρ hρ hc j e hSe hbefore fun σ hσ hcσ hlt => ?_
        cases hb : Nat.testBit σ.x.m ρ.x.i with
        | false => rfl
        | true => exact absurd (hmaskL σ hσ ((I.chains σ hσ hcσ).2 hlt) _ hb) hun
      have hchains' : ∀ σ ∈ R, isChain E σ.x.o = true → (Lst (listed.setIfInBounds ρ.x.i true) σ.x.i ↔ σ.own < j) := fun σ hσ hcσ => by
        rw [lst_set hil]
        constructor
        · rintro (h | h)
          · have := F.uniq hσ hρ h
            subst this
            rw [hc] at hcσ
            cases hcσ
          · exact (I.chains σ hσ hcσ).1 h
        · exact fun h => .inr ((I.chains σ hσ hcσ).2 h)
      have hinj' : ∀ σ ∈ R, ∀ τ ∈ R, Lays ops.toList σ → Lays ops.toList τ → ¬ Lst (listed.setIfInBounds ρ.x.i true) σ.x.i → ¬ Lst (listed.setIfInBounds ρ.x.i true) τ.x.i → σ.own ≤ j → τ.own ≤ j → σ.r.id = τ.r.id → σ = τ :=
        fun σ hσ τ hτ hl1 hl2 hn1 hn2 => I.inj σ hσ τ hτ hl1 hl2 (fun h => hn1 ((lst_set hil _).2 (.inr h))) (fun h => hn2 ((lst_set hil _).2 (.inr h)))
      -- it leaves the state
      have calm : stepV E ops.toList ρ.x.o C ρ.r.t e = some (ρ.r.v, e) → wpOpIn (Fr r) 0 P ops Q ρ.x.i (wpAnyIn (Fr r) 0 P .any ops Q fuel (listed.setIfInBounds ρ.x.i true)) a W := by
        intro hrun'
        refine stepV_sound hE hC hpost.rel hopsa ho hreads hrun' r Q _ fun ι' v' W' hp hv => ?_
        have hsl := I.slots F hops hρ hun (Le.refl ι).v hp.le.v hv
        refine ih _ j ι' _ W' ⟨by simp [I.size], hclosed', hchains', ⟨e, hSe, hpost.trans hp, hpick⟩, fun σ hσ hl hnl ho => ?_, hinj', hsl.1, hsl.2, (put_size _ _ _).trans I.sz, (put_defers' _ _ _).trans I.df⟩ hcnt'
        obtain ⟨h1, h2, h3⟩ := I.kept σ hσ hl (fun h => hnl ((lst_set hil _).2 (.inr h))) ho
        exact ⟨hp.le.kept h1, h2, h3⟩
      by_cases hlay : Lays ops.toList ρ
      · obtain ⟨ob, hr2, hobj0⟩ := hretry.2 hlay
        have hw : wantsF (guardOf ops.toList ρ.x.o) ρ.r.t = true := hlay.wanted
        have hobj : ((e.at ρ.r.id).new ob).get ρ.r.id = e.get ρ.r.id := by
          rw [hobj0, AS.get_new]
          exact if_pos rfl
        obtain ⟨hk, h0, hG⟩ := I.kept ρ hρ hlay hun hbefore
        have hpost1 := hpost.unkeep hk h0 hG
        have hV1 := LeV.unkeep hk
        refine stepV_sound hE hC hpost1.rel hopsa ho (hreads.monoV hV1) (by rw [stepV_wants, hw]; exact hr2) r Q _ fun ι' v' W' hp hv => ?_
        have hback := hp.rel.back hpick hobj
        have hpost2 : Post P ok G ι0 W0 ι' e W' := { hpost1.trans hp with rel := hback }
        have hsl := I.slots F hops hρ hun hV1 hp.le.v hv
        refine ih _ j ι' _ W' ⟨by simp [I.size], hclosed', hchains', ⟨e, hSe, hpost2, hpick⟩, fun σ hσ hl hnl ho => ?_, hinj', hsl.1, hsl.2, (put_size _ _ _).trans I.sz, (put_defers' _ _ _).trans I.df⟩ hcnt'
        have hnl' : ¬ Lst listed σ.x.i := fun h => hnl ((lst_set hil _).2 (.inr h))
        obtain ⟨h1, h2, h3⟩ := I.kept σ hσ hl hnl' ho
        have hne : σ.r.id ≠ ρ.r.id := fun e1 => by
          have := I.inj σ hσ ρ hρ hl hlay hnl' hun ho hbefore e1
          subst this
          exact hnl ((lst_set hil _).2 (.inl rfl))
        refine ⟨hp.le.kept ?_, h2, h3⟩
        rw [upd_other _ hne]
        exact h1
      · exact calm (hretry.1 hlay)
end

/-- Out of a run in the canonical order. -/
theorem facts_of {E : Env} {ops : Array Oper} {C : Calls} {t t2 : T} {s s2 : AS} {R : List Row} {ss : List AS} (hdr : drawOk E ops.toList = true) (hpk : s.pick = none)
    (hR : Rows E ops.toList C 0 (canon E ops.toList) t s R ss t2 s2) (hrc : RcAll E ops.toList C ss R (drawInfo E ops.toList)) : Facts E ops C t R ss t2 s2 := by
  have hRx : R.map (·.x) = canon E ops.toList := (rows_slots hR).1
  unfold drawOk at hdr
  simp only [Bool.and_eq_true, List.all_eq_true] at hdr
  obtain ⟨hback, hcov, hpairs⟩ := hdr
  have hcanon : ∀ ρ ∈ R, ρ.x ∈ canon E ops.toList := fun ρ hρ => by rw [← hRx]; exact List.mem_map_of_mem hρ
  have hst := rows_states hR hpk
  refine ⟨hback, fun p hp => ?_, fun ρ hρ => ?_, ?_, (rows_slots hR).2.2, (rows_slots hR).2.1, (rows_own hR).2.1, (rows_own hR).2.2, fun ρ hρ => ?_, hst.2.2.1, ?_, fun ρ hρ hc n e he hn hk => ?_⟩
  · have := hcov p (List.mem_range.2 (by simpa using hp))
    rw [List.any_eq_true] at this
    obtain ⟨x, hx, hxi⟩ := this
    rw [← hRx, List.mem_map] at hx
    obtain ⟨ρ, h1, h2⟩ := hx
    exact ⟨ρ, h1, by rw [h2]; exact Nat.eq_of_beq_eq_true hxi⟩
  · obtain ⟨h1, h2⟩ := canon_mem (hcanon ρ hρ)
    exact ⟨by simpa using h1, h2⟩
  · have := allPairs_pw hpairs
    rw [← hRx, List.pairwise_map] at this
    exact this
  · obtain ⟨s', h1, h2⟩ := hst.2.1 ρ hρ
    refine ⟨s', h1, fun hc => ?_⟩
    have := h2 hc
    simpa only [Nat.sub_zero] using this
  · obtain ⟨c, h1, h2, h3⟩ := hst.2.2.2
    exact ⟨c, h1, h2, fun n hn => let ⟨ρ, q1, q2, q3⟩ := h3 n hn; ⟨ρ, q1, q2, by omega⟩⟩
  · have hrc' : RcAll E ops.toList C ss R (infoGo E (chainOf E (canon E ops.toList)) 0 (canon E ops.toList)) := hrc
    have hlen := rows_len hR
    have hn' : n < ss.length := (List.getElem?_eq_some_iff.1 he).1
    exact rows_again hR hpk (fun n => by rw [Nat.zero_add]) hrc' ρ hρ hc n (by omega) hn (fun k hk' => by
      obtain ⟨σ, q1, q2, q3, q4⟩ := rows_chains hR n k hk'
      rw [← q2]
      exact hk σ q1 q3 (by omega)) e he
/-- A region that draws its order, out of a run in the canonical order. -/
theorem draw_region {E : Env} (hE : E.Ok P) (hm : P.follows .mixedOrders = true) {C : Calls} (hC : CallsOk P ok G C) {ops : Array Oper} {r : Option Nat} {ι : Iota} {s : AS} {W : World} {t : T} {a : Act} {id : Nat}
    (hr : Rel P ok G ι s W) (ht : TRel ι t a.tmps) (hops : ∀ o ∈ ops, okOper a.tmps.size G o = true) (hdr : drawOk E ops.toList = true) (hpk : s.pick = none) {t2 : T} {s2 : AS} {R : List Row} {ss : List AS}
    (hR : Rows E ops.toList C 0 (canon E ops.toList) t s R ss t2 s2) (hrc : RcAll E ops.toList C ss R (drawInfo E ops.toList)) (Q : Exit → Act → World → Prop)
    (hQ : ∀ ι' a' W', Post P ok G ι W ι' s2 W' → TRel ι' t2 a'.tmps → a'.tmps.size = a.tmps.size → a'.defers = a.defers → Q .normal a' W') : (Code.region id ops true).wpIn (Fr r) 0 P Q a W := by
  have F := facts_of hdr hpk hR hrc
  refine wpIn_region_any hm ?_
  obtain ⟨⟨e, he, hext, hlay⟩, _⟩ := rows_states hR hpk
  have hr0 : Rel P ok G ι s { W with drawn := W.drawn + 1 } := hr.drew rfl
  let K : Nat → Prop := fun k => s.next ≤ k ∧ k < e.next
  have hpost := (Post.refl hr0).reserve hext (K := K) fun k hk => hk
  have hfree : ∀ k, K k → ι k = .free := fun k hk => hr.next k hk.1
  have hle := Le.keeps hfree
  have hnone : ∀ p, ¬ Lst (Array.replicate ops.size false) p := fun p h => by
    unfold Lst at h
    by_cases hp : p < ops.size <;> simp [hp] at h
  refine any_sound hE hC F hops (df := a.defers) (W0 := { W with drawn := W.drawn + 1 }) (ι0 := ι) (fun ι' a' W' hp ht' hs' hd' => hQ ι' a' W' (Post.drew (W := W) (W1 := { W with drawn := W.drawn + 1 }) rfl rfl rfl rfl hp) ht' hs' hd') ops.size _ 0 (keeps ι K) a _ ?_ ?_
  · refine ⟨by simp, fun p h => absurd h (hnone p), fun ρ hρ _ => ⟨fun h => absurd h (hnone _), fun h => by omega⟩, ⟨e, he, hpost, hext.pick⟩, fun ρ hρ hl _ ho => ?_, fun ρ hρ σ hσ hl1 hl2 _ _ ho1 ho2 hid => ?_, fun ρ hρ h => absurd h (hnone _), fun d hd _ => (ht d hd).mono hle, rfl, rfl⟩
    · have hK := hlay ρ hρ hl (by omega)
      exact ⟨keeps_in hK, hfree _ hK, Nat.le_trans hr.gnext hK.1⟩
    · rcases pw_cases F.ids hρ hσ with h1 | h1 | h1
      · exact h1
      · exact absurd hid (h1 (by omega) hl1 hl2)
      · exact absurd hid.symm (h1 (by omega) hl2 hl1)
  · unfold unlisted
    exact Nat.le_trans List.countP_le_length (by simp)

/-- What a region comes to, in whatever order. -/
theorem draw_sound {E : Env} (hE : E.Ok P) (hm : P.follows .mixedOrders = true) {C : Calls} (hC : CallsOk P ok G C) {ops : Array Oper} {r : Option Nat} {ι : Iota} {s : AS} {W : World} {t : T} {a : Act} {id : Nat}
    (hr : Rel P ok G ι s W) (ht : TRel ι t a.tmps) (hops : ∀ o ∈ ops, okOper a.tmps.size G o = true) (hdr : drawOk E ops.toList = true) {k : T → AS → Out} (hne : (drawFn E ops.toList).run C t s k ≠ .bad) :
    ∃ t2 s2, (drawFn E ops.toList).run C t s k = k t2 s2 ∧
      ∀ Q : Exit → Act → World → Prop, (∀ ι' a' W', Post P ok G ι W ι' s2 W' → TRel ι' t2 a'.tmps → a'.tmps.size = a.tmps.size → a'.defers = a.defers → Q .normal a' W') → (Code.region id ops true).wpIn (Fr r) 0 P Q a W := by
  unfold drawFn at hne ⊢
  simp only at hne ⊢
  cases hpk : s.pick with
  | some k => simp [hpk] at hne
  | none =>
    simp only [hpk] at hne ⊢
    cases hd : drawText E ops.toList C (canon E ops.toList) t s [] [] with
    | none => simp [hd] at hne
    | some q =>
      obtain ⟨t2, rs, ss, s2⟩ := q
      simp only [hd] at hne ⊢
      cases hrc : recheckAll E ops.toList C ss (canon E ops.toList) rs (drawInfo E ops.toList) with
      | false => simp [hrc] at hne
      | true =>
        simp only [hrc]
        refine ⟨t2, s2, rfl, fun Q hQ => ?_⟩
        obtain ⟨rs', ss', e1, e2, htr⟩ := drawText_trace _ _ _ _ _ _ _ _ _ hd
        simp only [List.reverse_nil, List.nil_append] at e1 e2
        subst e1
        subst e2
        obtain ⟨R, hR, hRr, hRx⟩ := trace_rows (j := 0) htr
        exact draw_region hE hm hC hr ht hops hdr hpk hR (rc_of_recheck hR (by rw [hRr]; exact hrc)) Q hQ
end Go.AE
