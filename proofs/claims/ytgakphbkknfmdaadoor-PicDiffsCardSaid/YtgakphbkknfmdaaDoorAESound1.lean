import Derived.Test.YtgakphbkknfmdaaDoorAEFast
import Derived.Test.YtgakphbkknfmdaaDoorAEOpsA
set_option linter.all false
set_option linter.unusedSimpArgs false
set_option linter.unusedVariables false
set_option autoImplicit false
namespace Go.AE
variable {P : Program} {ok : Nat → Code → Bool} {G : Nat}

/-! What is reckoned out is the same. -/
section force
variable {R : Type}
theorem forceN_eq (m : Nat) (k : Nat → R) : forceN m k = k m := rfl
theorem forceI_eq (i : Int) (k : Int → R) : forceI i k = k i := by cases i <;> rfl
theorem forceL_eq {α : Type} : ∀ (l : List α) (k : List α → R), forceL l k = k l
  | [], _ => rfl
  | x :: l, k => forceL_eq l fun l => k (x :: l)
theorem forceVs_eq (f : Value → (Value → R) → R) (hf : ∀ v k, f v k = k v) : ∀ (l : List Value) (k : List Value → R), forceVs f l k = k l
  | [], _ => rfl
  | x :: l, k => by rw [forceVs, hf, forceVs_eq f hf l]
theorem forceA_eq (a : Addr) (k : Addr → R) : forceA a k = k a := by
  obtain ⟨b, o, s⟩ := a
  cases s <;> rfl
theorem forceV_eq : ∀ (d : Nat) (v : Value) (k : Value → R), forceV d v k = k v
  | 0, _, _ => rfl
  | d + 1, v, k => by
    have ih := forceV_eq d
    have ihs := forceVs_eq (forceV d) ih
    unfold forceV
    cases v with
    | int kd n => exact forceI_eq n _
    | bool b => cases b <;> rfl
    | pointer a => cases a with
      | none => rfl
      | some a => exact forceA_eq a _
    | slice a l c => cases a with
      | none => rfl
      | some a => exact forceA_eq a _
    | map r => cases r <;> rfl
    | agg a => obtain ⟨l⟩ := a; exact ihs l _
    | tuple a => obtain ⟨l⟩ := a; exact ihs l _
    | iface t v => exact ih v _
    | func f a b =>
      obtain ⟨a⟩ := a
      obtain ⟨b⟩ := b
      cases f <;> first | rfl | (exact (ihs a _).trans (ihs b _))
    | _ => rfl
theorem forceT_eq (v : Value) (k : Value → R) : forceT v k = k v := by
  cases v with
  | int kd n => cases n <;> rfl
  | bool b => cases b <;> rfl
  | pointer a => exact forceV_eq 1 _ k
  | slice a l c => exact forceV_eq 1 _ k
  | map a => exact forceV_eq 1 _ k
  | func f a b => exact forceV_eq 4 (.func f a b) k
  | iface t v => exact forceV_eq 4 (.iface t v) k
  | agg l => exact forceV_eq 4 (.agg l) k
  | tuple l => exact forceV_eq 4 (.tuple l) k
  | _ => rfl
theorem forceO_eq (o : Option AObj) (k : Option AObj → R) : forceO o k = k o := by
  cases o with
  | none => rfl
  | some o => cases o with
    | row own e cells lo hi => cases own with
      | true => exact forceL_eq cells _
      | false => rfl
    | map es clock => exact forceL_eq es _
    | _ => rfl
noncomputable def putLogD : List (Nat × Option AObj) → Tr AObj → Tr AObj
  | [], h => h
  | (j, o) :: r, h => Tr.set o (bits j) (putLogD r h)
theorem putLog_eq : ∀ (l : List (Nat × Option AObj)) (h : Tr AObj) (k : Tr AObj → R), putLog l h k = k (putLogD l h)
  | [], _, _ => rfl
  | (j, o) :: r, h, k => by
    unfold putLog
    rw [putLog_eq r, forceO_eq, Tr.setK_eq]
    rfl
/-- The state, written out. -/
noncomputable def AS.flat (s : AS) : AS := ⟨s.next, putLogD s.log s.heap, [], s.pick⟩
theorem AS.commit_eq (s : AS) (k : AS → R) : s.commit k = k s.flat := by
  obtain ⟨n, h, l, p⟩ := s
  cases l with
  | nil => rfl
  | cons x l =>
    refine (putLog_eq (x :: l) h _).trans ?_
    cases p <;> rfl
theorem get_putLog (k : Nat) : ∀ (l : List (Nat × Option AObj)) (h : Tr AObj), Tr.get (bits k) (putLogD l h) = seek k (Tr.get (bits k) h) l
  | [], _ => rfl
  | (j, o) :: r, h => by
    unfold putLogD seek
    cases hb : Nat.beq k j with
    | true =>
      have := Nat.eq_of_beq_eq_true hb
      subst this
      exact Tr.get_set_same _ _ _
    | false =>
      rw [Tr.get_set_other _ _ _ _ fun e => ?_]
      · exact get_putLog k r h
      · have := bits_inj e
        subst this
        rw [Nat.beq_refl] at hb
        cases hb
end force
theorem AS.get_flat (s : AS) (k : Nat) : s.flat.get k = s.get k := get_putLog k s.log s.heap
@[simp] theorem AS.next_flat (s : AS) : s.flat.next = s.next := rfl

theorem Rel.flat {ι : Iota} {s : AS} {W : World} (h : Rel P ok G ι s W) : Rel P ok G ι s.flat W where
  next := h.next
  pick := h.pick
  live := fun k l hk => let ⟨o, h1, h2⟩ := h.live k l hk; ⟨o, (AS.get_flat s k).trans h1, h2⟩
  dead := fun k hk => (AS.get_flat s k).trans (h.dead k hk)
  inj := h.inj
  glob := h.glob
  gnext := h.gnext
theorem Post.flat {ι ι' : Iota} {s' : AS} {W W' : World} (h : Post P ok G ι W ι' s' W') : Post P ok G ι W ι' s'.flat W' := { h with rel := h.rel.flat }

/-! The slots. -/
theorem T.at_set_same (t : T) (p : List D8) (v : Value) : T.at (Tr.set (some v) p t) p = v := by unfold T.at; rw [Tr.get_set_same]
theorem T.at_set_other (t : T) {p q : List D8} (v : Value) (h : q ≠ p) : T.at (Tr.set (some v) p t) q = T.at t q := by unfold T.at; rw [Tr.get_set_other _ _ _ _ h]
theorem TRel.mono {ι ι' : Iota} (h : Le ι ι') {t : T} {a : Array Value} (p : TRel ι t a) : TRel ι' t a := fun i hi => (p i hi).mono h
theorem TRel.set {ι : Iota} {t : T} {a : Array Value} (p : TRel ι t a) {d : Nat} {v v' : Value} (hv : VRel ι v v') : TRel ι (Tr.set (some v) (bits d) t) (a.setIfInBounds d v') := fun i hi => by
  have hi' : i < a.size := by simpa using hi
  by_cases e : i = d
  · subst e
    rw [T.at_set_same]
    have : (a.setIfInBounds i v').getD i undef = v' := by simp [Array.getD, hi']
    rw [this]
    exact hv
  · rw [T.at_set_other _ _ fun h => e (bits_inj h)]
    have : (a.setIfInBounds d v').getD i undef = a.getD i undef := by
      simp [Array.getD, hi', Array.getElem_setIfInBounds, Ne.symm e]
    rw [this]
    exact p i hi'

theorem rho_rel {ι : Iota} {s : AS} {W : World} (h : Rel P ok G ι s W) {t : T} {a : Act} (ht : TRel ι t a.tmps) {x : Operand} (hx : okOperand a.tmps.size G x = true) : VRel ι (rho t x) (a.eval x) := by
  cases x with
  | tmp i =>
    have hi : i < a.tmps.size := by simpa [okOperand, Nat.blt_eq] using hx
    exact ht i hi
  | const v => exact .ofFlat ι v hx
  | global g =>
    have hg : g < G := by simpa [okOperand, Nat.blt_eq] using hx
    refine .ptr ⟨rfl, ?_⟩
    rcases h.glob g hg with h1 | ⟨l, h1, h2, h3⟩
    · exact .inl h1
    · exact .inr ⟨l, h1, by simp [h2, h3]⟩
  | func f => exact .func (.same f) rfl (fun i hi => by simp at hi) rfl (fun i hi => by simp at hi)

/-! Numbers. -/
theorem wrapF_eq (k : IntKind) (n : Int) : wrapF k n = k.wrap n := by
  unfold wrapF
  cases n with
  | ofNat m =>
    simp only []
    cases hb : Nat.blt m (kindTop k) with
    | false => rfl
    | true =>
      have h : m < kindTop k := by simpa [Nat.blt_eq] using hb
      simp only []
      cases k <;> simp only [kindTop] at h <;> simp only [IntKind.wrap, IntKind.bits, IntKind.signed] <;> simp <;> omega
  | negSucc m =>
    simp only []
    cases hb : Nat.blt m (kindLow k) with
    | false => rfl
    | true =>
      have h : m < kindLow k := by simpa [Nat.blt_eq] using hb
      simp only []
      cases k <;> simp only [kindLow] at h <;> first | omega | skip
      all_goals simp only [IntKind.wrap, IntKind.bits, IntKind.signed]
      all_goals simp
      all_goals omega
theorem ltF_eq (a b : Int) : ltF a b = decide (a < b) := by
  rw [Bool.eq_iff_iff, decide_eq_true_eq]
  cases a <;> cases b <;> simp [ltF, Nat.blt_eq] <;> omega
theorem eqF_eq (a b : Int) : eqF a b = (a == b) := by
  rw [Bool.eq_iff_iff, beq_iff_eq]
  cases a <;> cases b <;> simp [eqF] <;> omega
theorem kindNo_inj {k k' : IntKind} (h : Nat.beq (kindNo k) (kindNo k') = true) : k = k' := by
  have := Nat.eq_of_beq_eq_true h
  cases k <;> cases k' <;> first | rfl | (simp [kindNo] at this)

theorem intFn_run {op : BinOp} {f : IFn} (hf : intFn op = some f) (k : IntKind) (a b : Int) (ty yt : TypeId) (x y : Operand) (W : World) :
    (do eqGuard op ty x y (.int k a) (.int k b); binOp op ty (.int k a) (.int k b) : Sem Value).run P W = .ok (f.run k a b) W ∧ one (f.run k a b) = true ∧ flatV (f.run k a b) = true := by
  have hg : ∀ op, (eqGuard op ty x y (.int k a) (.int k b)).run P W = .ok () W := fun op => by cases op <;> rfl
  have hle : ∀ x y : Int, (!decide (y < x)) = decide (x ≤ y) := fun x y => by
    by_cases h : y < x
    · simp [h]
    · simp [h, Int.not_lt.1 h]
  cases op <;> simp only [intFn, Option.some.injEq, reduceCtorEq] at hf <;> subst hf <;>
    simp only [Sem.run_bind, hg, Result.andThen, wrapF_eq, ltF_eq, eqF_eq, hle] <;>
    refine ⟨?_, rfl, rfl⟩ <;> simp only [binOp, ne_eq, not_true_eq_false, if_false, Op.intArith, Op.intCmp, Sem.run_pure] <;> first | rfl | skip
end Go.AE
