import Derived.Test.YtgakphbkknfmdaaDoorAEDraw1
set_option linter.all false
set_option linter.unusedSimpArgs false
set_option linter.unusedVariables false
set_option autoImplicit false
namespace Go.AE
variable {P : Program} {ok : Nat → Code → Bool} {G : Nat}

theorem newRow_new {E : Env} {s s' : AS} {e : TypeId} {cells : List Value} {v : Value} (h : newRow E s e cells = some (v, s')) : ∃ ob, s' = s.new ob := by
  unfold newRow at h
  split at h
  · cases h; exact ⟨_, rfl⟩
  · cases h
/-- A float lays one new object. -/
theorem float_new {E : Env} {o : Oper} (hf : isFloat o.op = true) {C : Calls} {t : T} {s s' : AS} {v : Value} (h : (opFn E o).run C t s = some (v, s')) : ∃ ob, s' = s.new ob := by
  obtain ⟨dst, op, type, pos, after, guard⟩ := o
  cases op <;> simp only [isFloat, Bool.false_eq_true] at hf
  case alloc e =>
    unfold opFn at h
    simp only [] at h
    cases hz : E.zero e with
    | none => simp [hz, OFn.run] at h
    | some z =>
      simp only [hz, OFn.run] at h
      exact newRow_new h
  case box e x => exact newRow_new h
  case buildSlice ty len parts =>
    have h' : abuildSlice E s ty len (parts.toList.map fun p => (p.1, rho t p.2)) = some (v, s') := h
    unfold abuildSlice at h'
    cases hd : E.und ty with
    | none => simp [hd] at h'
    | some d =>
      simp only [hd, Option.bind_eq_bind, Option.bind_some] at h'
      split at h'
      · rename_i elem
        cases hn : E.size elem with
        | none => simp [hn] at h'
        | some n =>
          simp only [hn, Option.bind_some] at h'
          cases hz : E.zero elem with
          | none => simp [hz] at h'
          | some z =>
            simp only [hz, Option.bind_some] at h'
            split at h'
            · cases h'
            · rw [Option.bind_eq_some_iff] at h'
              obtain ⟨cells, _, h'⟩ := h'
              cases h'
              exact ⟨_, rfl⟩
      · cases h'
  case makeSlice ty l c =>
    have h' : amakeSlice E s ty (rho t l) (rho t c) = some (v, s') := h
    unfold amakeSlice at h'
    cases hd : E.und ty with
    | none => simp [hd] at h'
    | some d =>
      simp only [hd, Option.bind_eq_bind, Option.bind_some] at h'
      split at h'
      · rename_i elem _ _ _ _
        cases hn : E.size elem with
        | none => simp [hn] at h'
        | some n =>
          simp only [hn, Option.bind_some] at h'
          cases hb : E.bytes elem with
          | none => simp [hb] at h'
          | some bs =>
            simp only [hb, Option.bind_some] at h'
            cases hz : E.zero elem with
            | none => simp [hz] at h'
            | some z =>
              simp only [hz, Option.bind_some] at h'
              split at h'
              · cases h'
              · cases h'
                exact ⟨_, rfl⟩
      · cases h'

open Classical in
/-- Numbers that are still to be laid. -/
noncomputable def keeps (ι : Iota) (K : Nat → Prop) : Iota := fun k => if K k then .kept else ι k
theorem keeps_in {ι : Iota} {K : Nat → Prop} {k : Nat} (h : K k) : keeps ι K k = .kept := by unfold keeps; rw [if_pos h]
theorem keeps_out {ι : Iota} {K : Nat → Prop} {k : Nat} (h : ¬ K k) : keeps ι K k = ι k := by unfold keeps; rw [if_neg h]
theorem Le.keeps {ι : Iota} {K : Nat → Prop} (h : ∀ k, K k → ι k = .free) : Le ι (AE.keeps ι K) := fun k => by
  by_cases hk : K k
  · rw [h k hk]; trivial
  · rw [keeps_out hk]
    exact Le.refl ι k
theorem Rel.reserve {ι : Iota} {s e : AS} {W : World} (h : Rel P ok G ι s W) (hp : e.pick = none) (hn : s.next ≤ e.next) (hg : ∀ k, k < s.next → e.get k = s.get k) {K : Nat → Prop} (hK : ∀ k, K k → s.next ≤ k ∧ k < e.next) :
    Rel P ok G (keeps ι K) e W := by
  have hfree : ∀ k, K k → ι k = .free := fun k hk => h.next k (hK k hk).1
  have hle := Le.keeps hfree
  have hlt : ∀ k, ι k ≠ .free → k < s.next := fun k hk => Nat.lt_of_not_le fun hle => hk (h.next k hle)
  have old : ∀ k l, keeps ι K k = .live l → ι k = .live l := fun k l hk => by
    by_cases hKk : K k
    · rw [keeps_in hKk] at hk; cases hk
    · rwa [keeps_out hKk] at hk
  refine ⟨?_, ?_, ?_, ?_, ?_, ?_, Nat.le_trans h.gnext hn⟩
  · intro k hk
    have : ¬ K k := fun hKk => by have := (hK k hKk).2; omega
    rw [keeps_out this]
    exact h.next k (Nat.le_trans hn hk)
  · intro k hk
    rw [hp] at hk
    cases hk
  · intro k l hk
    have hk' := old k l hk
    obtain ⟨o, h1, h2⟩ := h.live k l hk'
    exact ⟨o, (hg k (hlt k (by rw [hk']; simp))).trans h1, h2.mono hle rfl⟩
  · intro k hk
    by_cases hKk : K k
    · rw [keeps_in hKk] at hk; cases hk
    · rw [keeps_out hKk] at hk
      exact (hg k (hlt k (by rw [hk]; simp))).trans (h.dead k hk)
  · intro k k' l l' hk hk' ho hb
    exact h.inj k k' l l' (old k l hk) (old k' l' hk') ho hb
  · intro g hgl
    have : ¬ K g := fun hKk => by have := (hK g hKk).1; have := h.gnext; omega
    rw [keeps_out this]
    exact h.glob g hgl

/-- The state whose next object is to have this number. -/
def AS.at (e : AS) (k : Nat) : AS := ⟨e.next, e.heap, e.log, some k⟩
theorem AS.get_at (e : AS) (k j : Nat) : (e.at k).get j = e.get j := rfl
theorem LeV.unkeep {ι : Iota} {k : Nat} (h : ι k = .kept) : LeV ι (upd ι k .free) := fun j => by
  by_cases hj : j = k
  · subst hj; rw [h]; trivial
  · rw [upd_other _ hj]; exact (Le.refl ι).v j
theorem Rel.unkeep {ι : Iota} {e : AS} {W : World} (h : Rel P ok G ι e W) {k : Nat} (hk : ι k = .kept) (hlt : k < e.next) (hG : G ≤ k) : Rel P ok G (upd ι k .free) (e.at k) W := by
  have old : ∀ j x, upd ι k .free j = x → x ≠ .free → ι j = x := fun j x hj hx => by
    by_cases e : j = k
    · subst e; rw [upd_same] at hj; exact absurd hj.symm hx
    · rwa [upd_other _ e] at hj
  refine ⟨?_, ?_, ?_, ?_, ?_, ?_, h.gnext⟩
  · intro j hj
    have hj' : e.next ≤ j := hj
    rw [upd_other _ (by omega)]
    exact h.next j hj'
  · intro j hj
    have : k = j := by injection hj
    subst this
    exact ⟨upd_same _ _ _, hlt, hG⟩
  · intro j l hj
    obtain ⟨o, h1, h2⟩ := h.live j l (old j _ hj (by simp))
    refine ⟨o, h1, ?_⟩
    have hV := LeV.unkeep hk
    match o, h2 with
    | .row true e cells lo hi, ⟨h1, h2, h3, h4, h5, h6, c', fr, hc, h7, h8, h9⟩ => exact ⟨h1, h2, h3, h4, h5, h6, c', fr, hc, h7, h8, fun i hi => (h9 i hi).monoV hV⟩
    | .row false e cells lo hi, ⟨h1, h2, h3, h4, h5, h6, h7⟩ =>
      refine ⟨h1, h2, h3, h4, h5, h6, fun i hi => ?_⟩
      obtain ⟨v', hv, hr⟩ := h7 i hi
      exact ⟨v', hv, hr.monoV hV⟩
    | .map es clock, ⟨h1, h2, h3, es', hc, h4, h5⟩ =>
      refine ⟨h1, h2, h3, es', hc, h4, fun i e he => ?_⟩
      obtain ⟨e', h6, h7, h8, h9⟩ := h5 i e he
      exact ⟨e', h6, h7, h8, h9.monoV hV⟩
    | .iter x pos, h2 => exact h2
    | .loop st pending t params assign body defers, ⟨h1, h2, h3, r, hc, a1, a2, a3, a4, a5, a6, a7, a8, a9, ld, d1, d2, d3⟩ =>
      exact ⟨h1, h2, h3, r, hc, a1, a2, a3, a4, a5, fun i hi => (a6 i hi).monoV hV, a7, a8, a9, ld, hV.keep d1 d2, d2, d3⟩
    | .deferred _, h2 => exact h2
  · intro j hj
    exact h.dead j (old j _ hj (by simp))
  · intro j j' l l' hj hj' ho hb
    exact h.inj j j' l l' (old j _ hj (by simp)) (old j' _ hj' (by simp)) ho hb
  · intro g hg
    rw [upd_other _ (by omega)]
    exact h.glob g hg

theorem Rel.congr {ι : Iota} {s e : AS} {W : World} (h : Rel P ok G ι s W) (hn : e.next = s.next) (hp : e.pick = none) (hg : ∀ k, e.get k = s.get k) : Rel P ok G ι e W where
  next := fun k hk => h.next k (hn ▸ hk)
  pick := fun k hk => by rw [hp] at hk; cases hk
  live := fun k l hk => let ⟨o, h1, h2⟩ := h.live k l hk; ⟨o, (hg k).trans h1, h2⟩
  dead := fun k hk => (hg k).trans (h.dead k hk)
  inj := h.inj
  glob := h.glob
  gnext := hn ▸ h.gnext
/-- A float that was taken late has given back the state. -/
theorem Rel.back {ι : Iota} {e : AS} {k : Nat} {ob : AObj} {W : World} (h : Rel P ok G ι ((e.at k).new ob) W) (hp : e.pick = none) (ho : ((e.at k).new ob).get k = e.get k) : Rel P ok G ι e W := by
  refine h.congr rfl hp fun j => ?_
  by_cases hj : j = k
  · subst hj; exact ho.symm
  · rw [AS.get_new]
    have : (e.at k).id = k := rfl
    rw [this, if_neg hj]
    rfl
end Go.AE
