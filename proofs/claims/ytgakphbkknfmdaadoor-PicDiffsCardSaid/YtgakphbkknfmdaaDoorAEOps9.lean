import Derived.Test.YtgakphbkknfmdaaDoorAEOps8
set_option linter.all false
set_option linter.unusedSimpArgs false
set_option linter.unusedVariables false
set_option autoImplicit false
namespace Go.AE
variable {P : Program} {ok : Nat → Code → Bool} {G : Nat}

/-! ### What asks nothing but the program -/
theorem pureVal_run {α : Type} : ∀ (s : Sem α) (a : α), pureVal P s = some a → ∀ W : World, s.run P W = .ok a W
  | .pure x, a, h, W => by simp [pureVal] at h; subst h; rfl
  | .program k, a, h, W => by
    simp only [pureVal] at h
    exact pureVal_run (k P) a h W
  | .load .., a, h, W => by simp [pureVal] at h
  | .store .., a, h, W => by simp [pureVal] at h
  | .new .., a, h, W => by simp [pureVal] at h
  | .shape .., a, h, W => by simp [pureVal] at h
  | .freeze .., a, h, W => by simp [pureVal] at h
  | .frozen .., a, h, W => by simp [pureVal] at h
  | .getObj .., a, h, W => by simp [pureVal] at h
  | .setObj .., a, h, W => by simp [pureVal] at h
  | .choose .., a, h, W => by simp [pureVal] at h
  | .sys .., a, h, W => by simp [pureVal] at h
  | .mark .., a, h, W => by simp [pureVal] at h
  | .halt .., a, h, W => by simp [pureVal] at h

/-- A part of an aggregate. -/
theorem part_sound {E : Env} (hE : E.Ok P) {ι : Iota} {t : TypeId} {cs : List Value} {cs' : Array Value} {off : Nat} {v : Value} (hv : AE.apart E t cs off = some v) (hc : LRel ι cs cs'.toList) (W : World) :
    ∃ v', (part t cs' off).run P W = .ok v' W ∧ VRel ι v v' := by
  unfold AE.apart at hv
  cases hd : E.und t with
  | none => simp [hd] at hv
  | some d =>
  have hu := hE.und hd
  simp only [hd, Option.bind_eq_bind, Option.bind_some] at hv
  unfold part
  simp only [Sem.run_bind, ragg hu, Result.andThen]
  cases hg : isAggD d with
  | true =>
    rw [hg] at hv
    simp only [if_true] at hv ⊢
    cases hn : E.size t with
    | none => simp [hn] at hv
    | some n =>
    cases hcut : cut cs off n with
    | none => simp [hn, hcut] at hv
    | some c =>
    simp only [hn, hcut, Option.bind_some, Option.some.injEq] at hv
    subst hv
    refine ⟨.agg (cs'.extract off (off + n)), by simp [Sem.run_bind, rsize (hE.size hn), Result.andThen], ?_⟩
    have hcr := (hc.drop off).take n
    have := (cut_some hcut).1
    rw [← this] at hcr
    have e : cs'.extract off (off + n) = ⟨(cs'.toList.drop off).take n⟩ := by
      apply Array.ext'
      simp
    rw [e]
    exact hcr.agg
  | false =>
    rw [hg] at hv
    simp only [Bool.false_eq_true, if_false] at hv ⊢
    obtain ⟨v', g1, g2⟩ := hc.get hv
    have : cs'[off]? = some v' := by simpa using g1
    exact ⟨v', by simp [this], g2⟩

theorem frozen_none {ι : Iota} {L : Loc} {e : TypeId} {cells : List Value} {W : World} (hO : ORel P ok ι L (.row true e cells 0 0) W) : ∃ c fr, W.heap[L.block]? = some (.cells c e fr) ∧ ∀ o, W.frozen? ⟨L.block, o, none⟩ = false := by
  obtain ⟨_, _, _, _, _, _, c, fr, hh, _, h8, _⟩ := hO
  refine ⟨c, fr, hh, fun o => ?_⟩
  have := h8.1 (Nat.le_refl _)
  simp only [World.frozen?, hh, Bool.and_eq_false_iff, decide_eq_false_iff_not]
  rcases this with h | ⟨_, h1, h2⟩
  · by_cases hx : fr.1 ≤ o
    · exact .inr (by omega)
    · exact .inl hx
  · omega

theorem sameAddr_run {a b : Addr} (ha : a.spot = none) (hb : b.spot = none) (hne : a.block ≠ b.block) {W : World} {ca cb : Array Value} {ea eb : TypeId} {fa fb : Nat × Nat}
    (h1 : W.heap[a.block]? = some (.cells ca ea fa)) (h2 : W.heap[b.block]? = some (.cells cb eb fb)) (h3 : ∀ o, W.frozen? ⟨a.block, o, none⟩ = false) (h4 : ∀ o, W.frozen? ⟨b.block, o, none⟩ = false) :
    (sameAddr a b).run P W = .ok false W := by
  obtain ⟨ab, ao, as⟩ := a
  obtain ⟨bb, bo, bs⟩ := b
  simp only at ha hb hne h1 h2 h3 h4
  subst ha
  subst hb
  have hs1 : W.shape? ab = some (ea, ca.size) := by simp [World.shape?, h1]
  have hs2 : W.shape? bb = some (eb, cb.size) := by simp [World.shape?, h2]
  have hbe : (ab == bb) = false := by simpa using hne
  have f1 : ∀ o, (frozen ⟨ab, o, none⟩).run P W = .ok false W := fun o => by
    show Result.ok (W.frozen? _) W = _
    rw [h3]
  have f2 : ∀ o, (frozen ⟨bb, o, none⟩).run P W = .ok false W := fun o => by
    show Result.ok (W.frozen? _) W = _
    rw [h4]
  simp [sameAddr, hbe, f1, f2, noView, viewAt, hs1, hs2, mayBeOne, stringish, Result.andThen, h3, h4]

theorem guard_run (x y : Value) (op : BinOp) (t : TypeId) (p q : Operand) (W : World) : (∀ a b, ¬ (x = .agg a ∧ y = .agg b)) → ¬ (x = .nilIface ∧ y = .nilIface) → (eqGuard op t p q x y).run P W = .ok () W := by
  unfold eqGuard
  cases op <;> simp only [Bool.not_true, Bool.not_false, if_true, if_false, Bool.false_eq_true]
  all_goals first | exact fun _ _ => rfl | skip
  all_goals
    split
    · exact fun _ h2 => absurd ⟨rfl, rfl⟩ h2
    · exact fun h1 _ => absurd ⟨rfl, rfl⟩ (h1 _ _)
    · exact fun _ _ => rfl

theorem eqAt {t : TypeId} {x y : Value} {b : Bool} {W : World} (h : ∀ n, (Op.equalIn (n + 1) t x y).run P W = .ok b W) : (Op.equal t x y).run P W = .ok b W := h 9999

theorem equal_sound {E : Env} (hE : E.Ok P) {ι : Iota} {s : AS} {W : World} (h : Rel P ok G ι s W) {t : TypeId} {x x' y y' : Value} {b : Bool} (hv : aequal E s t x y = some b) (hx : VRel ι x x') (hy : VRel ι y y') :
    (Op.equal t x' y').run P W = .ok b W ∧ (∀ (op : BinOp) (p q : Operand), (eqGuard op t p q x' y').run P W = .ok () W) ∧
      binOp .eql t x' y' = (do pure (.bool (← Op.equal t x' y'))) ∧ binOp .neq t x' y' = (do pure (.bool (!(← Op.equal t x' y')))) := by
  unfold aequal at hv
  cases hd : E.und t with
  | none => simp [hd] at hv
  | some d =>
  have hu := hE.und hd
  rw [hd] at hv
  split at hv
  · rename_i hq; cases hq; cases hx; cases hv
    cases hy <;> exact ⟨eqAt fun n => by simp [Op.equalIn, rund hu, Result.andThen], fun op p q => guard_run _ _ op t p q W (by simp) (by simp), rfl, rfl⟩
  · rename_i hq; cases hq; cases hx; cases hy; cases hv
    exact ⟨eqAt fun n => by simp [Op.equalIn, rund hu, Result.andThen], fun op p q => guard_run _ _ op t p q W (by simp) (by simp), rfl, rfl⟩
  · rename_i hq; cases hq; cases hx; cases hv
    cases hy <;> exact ⟨eqAt fun n => by simp [Op.equalIn, rund hu, Result.andThen], fun op p q => guard_run _ _ op t p q W (by simp) (by simp), rfl, rfl⟩
  · rename_i hq; cases hq; cases hx; cases hy; cases hv
    exact ⟨eqAt fun n => by simp [Op.equalIn, rund hu, Result.andThen], fun op p q => guard_run _ _ op t p q W (by simp) (by simp), rfl, rfl⟩
  · rename_i hq; cases hq; cases hx; cases hv
    cases hy <;> exact ⟨eqAt fun n => by simp [Op.equalIn, rund hu, Result.andThen], fun op p q => guard_run _ _ op t p q W (by simp) (by simp), rfl, rfl⟩
  · rename_i hq; cases hq; cases hx; cases hy; cases hv
    exact ⟨eqAt fun n => by simp [Op.equalIn, rund hu, Result.andThen], fun op p q => guard_run _ _ op t p q W (by simp) (by simp), rfl, rfl⟩
  · rename_i hq; cases hq; cases hx; cases hy; cases hv
    exact ⟨eqAt fun n => by simp [Op.equalIn, rund hu, Result.andThen], fun op p q => guard_run _ _ op t p q W (by simp) (by simp), rfl, rfl⟩
  · rename_i hq; cases hq; cases hx; cases hy; cases hv
    exact ⟨eqAt fun n => by simp [Op.equalIn, rund hu, Result.andThen], fun op p q => guard_run _ _ op t p q W (by simp) (by simp), rfl, rfl⟩
  · rename_i hq; cases hq; cases hx; cases hy; cases hv
    exact ⟨eqAt fun n => by simp [Op.equalIn, rund hu, Result.andThen], fun op p q => guard_run _ _ op t p q W (by simp) (by simp), rfl, rfl⟩
  · rename_i hq; cases hq; cases hx; cases hy; cases hv
    exact ⟨eqAt fun n => by simp [Op.equalIn, rund hu, Result.andThen], fun op p q => guard_run _ _ op t p q W (by simp) (by simp), rfl, rfl⟩
  · rename_i e a c hq
    cases hq
    cases hx with
    | ptr p =>
    cases hy with
    | ptr q =>
    rename_i a' c'
    refine ⟨?_, fun op p q => guard_run _ _ op t p q W (by simp) (by simp), rfl, rfl⟩
    split at hv
    case h_2 => cases hv
    rename_i n e1 cs1 e2 cs2 hn hra hrb
    split at hv
    case isFalse => cases hv
    rename_i hsp
    cases hv
    obtain ⟨L1, hL1, hO1, _⟩ := h.cells hra p.notFree
    obtain ⟨L2, hL2, hO2, _⟩ := h.cells hrb q.notFree
    have hoff1 : L1.off = 0 := hO1.2.2.1
    have hoff2 : L2.off = 0 := hO2.2.2.1
    have ha : a' = ⟨L1.block, a.off, none⟩ := by
      rcases p.2 with hd' | ⟨L', hL', e⟩
      · rw [hL1] at hd'; cases hd'
      · rw [hL1] at hL'; cases hL'; rw [e, hoff1, Nat.zero_add]
    have hc : c' = ⟨L2.block, c.off, none⟩ := by
      rcases q.2 with hd' | ⟨L', hL', e⟩
      · rw [hL2] at hd'; cases hd'
      · rw [hL2] at hL'; cases hL'; rw [e, hoff2, Nat.zero_add]
    subst ha
    subst hc
    have hsame : (sameAddr ⟨L1.block, a.off, none⟩ ⟨L2.block, c.off, none⟩).run P W = .ok (a == c) W := by
      by_cases hb : a.block = c.block
      · have : L1 = L2 := by rw [hb, hL2] at hL1; cases hL1; rfl
        subst this
        have e : (a == c) = ((⟨L1.block, a.off, none⟩ : Addr) == ⟨L1.block, c.off, none⟩) := by
          obtain ⟨ab, ao, as⟩ := a
          obtain ⟨cb, co, cs⟩ := c
          simp only at hb hsp
          obtain ⟨rfl, rfl⟩ := hsp
          subst hb
          rw [Bool.eq_iff_iff]
          simp
        rw [e]
        simp [sameAddr]
      · have hne : L1.block ≠ L2.block := fun e => hb (h.inj a.block c.block L1 L2 hL1 hL2 hO1.1 e)
        obtain ⟨c1, f1, q1, q2⟩ := frozen_none hO1
        obtain ⟨c2, f2, q3, q4⟩ := frozen_none hO2
        have e : (a == c) = false := by
          rw [beq_eq_false_iff_ne]
          exact fun e => hb (by rw [e])
        rw [e]
        exact sameAddr_run rfl rfl hne q1 q3 q2 q4
    have hsz := rsize (P := P) (hE.size hn) W
    exact eqAt fun n => by simp [Op.equalIn, rund hu, Result.andThen, hsz, hsame]
  · cases hv
end Go.AE
