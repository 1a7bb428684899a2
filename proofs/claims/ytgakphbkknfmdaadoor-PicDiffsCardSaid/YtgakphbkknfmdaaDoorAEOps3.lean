import Derived.Test.YtgakphbkknfmdaaDoorAEOps2
set_option linter.all false
set_option linter.unusedSimpArgs false
set_option linter.unusedVariables false
set_option autoImplicit false
namespace Go.AE
variable {P : Program} {ok : Nat → Code → Bool} {G : Nat}

/-! ### x[lo:hi:mx] -/
def OptRel (ι : Iota) : Option Value → Option Value → Prop
  | none, none => True
  | some v, some v' => VRel ι v v'
  | _, _ => False

theorem bound_some {ι : Iota} {x x' : Option Value} {d l : Nat} (h : bound x d = some l) (hx : OptRel ι x x') : (x = none ∧ x' = none ∧ l = d) ∨ ∃ k i, x = some (.int k i) ∧ x' = some (.int k i) ∧ 0 ≤ i ∧ l = i.toNat := by
  unfold bound at h
  split at h
  · cases h
    cases x' with
    | none => exact .inl ⟨rfl, rfl, rfl⟩
    | some _ => exact hx.elim
  · rename_i k i
    split at h
    · rename_i hi
      cases h
      cases x' with
      | none => exact hx.elim
      | some v' =>
        have hx' : VRel ι (.int k i) v' := hx
        cases hx'
        exact .inr ⟨k, i, rfl, rfl, hi, rfl⟩
    · cases h
  · cases h

theorem sliceBound_run (k : IntKind) (i : Int) (y : Nat) (c : BoundsCode) (h0 : 0 ≤ i) (hy : i.toNat ≤ y) (W : World) : (Instr.sliceBound (.int k i) y c).run P W = .ok i.toNat W := by
  unfold Instr.sliceBound
  have : i ≤ (y : Int) := by omega
  simp [Sem.run_bind, asInt_run, Result.andThen, h0, this, rpure]

/-- The three bounds, where they are known. -/
theorem bounds_run (isS : Bool) (len cap l h m : Nat) (lo hi mx : Option Value)
    (hlo : (lo = none ∧ l = 0) ∨ ∃ k i, lo = some (.int k i) ∧ 0 ≤ i ∧ l = i.toNat) (hhi : (hi = none ∧ h = len ∧ mx = none) ∨ ∃ k i, hi = some (.int k i) ∧ 0 ≤ i ∧ h = i.toNat)
    (hmx : (mx = none ∧ m = cap) ∨ ∃ k i, mx = some (.int k i) ∧ 0 ≤ i ∧ m = i.toNat) (h1 : l ≤ h) (h2 : h ≤ m) (h3 : m ≤ cap) (W : World) :
    (Instr.sliceBounds isS len cap lo hi mx).run P W = .ok (l, h, m) W := by
  unfold Instr.sliceBounds
  rcases hmx with ⟨rfl, rfl⟩ | ⟨km, im, rfl, hm0, rfl⟩
  · rcases hhi with ⟨rfl, rfl, _⟩ | ⟨kh, ih, rfl, hh0, rfl⟩ <;> rcases hlo with ⟨rfl, rfl⟩ | ⟨kl, il, rfl, hl0, rfl⟩ <;>
      simp [Sem.run_bind, rpure, Result.andThen, sliceBound_run, *]
  · rcases hhi with ⟨rfl, rfl, hc⟩ | ⟨kh, ih, rfl, hh0, rfl⟩
    · cases hc
    · rcases hlo with ⟨rfl, rfl⟩ | ⟨kl, il, rfl, hl0, rfl⟩ <;>
        simp [Sem.run_bind, rpure, Result.andThen, sliceBound_run, *]

/-- How a bound of the evaluator reads in the model. -/
theorem bound_lo {ι : Iota} {x x' : Option Value} {l : Nat} (h : bound x 0 = some l) (hx : OptRel ι x x') : (x' = none ∧ l = 0) ∨ ∃ k i, x' = some (.int k i) ∧ 0 ≤ i ∧ l = i.toNat := by
  rcases bound_some h hx with ⟨_, h2, h3⟩ | ⟨k, i, _, h2, h3, h4⟩
  · exact .inl ⟨h2, h3⟩
  · exact .inr ⟨k, i, h2, h3, h4⟩
theorem bound_hi {ι : Iota} {x x' y y' : Option Value} {d l : Nat} (h : bound x d = some l) (hx : OptRel ι x x') (hy : OptRel ι y y') (hn : x = none → y = none) : (x' = none ∧ l = d ∧ y' = none) ∨ ∃ k i, x' = some (.int k i) ∧ 0 ≤ i ∧ l = i.toNat := by
  rcases bound_some h hx with ⟨h1, h2, h3⟩ | ⟨k, i, _, h2, h3, h4⟩
  · refine .inl ⟨h2, h3, ?_⟩
    have := hn h1
    subst this
    cases y' with
    | none => rfl
    | some _ => exact hy.elim
  · exact .inr ⟨k, i, h2, h3, h4⟩
theorem bound_mx {ι : Iota} {x x' : Option Value} {d l : Nat} (h : bound x d = some l) (hx : OptRel ι x x') : (x' = none ∧ l = d) ∨ ∃ k i, x' = some (.int k i) ∧ 0 ≤ i ∧ l = i.toNat := by
  rcases bound_some h hx with ⟨_, h2, h3⟩ | ⟨k, i, _, h2, h3, h4⟩
  · exact .inl ⟨h2, h3⟩
  · exact .inr ⟨k, i, h2, h3, h4⟩

theorem slice_run {t elem : TypeId} (hu : P.underlying t = some (.slice elem)) {n : Nat} (hs : (P.info? elem).map (·.size) = some n) (a : Option Addr) (len cap l h m : Nat) (lo hi mx : Option Value) (W : World)
    (hb : (Instr.sliceBounds true len cap lo hi mx).run P W = .ok (l, h, m) W) :
    (Instr.sliceAt t (.slice a len cap) lo hi mx).run P W = .ok (.slice (if m = l then a else a.map (·.add (l * n))) (h - l) (m - l)) W := by
  unfold Instr.sliceAt
  simp only [Sem.run_bind, rund hu, Result.andThen]
  unfold Instr.slice
  simp only [Sem.run_bind, rund hu, Result.andThen, hb, rsize hs, rpure]

theorem slice_sound {E : Env} (hE : E.Ok P) {ι : Iota} {s : AS} {W : World} (h : Rel P ok G ι s W) {t : TypeId} {x x' v : Value} {lo hi mx lo' hi' mx' : Option Value} (hv : aslice E s t x lo hi mx = some v)
    (hx : VRel ι x x') (hlo : OptRel ι lo lo') (hhi : OptRel ι hi hi') (hmx : OptRel ι mx mx') (hhm : hi = none → mx = none) :
    ∃ v', (Instr.sliceAt t x' lo' hi' mx').run P W = .ok v' W ∧ VRel ι v v' := by
  unfold aslice at hv
  cases hd : E.und t with
  | none => simp [hd] at hv
  | some d =>
    have hu := hE.und hd
    simp only [hd, Option.bind_eq_bind, Option.bind_some] at hv
    split at hv
    · -- nil
      rename_i elem
      cases hx
      cases hn : E.size elem with
      | none => simp [hn] at hv
      | some n =>
      cases hl : bound lo 0 with
      | none => simp [hl, hn] at hv
      | some l =>
      cases hh : bound hi 0 with
      | none => simp [hl, hh, hn] at hv
      | some hg =>
      cases hm : bound mx 0 with
      | none => simp [hl, hh, hm, hn] at hv
      | some m =>
        simp only [hn, hl, hh, hm, Option.bind_some] at hv
        split at hv
        · rename_i hc
          obtain ⟨rfl, rfl, rfl⟩ := hc
          cases hv
          refine ⟨_, slice_run hu (hE.size hn) none 0 0 0 0 0 _ _ _ W (bounds_run _ _ _ _ _ _ _ _ _ (bound_lo hl hlo) (bound_hi hh hhi hmx hhm) (bound_mx hm hmx) (by omega) (by omega) (by omega) W), ?_⟩
          exact .sliceNil 0 0
        · cases hv
    · -- a slice
      rename_i elem a len cap
      cases hx with
      | slice p =>
      rename_i a' c'
      cases hn : E.size elem with
      | none => simp [hn] at hv
      | some n =>
      cases hl : bound lo 0 with
      | none => simp [hl, hn] at hv
      | some l =>
      cases hh : bound hi len with
      | none => simp [hl, hh, hn] at hv
      | some hg =>
      simp only [hn, hl, hh, Option.bind_some] at hv
      split at hv
      · cases hv
      · rename_i hc0
        simp only [not_or, Decidable.not_not] at hc0
        obtain ⟨hspot, hn0, hlh⟩ := hc0
        cases hroom : roomOf (s.get a.block) elem n a.off cap with
        | none => simp [hroom] at hv
        | some room =>
          simp only [hroom, Option.bind_some] at hv
          unfold roomOf at hroom
          split at hroom
          case h_2 => cases hroom
          rename_i own e cells flo fhi hrow
          obtain ⟨L, hL, hO, hcell⟩ := h.cells hrow p.notFree
          -- what is known to lie there
          have hroom' : room ≤ c' ∧ (cap = 0 → L.size = n ∧ c' = (L.ext - a.off) / n) ∧ (cap ≠ 0 → c' = cap - 1) ∧ (a' = ⟨L.block, L.off + a.off, none⟩ ∨ c' = 0) := by
            rcases p.2.2 with hd' | ⟨L', hL', h1, h2, h3⟩
            · rw [hL] at hd'; cases hd'
            · rw [hL] at hL'; cases hL'
              by_cases hcap : cap = 0
              · rw [if_pos hcap] at hroom
                by_cases he : e = elem
                · rw [if_pos he] at hroom
                  cases hroom
                  have hsz : L.size = n ∧ cells.length ≤ L.ext := by
                    have hs := hE.size hn
                    cases own with
                    | true => obtain ⟨_, _, _, _, h5, h6, _⟩ := hO; rw [he, hs] at h5; exact ⟨by simpa using h5.symm, h6⟩
                    | false => obtain ⟨_, _, _, h5, h6, _⟩ := hO; rw [he, hs] at h5; exact ⟨by simpa using h5.symm, h6⟩
                  have hc' := h1 hcap
                  rw [hsz.1] at hc'
                  refine ⟨?_, fun _ => ⟨hsz.1, hc'⟩, fun h => absurd hcap h, h3⟩
                  rw [hc']
                  exact Nat.div_le_div_right (by omega)
                · rw [if_neg he] at hroom; cases hroom
              · rw [if_neg hcap] at hroom
                cases hroom
                exact ⟨by rw [h2 hcap]; exact Nat.le_refl _, fun h => absurd h hcap, h2, h3⟩
          obtain ⟨hroom2, hroom3, hroom4, hroom5⟩ := hroom'
          split at hv
          · cases hv
          · rename_i hc1
            have hlen := p.2.1
            have hgc : hg ≤ c' := by
              by_cases hle : hg ≤ len
              · omega
              · have : ¬ room < hg := fun hr => hc1 ⟨by omega, hr⟩
                omega
            have hplace : ∀ m, l ≤ m → m ≤ c' → (∃ A, (if m = l then some a' else (some a').map (·.add (l * n))) = some A ∧ (A = ⟨L.block, L.off + (a.off + l * n), none⟩ ∨ m - l = 0)) := fun m _ hm => by
              by_cases hml : m = l
              · exact ⟨a', by simp [hml], .inr (by omega)⟩
              · refine ⟨a'.add (l * n), by simp [hml], .inl ?_⟩
                rcases hroom5 with e | e
                · rw [e, add_none]; simp [Nat.add_assoc]
                · omega
            split at hv
            · -- no third index
              cases hv
              obtain ⟨A, hA1, hA2⟩ := hplace c' (by omega) (Nat.le_refl _)
              refine ⟨.slice (some A) (hg - l) (c' - l), ?_, .slice ⟨rfl, by omega, .inr ⟨L, hL, ?_, ?_, hA2⟩⟩⟩
              · rw [← hA1]
                have hmx' : mx' = none := by cases mx' with | none => rfl | some _ => exact hmx.elim
                exact slice_run hu (hE.size hn) _ _ _ _ _ _ _ _ _ W (bounds_run _ _ _ _ _ _ _ _ _ (bound_lo hl hlo) (bound_hi hh hhi hmx hhm) (.inl ⟨hmx', rfl⟩) (by omega) hgc (Nat.le_refl _) W)
              · intro hz
                by_cases hcap : cap = 0
                · obtain ⟨q1, q2⟩ := hroom3 hcap
                  show c' - l = (L.ext - (a.off + l * n)) / L.size
                  rw [q1, q2, Nat.sub_add_eq, Nat.mul_comm l n, Nat.sub_mul_div]
                · have := hroom4 hcap
                  simp only [hcap, if_false] at hz
                  show c' - l = _
                  omega
              · intro hz
                by_cases hcap : cap = 0
                · simp [hcap] at hz
                · have := hroom4 hcap
                  simp only [hcap, if_false] at hz ⊢
                  omega
            · -- three indexes
              rename_i vm
              cases hm : bound (some vm) 0 with
              | none => simp [hm] at hv
              | some m =>
                simp only [hm, Option.bind_some] at hv
                split at hv
                · cases hv
                · rename_i hc2
                  simp only [not_or] at hc2
                  cases hv
                  have hmc : m ≤ c' := by
                    by_cases hle : m ≤ len
                    · omega
                    · have : ¬ room < m := fun hr => hc2.1 ⟨by omega, hr⟩
                      omega
                  obtain ⟨A, hA1, hA2⟩ := hplace m (by omega) hmc
                  refine ⟨.slice (some A) (hg - l) (m - l), ?_, .slice ⟨rfl, by omega, .inr ⟨L, hL, fun hz => by omega, fun _ => by omega, hA2⟩⟩⟩
                  rw [← hA1]
                  have hb := bound_mx hm (hmx : OptRel ι (some vm) mx')
                  refine slice_run hu (hE.size hn) _ _ _ _ _ _ _ _ _ W (bounds_run _ _ _ _ _ _ _ _ _ (bound_lo hl hlo) (bound_hi hh hhi hmx hhm) (.inr ?_) (by omega) (by omega) hmc W)
                  rcases hb with ⟨hb1, _⟩ | hb
                  · rw [hb1] at hmx; exact hmx.elim
                  · exact hb
    · -- an array behind a pointer
      rename_i len elem a
      cases hx with
      | ptr p =>
      rename_i a'
      cases hn : E.size elem with
      | none => simp [hn] at hv
      | some n =>
      cases hl : bound lo 0 with
      | none => simp [hl, hn] at hv
      | some l =>
      cases hh : bound hi len with
      | none => simp [hl, hh, hn] at hv
      | some hg =>
      cases hm : bound mx len with
      | none => simp [hl, hh, hm, hn] at hv
      | some m =>
      simp only [hn, hl, hh, hm, Option.bind_some] at hv
      split at hv
      · cases hv
      · rename_i hc0
        simp only [not_or, Decidable.not_not] at hc0
        obtain ⟨hspot, hn0, hlh, hmh, hml⟩ := hc0
        cases hv
        have hb := bounds_run (P := P) false len len l hg m lo' hi' mx' (bound_lo hl hlo) (bound_hi hh hhi hmx hhm) (bound_mx hm hmx) (by omega) (by omega) (by omega) W
        refine ⟨.slice (some (if m = l then a' else a'.add (l * n))) (hg - l) (m - l), ?_, .slice ⟨rfl, by omega, ?_⟩⟩
        · unfold Instr.sliceAt
          simp [Sem.run_bind, rund hu, Result.andThen, Instr.sureAddr, rpure, hb, rsize (hE.size hn)]
        · rcases p.2 with hd' | ⟨L, hL, e⟩
          · exact .inl hd'
          · refine .inr ⟨L, hL, fun hz => by omega, fun _ => by omega, ?_⟩
            by_cases hml' : m = l
            · exact .inr (by omega)
            · refine .inl ?_
              rw [if_neg hml', e, add_none]
              simp [Nat.add_assoc]
    · cases hv
end Go.AE
