import Derived.Test.YtgakphbkknfmdaaDoorAEOps6
set_option linter.all false
set_option linter.unusedSimpArgs false
set_option linter.unusedVariables false
set_option autoImplicit false
namespace Go.AE
variable {P : Program} {ok : Nat → Code → Bool} {G : Nat}

theorem getD_zeroCells (z : Array Value) (n i : Nat) (h : i < n * z.size) (h0 : 0 < z.size) : (Builtin.zeroCells z n).getD i undef = z.getD (i % z.size) undef := by
  have hlt : i % z.size < z.size := Nat.mod_lt _ h0
  simp [Builtin.zeroCells, Array.getD, h, hlt]

theorem LRel_zeroCells {ι : Iota} {z : Value} (hf : flatV z = true) (len : Nat) (h0 : vcells z ≠ []) : LRel ι (times (vcells z) len) (Builtin.zeroCells z.cells len).toList := by
  have hzr : LRel ι (vcells z) z.cells.toList := (VRel.ofFlat ι z hf).vcells
  have hpos : 0 < (vcells z).length := List.length_pos_iff.2 h0
  have hzs : z.cells.size = (vcells z).length := by have := hzr.1; simp at this; omega
  have hzl : (Builtin.zeroCells z.cells len).toList.length = len * z.cells.size := by rw [Array.length_toList, size_zeroCells]
  refine ⟨by rw [length_times, hzl, hzs], fun i hi => ?_⟩
  rw [length_times] at hi
  have e := getD_zeroCells z.cells len i (by rw [hzs]; exact hi) (by omega)
  rw [getD_times _ h0 _ _ hi]
  have := hzr.getD (i % (vcells z).length)
  have e2 : (Builtin.zeroCells z.cells len).toList.getD i undef = (Builtin.zeroCells z.cells len).getD i undef := (getD_toList _ _).symm
  rw [e2, e, hzs, getD_toList]
  exact this

theorem clear_sound {E : Env} (hE : E.Ok P) {ι : Iota} {s s1 : AS} {W : World} (h : Rel P ok G ι s W) {t : TypeId} {ats : Array TypeId} (hat : ats[0]? = some t) {x x' : Value} (hv : aclear E s t x = some s1) (hx : VRel ι x x') (ty : TypeId) :
    ∃ ι' W', (Builtin.clear_ ats ty #[x']).run P W = .ok (.tuple #[]) W' ∧ Post P ok G ι W ι' s1 W' := by
  unfold aclear at hv
  cases hd : E.und t with
  | none => simp [hd] at hv
  | some d =>
  have hu := hE.und hd
  simp only [hd, Option.bind_eq_bind, Option.bind_some] at hv
  split at hv
  case h_2 => cases hv
  rename_i elem
  cases hz : E.zero elem with
  | none => simp [hz] at hv
  | some z =>
  obtain ⟨⟨i, hi, hiz⟩, hf⟩ := hE.zero hz
  simp only [hz, Option.bind_some] at hv
  split at hv
  · cases hv
    cases hx
    refine ⟨ι, W, ?_, .refl h⟩
    simp [Builtin.clear_, hat, rund hu, Result.andThen]
  · rename_i a n c
    cases hx with
    | slice p =>
    rename_i a' c'
    split at hv
    · rename_i h0
      cases hv
      subst h0
      refine ⟨ι, W, ?_, .refl h⟩
      simp [Builtin.clear_, hat, rund hu, Result.andThen]
    · rename_i hn
      split at hv
      · cases hv
      · rename_i hc
        simp only [not_or, Decidable.not_not] at hc
        have hne : vcells z ≠ [] := fun e => by rw [e] at hc; simp at hc
        obtain ⟨L, W', hL, hst, hP⟩ := put_sound (P := P) (ok := ok) h hv p.notFree (LRel_zeroCells (ι := ι) hf n hne)
        have ha : a' = ⟨L.block, L.off + a.off, none⟩ := by
          rcases p.2.2 with hd' | ⟨L', hL', _, _, h4⟩
          · rw [hL] at hd'; cases hd'
          · rw [hL] at hL'; cases hL'
            rcases h4 with h4 | h4
            · exact h4
            · have := p.2.1; omega
        subst ha
        refine ⟨ι, W', ?_, hP⟩
        obtain ⟨k, rfl⟩ : ∃ k, n = k + 1 := ⟨n - 1, by omega⟩
        simp [Builtin.clear_, hat, rund hu, Result.andThen, rzero hi hiz, hst]
  · cases hv

/-! ### unsafe.String -/
theorem freeze_heap (W : World) (b n : Nat) (hn : n ≠ 0) {c : Array Value} {e : TypeId} {lo hi : Nat} (h : W.heap[b]? = some (.cells c e (lo, hi))) :
    (W.freeze ⟨b, 0, none⟩ n).heap[b]? = some (.cells c e (if lo == hi then (0, 0 + n) else (min lo 0, max hi (0 + n)))) := by
  simp [World.freeze, hn, Array.getElem?_modify, h]
theorem freeze_other (W : World) (b n k : Nat) (h : k ≠ b) : (W.freeze ⟨b, 0, none⟩ n).heap[k]? = W.heap[k]? := by
  unfold World.freeze
  split
  · rfl
  · simp [Array.getElem?_modify, Ne.symm h]
theorem freeze_rest (W : World) (b n : Nat) : (W.freeze ⟨b, 0, none⟩ n).heap.size = W.heap.size ∧ (W.freeze ⟨b, 0, none⟩ n).os = W.os ∧ (W.freeze ⟨b, 0, none⟩ n).tape = W.tape ∧ (W.freeze ⟨b, 0, none⟩ n).output = W.output := by
  unfold World.freeze
  split
  · exact ⟨rfl, rfl, rfl, rfl⟩
  · exact ⟨by simp, rfl, rfl, rfl⟩

theorem unsafeString_sound {E : Env} (hE : E.Ok P) {ι : Iota} {s s1 : AS} {W : World} (h : Rel P ok G ι s W) {t it : TypeId} {x x' n n' v : Value} (hv : aunsafeString E s t x n = some (v, s1)) (hx : VRel ι x x') (hn : VRel ι n n') (ty : TypeId) :
    ∃ ι' v' W', (Builtin.unsafeString_ #[t, it] ty #[x', n']).run P W = .ok v' W' ∧ Post P ok G ι W ι' s1 W' ∧ VRel ι' v v' := by
  unfold aunsafeString at hv
  split at hv
  · cases hv
    cases hx
    cases hn
    exact ⟨ι, _, W, Lib.run_unsafeString_none W t it ty none, .refl h, .string _⟩
  · rename_i a n
    cases hn
    cases hx with
    | ptr p =>
    rename_i a'
    split at hv
    · cases hv
    rename_i hn0
    split at hv
    · rename_i h0
      subst h0
      cases hv
      exact ⟨ι, _, W, Lib.run_unsafeString_none W t it ty (some a'), .refl h, .string _⟩
    rename_i hn1
    cases hd : E.und t with
    | none => simp [hd] at hv
    | some d =>
    have hu := hE.und hd
    simp only [hd, Option.bind_eq_bind, Option.bind_some] at hv
    split at hv
    case h_2 => cases hv
    rename_i u
    split at hv
    case h_2 => cases hv
    rename_i e cells lo hi hrow
    split at hv
    case isFalse => cases hv
    rename_i hc
    obtain ⟨hsp, hoff, rfl, hsz, hlh⟩ := hc
    cases hcut : cut cells 0 n.toNat with
    | none => simp [hcut] at hv
    | some c =>
    simp only [hcut, Option.bind_some] at hv
    cases hb : bytesV c with
    | none => simp [hb] at hv
    | some bs =>
    simp only [hb, Option.bind_some, Option.some.injEq, Prod.mk.injEq] at hv
    obtain ⟨rfl, rfl⟩ := hv
    obtain ⟨L, hL, hO, hcell⟩ := h.cells hrow p.notFree
    obtain ⟨o1, o2, o3, o4, o5, o6, c0, fr, hh, o7, o8, o9⟩ := hO
    have ha : a' = ⟨L.block, 0, none⟩ := by
      rcases p.2 with hd' | ⟨L', hL', e⟩
      · rw [hL] at hd'; cases hd'
      · rw [hL] at hL'; cases hL'; rw [e, o3, hoff]
    subst ha
    obtain ⟨c', q1, q2, q3⟩ := cells_of hcell hcut
    obtain ⟨ns, e1, e2, e3⟩ := bytesV_sound hb q1
    have hbl : bs.length = n.toNat := by rw [e2, List.length_map, ← q2, e1, List.length_map]
    have hcl : cells.length ≤ c0.size := by omega
    have hncl : n.toNat ≤ cells.length := by
      obtain ⟨g1, g2, _⟩ := cut_some hcut
      rw [g1] at g2
      simp at g2
      omega
    have hlen63 : n.toNat ≤ 9223372036854775807 := by omega
    have hrun := Lib.run_unsafeString_row (P := P) W t it ty e hu (size_cells hE hsz) L.block c0.size (by simp [World.shape?, hh]) bs (by intro e0; rw [e0] at hbl; simp at hbl; omega) (by omega) (by omega) (fun j x hj => by
      have hc := q3 j (.int .u8 x.toNat) (by
        rw [e1, List.getElem?_map]
        rw [e2, List.getElem?_map] at hj
        cases hns : ns[j]? with
        | none => simp [hns] at hj
        | some k =>
          rw [hns] at hj
          simp only [Option.map_some, Option.some.injEq] at hj ⊢
          obtain ⟨k0, k1⟩ := e3 k (List.mem_of_getElem? hns)
          rw [← hj]
          congr 1
          rw [UInt8.toNat_ofNat']
          have : k.toNat % 2 ^ 8 = k.toNat := Nat.mod_eq_of_lt (by omega)
          omega)
      rw [o3] at hc
      exact hc)
    have hnn : ((bs.length : Nat) : Int) = n := by rw [hbl]; omega
    rw [hnn] at hrun
    obtain ⟨r1, r2, r3, r4⟩ := freeze_rest W L.block bs.length
    obtain ⟨flo, fhi⟩ := fr
    refine ⟨ι, _, _, hrun, post_set h hL o1 _ (fun b hb => freeze_other _ _ _ _ hb) r1 r2 r3 r4 ?_, .string _⟩
    have hfz := freeze_heap W L.block bs.length (by omega) hh
    have hfr := o8.1 hlh
    simp only at hfr
    by_cases hl : lo = hi
    · rw [if_pos hl]
      refine ⟨o1, o2, o3, o4, o5, o6, c0, _, hfz, o7, ⟨fun _ => ?_, fun h => by omega⟩, o9⟩
      right
      have : flo = fhi := by rcases hfr with h | ⟨h1, h2, h3⟩; exact h; omega
      simp [this, hbl]
      omega
    · rw [if_neg hl]
      refine ⟨o1, o2, o3, o4, o5, o6, c0, _, hfz, o7, ⟨fun _ => ?_, fun h => by omega⟩, o9⟩
      right
      by_cases hff : flo = fhi
      · simp [hff, hbl]
        omega
      · have : (flo == fhi) = false := by simpa using hff
        rw [this]
        rcases hfr with h | ⟨h1, h2, h3⟩
        · exact absurd h hff
        · simp [hbl]
          omega
  · cases hv
end Go.AE
