import Derived.Test.YtgakphbkknfmdaaDoorAEOps5
import Derived.Lib.ConvBytes
set_option linter.all false
set_option linter.unusedSimpArgs false
set_option linter.unusedVariables false
set_option autoImplicit false
namespace Go.AE
variable {P : Program} {ok : Nat → Code → Bool} {G : Nat}

theorem copy_sound {E : Env} (hE : E.Ok P) {ι : Iota} {s s1 : AS} {W : World} (h : Rel P ok G ι s W) {t : TypeId} {ats : Array TypeId} (hat : ats[0]? = some t) {x x' y y' v : Value} (hv : acopy E s t x y = some (v, s1)) (hx : VRel ι x x') (hy : VRel ι y y') (ty : TypeId) :
    ∃ ι' v' W', (Builtin.copy_ ats ty #[x', y']).run P W = .ok v' W' ∧ Post P ok G ι W ι' s1 W' ∧ VRel ι' v v' := by
  unfold acopy at hv
  cases hd : E.und t with
  | none => simp [hd] at hv
  | some d =>
  have hu := hE.und hd
  simp only [hd, Option.bind_eq_bind, Option.bind_some] at hv
  split at hv
  case h_2 => cases hv
  rename_i elem
  cases hn : E.size elem with
  | none => simp [hn] at hv
  | some size =>
  cases hm : lenOfA y with
  | none => simp [hn, hm] at hv
  | some m =>
  simp only [hn, hm, Option.bind_some] at hv
  have hlen := lenOfA_sound (P := P) hm hy W
  have hsz := rsize (P := P) (hE.size hn) W
  split at hv
  · rename_i n c
    cases hx
    split at hv
    · rename_i h0
      subst h0
      cases hv
      refine ⟨ι, .int .i64 0, W, ?_, .refl h, .int _ _⟩
      have hf : (Builtin.firstCells size 0 y').run P W = .ok (#[] : Array Value) W := by
        cases hy <;> simp [lenOfA] at hm
        · simp [Builtin.firstCells]
        · rfl
        · simp [Builtin.firstCells, loadCells, loadCellsFrom]
      have hmin : Nat.min m 0 = 0 := Nat.min_eq_right (Nat.zero_le _)
      simp [Builtin.copy_, hat, rund hu, Result.andThen, hlen, hsz, hmin, hf, goInt]
    · cases hv
  · rename_i a n c
    cases hx with
    | slice p =>
    rename_i a' c'
    cases hnew : firstA s size (Nat.min m n) y with
    | none => simp [hnew] at hv
    | some new =>
    simp only [hnew, Option.bind_some] at hv
    obtain ⟨new', h1, h2, h3⟩ := first_sound (P := P) h hnew hy
    have hf := h3 W rfl
    split at hv
    · rename_i h0
      cases hv
      refine ⟨ι, .int .i64 0, W, ?_, .refl h, .int _ _⟩
      have hnil : new' = [] := List.eq_nil_of_length_eq_zero (by rw [← h1.1, h2, h0]; simp)
      subst hnil
      rw [h0] at hf
      simp [Builtin.copy_, hat, rund hu, Result.andThen, hlen, hsz, h0, hf, goInt, storeCells]
    · split at hv
      · cases hv
      rename_i hk hc
      simp only [not_or, Decidable.not_not] at hc
      cases hput : aput s a.block a.off new with
      | none => simp [hput] at hv
      | some s' =>
        simp only [hput, Option.bind_some, Option.some.injEq, Prod.mk.injEq] at hv
        obtain ⟨rfl, rfl⟩ := hv
        obtain ⟨L, W', hL, hst, hP⟩ := put_sound (P := P) (ok := ok) h hput p.notFree h1
        have ha : a' = ⟨L.block, L.off + a.off, none⟩ := by
          rcases p.2.2 with hd' | ⟨L', hL', _, _, h4⟩
          · rw [hL] at hd'; cases hd'
          · rw [hL] at hL'; cases hL'
            rcases h4 with h4 | h4
            · exact h4
            · have := p.2.1
              have : Nat.min m n ≤ n := Nat.min_le_right _ _
              omega
        subst ha
        refine ⟨ι, .int .i64 (Nat.min m n), W', ?_, hP, .int _ _⟩
        simp [Builtin.copy_, hat, rund hu, Result.andThen, hlen, hsz, hf, hst, goInt]
  · cases hv

/-! ### Conversions -/
theorem bytesV_sound {ι : Iota} : ∀ {c c' : List Value} {bs : List UInt8}, bytesV c = some bs → LRel ι c c' → ∃ ns : List Int, c' = ns.map (Value.int .u8) ∧ bs = (ns.map fun n => UInt8.ofNat n.toNat) ∧ ∀ n ∈ ns, 0 ≤ n ∧ n < 256
  | [], c', bs, h, hc => by
    have : c' = [] := List.eq_nil_of_length_eq_zero (by have := hc.1; simpa using this.symm)
    subst this
    simp [bytesV] at h
    subst h
    exact ⟨[], rfl, rfl, by simp⟩
  | v :: c, c', bs, h, hc => by
    cases c' with
    | nil => have := hc.1; simp at this
    | cons v' c' =>
      have hv := hc.head
      cases v <;> try (simp [bytesV] at h; done)
      rename_i k n
      cases k <;> try (simp [bytesV] at h; done)
      simp only [bytesV] at h
      split at h
      · rename_i hn
        cases hr : bytesV c with
        | none => simp [hr] at h
        | some r =>
          simp [hr] at h
          obtain ⟨ns, e1, e2, e3⟩ := bytesV_sound hr hc.tail
          cases hv
          subst h
          refine ⟨n :: ns, by simp [e1], by simp [e2], fun x hx => ?_⟩
          rcases List.mem_cons.1 hx with rfl | hx
          · exact hn
          · exact e3 x hx
      · cases h

theorem foldl_push (l : List UInt8) : ∀ (r : ByteArray), (l.foldl (fun r n => r.push n) r) = ⟨r.data ++ l.toArray⟩ := by
  induction l with
  | nil => intro r; simp
  | cons b l ih =>
    intro r
    rw [List.foldl_cons, ih]
    congr 1
    apply Array.ext'
    simp [ByteArray.push]

theorem notNoView {a : Addr} {W : World} {sh : TypeId × Nat} (h : W.shape? a.block = some sh) : (Conv.seenAt a).run P W = .ok a W := by
  simp [Conv.seenAt, viewAt, h]

theorem liesAt_self (p : Program) (e : TypeId) (count n : Nat) (hs : p.cellsOf e = n) (hn : n ≠ 0) (hc : 1 ≤ count) : liesAt p p.depth e count 0 e 1 = true := by
  have hd : ∃ d, p.depth = d + 1 := ⟨2 * (p.types.size + Made.depth) + 1, rfl⟩
  obtain ⟨d, hd⟩ := hd
  rw [hd]
  have hn' : p.cellsOf e ≠ 0 := by omega
  have hsl : sameLayout p (d + 1) e e = true := by simp [sameLayout]
  have hra : rowAt p (sameLayout p (d + 1) · e) (d + 1) e count 0 1 = true := by
    simp [rowAt, hn', hsl, hc]
  simp only [liesAt, hd, hra, Bool.true_or]

theorem convert_sound {E : Env} (hE : E.Ok P) {ι : Iota} {s s1 : AS} {W : World} (h : Rel P ok G ι s W) {src dst : TypeId} {x x' v : Value} (hv : aconvert E s src dst x = some (v, s1)) (hx : VRel ι x x') :
    ∃ ι' v' W', (convert src dst x').run P W = .ok v' W' ∧ Post P ok G ι W ι' s1 W' ∧ VRel ι' v v' := by
  unfold aconvert at hv
  cases hds : E.und src with
  | none => simp [hds] at hv
  | some ds =>
  cases hdd : E.und dst with
  | none => simp [hds, hdd] at hv
  | some dd =>
  have hs := hE.und hds
  have hd := hE.und hdd
  simp only [hds, hdd, Option.bind_eq_bind, Option.bind_some] at hv
  split at hv
  · -- []byte(s)
    rename_i e b
    cases hx
    cases hde : E.und e with
    | none => simp [hde] at hv
    | some de =>
    have he := hE.und hde
    simp only [hde, Option.bind_some] at hv
    split at hv
    · split at hv
      case isFalse => cases hv
      rename_i hsz1
      cases hv
      have hrun := Lib.run_convert_string_bytes W src dst e b hs hd he
      have hge := grownCap_le W b.size 0 e
      have hcs : (Lib.bytesCells W e b).size = grownCap W b.size 0 e := by
        simp only [Lib.bytesCells, Array.size_append, Array.size_map, Array.size_replicate]
        have : b.data.size = b.size := rfl
        omega
      cases hn : E.size e with
      | none => simp [hn] at hsz1
      | some n =>
      have hn1 : n = 1 := by simpa [hn] using hsz1
      subst hn1
      have hbl : (byteVals b).length = b.size := by simp [byteVals]
      have hP := post_new' (ok := ok) (W' := Lib.bytesWorld W e b) h (.row true e (byteVals b) 1 0) ⟨W.heap.size, 0, grownCap W b.size 0 e, 1, true, true⟩ (Nat.le_refl _) (fun j hj => Lib.bytesWorld_at_old W e b j hj) (by rw [Lib.bytesWorld_size]; omega)
        rfl rfl rfl ⟨rfl, rfl, rfl, Nat.one_pos, hE.size hn, by rw [hbl]; exact hge, Lib.bytesCells W e b, _, Lib.bytesWorld_at_new W e b, by rw [hcs]; exact Nat.le_refl _, ⟨fun h => by omega, fun _ j hj hx => by have hj2 : j < grownCap W b.size 0 e := hj; rw [hcs] at hx; omega⟩, fun j hj => by
          have hj' : j < b.data.size := by rw [hbl] at hj; exact hj
          have e1 : (byteVals b).getD j undef = (Lib.bytesCells W e b).getD j undef := by
            rw [getD_toList]
            simp only [Lib.bytesCells, byteVals, Array.toList_append, List.getD_eq_getElem?_getD]
            rw [List.getElem?_append_left (by simpa using hj')]
            simp
          rw [e1, getD_toList]
          have := (flat_byteVals (upd ι s.id (.live ⟨W.heap.size, 0, grownCap W b.size 0 e, 1, true, true⟩)) b).getD j
          rwa [e1, getD_toList] at this⟩
      refine ⟨_, _, _, hrun, hP, .slice ⟨rfl, hge, .inr ⟨_, upd_same _ _ _, fun _ => ?_, fun h => absurd rfl h, .inl rfl⟩⟩⟩
      show _ = (_ - 0) / 1
      simp
    · cases hv
  · -- string(b)
    rename_i e a len c
    cases hde : E.und e with
    | none => simp [hde] at hv
    | some de =>
    have he := hE.und hde
    simp only [hde, Option.bind_some] at hv
    split at hv
    · cases hf : firstA s 1 len (.slice (some a) len c) with
      | none => simp [hf] at hv
      | some cs =>
      simp only [hf, Option.bind_some] at hv
      cases hx with
      | slice p =>
      rename_i a' c'
      cases hb : bytesV cs with
      | none => simp [hb] at hv
      | some bs =>
        simp only [hb, Option.bind_some, Option.some.injEq, Prod.mk.injEq] at hv
        obtain ⟨rfl, rfl⟩ := hv
        obtain ⟨cs', q1, q2, q3⟩ := first_sound (P := P) h hf (.slice p)
        obtain ⟨ns, e1, e2, _⟩ := bytesV_sound hb q1
        have hl := q3 W rfl
        simp only [Builtin.firstCells, Nat.mul_one] at hl
        rw [e1] at hl
        have hrun := run_bytesToString (P := P) W a' len c' ns hl
        refine ⟨ι, _, W, ?_, .refl h, .string _⟩
        simp only [convert, Sem.run_bind, rund hs, rund hd, Result.andThen, rund he]
        rw [hrun, e2]
        congr 2
        have := foldl_push (ns.map fun n => UInt8.ofNat n.toNat) ByteArray.empty
        rw [List.foldl_map] at this
        rw [this]
        simp [ByteArray.empty, ByteArray.emptyWithCapacity]
        rfl
    · cases hv
  · -- a pointer, without its type
    rename_i u a
    cases hn : E.size u with
    | none => simp [hn] at hv
    | some n =>
    simp only [hn, Option.bind_some] at hv
    split at hv
    case h_2 => cases hv
    rename_i e cells lo hi hrow
    split at hv
    case isFalse => cases hv
    rename_i hc
    obtain ⟨hsp, hn0, hoff⟩ := hc
    cases hv
    cases hx with
    | ptr p =>
    rename_i a'
    obtain ⟨L, hL, hO, hcell⟩ := h.cells hrow p.notFree
    obtain ⟨o1, o2, o3, o4, o5, o6, c0, fr, hh, o7, o8, o9⟩ := hO
    have ha : a' = ⟨L.block, a.off, none⟩ := by
      rcases p.2 with hd' | ⟨L', hL', e⟩
      · rw [hL] at hd'; cases hd'
      · rw [hL] at hL'; cases hL'; rw [e, o3, Nat.zero_add]
    subst ha
    refine ⟨ι, _, W, ?_, .refl h, .ptr p⟩
    have hshape : W.shape? L.block = some (e, c0.size) := by simp [World.shape?, hh]
    have hsz := rsize (P := P) (hE.size hn) W
    have hlt : ¬ (c0.size ≤ a.off) := by omega
    simp [convert, Sem.run_bind, rund hs, rund hd, Result.andThen, Conv.unsafePointer, notNoView (P := P) (a := ⟨L.block, a.off, none⟩) hshape, cellsIn, hshape, hsz, hn0, hlt]
  · -- and back
    rename_i u a
    cases hn : E.size u with
    | none => simp [hn] at hv
    | some n =>
    simp only [hn, Option.bind_some] at hv
    split at hv
    case h_2 => cases hv
    rename_i e cells lo hi hrow
    split at hv
    case isFalse => cases hv
    rename_i hc
    obtain ⟨hsp, hn0, hoff, rfl, hle⟩ := hc
    cases hv
    cases hx with
    | ptr p =>
    rename_i a'
    obtain ⟨L, hL, hO, hcell⟩ := h.cells hrow p.notFree
    obtain ⟨o1, o2, o3, o4, o5, o6, c0, fr, hh, o7, o8, o9⟩ := hO
    have ha : a' = ⟨L.block, 0, none⟩ := by
      rcases p.2 with hd' | ⟨L', hL', e⟩
      · rw [hL] at hd'; cases hd'
      · rw [hL] at hL'; cases hL'; rw [e, o3, hoff]
    subst ha
    refine ⟨ι, _, W, ?_, .refl h, .ptr p⟩
    have hshape : W.shape? L.block = some (e, c0.size) := by simp [World.shape?, hh]
    have hsz := rsize (P := P) (hE.size hn) W
    have hco := size_cells hE hn
    have hcnt : 1 ≤ c0.size / P.cellsOf e := by
      rw [hco, Nat.le_div_iff_mul_le (by omega)]
      omega
    have hlies := liesAt_self P e (c0.size / P.cellsOf e) n hco hn0 hcnt
    have hva : (variablesAt ⟨L.block, 0, none⟩ e 1).run P W = .ok true W := by
      simp [variablesAt, program, Sem.run, hshape, hlies]
    simp [convert, Sem.run_bind, rund hs, rund hd, Result.andThen, Conv.unsafePointer, notNoView (P := P) (a := ⟨L.block, 0, none⟩) hshape, hsz, hn0, hva]
  · cases hv
end Go.AE
