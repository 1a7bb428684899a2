import Derived.Test.YtgakphbkknfmdaaDoorAEOps4
import Derived.Laws.Tables
set_option linter.all false
set_option linter.unusedSimpArgs false
set_option linter.unusedVariables false
set_option autoImplicit false
namespace Go.AE
variable {P : Program} {ok : Nat → Code → Bool} {G : Nat}

/-! ### Parts laid into cells -/
theorem foldl_pasteA : ∀ (vs : List Value) (off k : Nat) (c : Array Value),
    (vs.zipIdx k).foldl (fun cs (x : Value × Nat) => cs.setIfInBounds (off + x.2) x.1) c = pasteA c (off + k) vs
  | [], _, _, _ => rfl
  | v :: r, off, k, c => by
    simp only [List.zipIdx_cons, List.foldl_cons, pasteA]
    rw [foldl_pasteA r off (k + 1), Nat.add_assoc]

theorem LRel_pasteA {ι : Iota} {cells vs vs' : List Value} {c' : Array Value} {off : Nat} (hc : LRel ι cells c'.toList) (hv : LRel ι vs vs') (h : off + vs.length ≤ cells.length) : LRel ι (paste cells off vs) (pasteA c' off vs').toList := by
  have hcl : cells.length = c'.size := by simpa using hc.1
  have e : ∀ i, (pasteA c' off vs').toList.getD i undef = (pasteA c' off vs').getD i undef := fun i => (getD_toList _ i).symm
  have e2 : ∀ i, c'.toList.getD i undef = c'.getD i undef := fun i => (getD_toList _ i).symm
  have hsz : (pasteA c' off vs').toList.length = c'.size := by rw [Array.length_toList, size_pasteA]
  refine ⟨by rw [length_paste _ _ _ h, hsz, hcl], fun i hi => ?_⟩
  rw [e, getD_paste _ _ _ _ h, getD_pasteA _ _ _ _ (by rw [← hv.1]; omega), ← hv.1]
  split
  · exact hv.getD _
  · have := hc.getD i
    rwa [e2] at this

def PartsRel (ι : Iota) (a b : List (Nat × Value)) : Prop := a.length = b.length ∧ ∀ (i : Nat) (x : Nat × Value), a[i]? = some x → ∃ y, b[i]? = some y ∧ y.1 = x.1 ∧ VRel ι x.2 y.2
theorem PartsRel.cons {ι : Iota} {x : Nat × Value} {a b : List (Nat × Value)} (h : PartsRel ι (x :: a) b) : ∃ y b', b = y :: b' ∧ y.1 = x.1 ∧ VRel ι x.2 y.2 ∧ PartsRel ι a b' := by
  cases b with
  | nil => have := h.1; simp at this
  | cons y b' =>
    obtain ⟨y', h1, h2, h3⟩ := h.2 0 x rfl
    simp at h1
    subst h1
    exact ⟨y, b', rfl, h2, h3, by simpa using h.1, fun i z hz => by simpa using h.2 (i + 1) z (by simpa using hz)⟩

theorem fill_sound {ι : Iota} (place : Nat → Option (Nat × Nat)) : ∀ (parts parts' : List (Nat × Value)) (cells r : List Value) (c' : Array Value), afill place parts cells = some r → PartsRel ι parts parts' → LRel ι cells c'.toList →
    ∃ r', Instr.fill place c' parts' = some r' ∧ LRel ι r r'.toList
  | [], parts', cells, r, c', h, hp, hc => by
    have : parts' = [] := List.eq_nil_of_length_eq_zero (by have := hp.1; simpa using this.symm)
    subst this
    simp only [afill, Option.some.injEq] at h
    subst h
    exact ⟨c', rfl, hc⟩
  | (i, v) :: rest, parts', cells, r, c', h, hp, hc => by
    obtain ⟨⟨i', v'⟩, b', rfl, h1, h2, h3⟩ := hp.cons
    simp only at h1 h2
    subst h1
    simp only [afill] at h
    cases hpl : place i' with
    | none => simp [hpl] at h
    | some os =>
      obtain ⟨off, size⟩ := os
      simp only [hpl, Option.bind_eq_bind, Option.bind_some] at h
      split at h
      · rename_i hcond
        obtain ⟨hl, hle⟩ := hcond
        have hcs := h2.vcells
        have hl' : v'.cells.size = (vcells v).length := by have := hcs.1; simpa using this.symm
        have hsz : cells.length = c'.size := by simpa using hc.1
        obtain ⟨r', g1, g2⟩ := fill_sound place rest b' _ r (pasteA c' off v'.cells.toList) h h3 (LRel_pasteA hc hcs (by omega))
        refine ⟨r', ?_, g2⟩
        simp only [Instr.fill, hpl]
        have hne : ¬ ((v'.cells.size ≠ size || decide (off + v'.cells.size > c'.size)) = true) := by
          simp
          omega
        rw [if_neg hne, ← g1]
        congr 1
        rw [← Array.foldl_toList]
        have := foldl_pasteA v'.cells.toList off 0 c'
        simpa using this
      · cases h

theorem places_mapM {E : Env} (hE : E.Ok P) : ∀ (fs : List Field) (ps : List (Nat × Nat)), places E fs = some ps → fs.mapM (fun f => (P.info? f.type).map fun i => (f.offset, i.size)) = some ps
  | [], ps, h => by simp [places] at h; subst h; rfl
  | f :: fs, ps, h => by
    simp only [places] at h
    cases hn : E.size f.type with
    | none => simp [hn] at h
    | some n =>
      cases hr : places E fs with
      | none => simp [hn, hr] at h
      | some r =>
        simp only [hn, hr, Option.bind_eq_bind, Option.bind_some, Option.some.injEq] at h
        subst h
        have := hE.size hn
        cases hi : P.info? f.type with
        | none => simp [hi] at this
        | some i =>
          have hin : i.size = n := by simpa [hi] using this
          simp [List.mapM_cons, hi, hin, places_mapM hE fs r hr]

theorem build_sound {E : Env} (hE : E.Ok P) {ι : Iota} {t : TypeId} {parts : List (Nat × Value)} {parts' : Array (Nat × Value)} {v : Value} (hv : abuild E t parts = some v) (hp : PartsRel ι parts parts'.toList) (W : World) :
    ∃ v', (Instr.build t parts').run P W = .ok v' W ∧ VRel ι v v' := by
  unfold abuild at hv
  cases hz : E.zero t with
  | none => simp [hz] at hv
  | some z =>
  cases hd : E.und t with
  | none => simp [hz, hd] at hv
  | some d =>
  obtain ⟨⟨i, hi, hiz⟩, hf⟩ := hE.zero hz
  have hu := hE.und hd
  have hzr : LRel ι (vcells z) z.cells.toList := (VRel.ofFlat ι z hf).vcells
  simp only [hz, hd, Option.bind_eq_bind, Option.bind_some] at hv
  split at hv
  · rename_i fields
    cases hps : places E fields.toList with
    | none => simp [hps] at hv
    | some ps =>
      simp only [hps, Option.bind_some] at hv
      cases hfl : afill (fun i => ps[i]?) parts (vcells z) with
      | none => simp [hfl] at hv
      | some cells =>
        simp only [hfl, Option.bind_some, Option.some.injEq] at hv
        subst hv
        obtain ⟨r', g1, g2⟩ := fill_sound _ _ _ _ _ _ hfl hp hzr
        refine ⟨.agg r', run_build W t parts' r' ?_, g2.agg⟩
        have hm := places_mapM hE _ _ hps
        simp only [Program.built, hi, hu, hiz, hm]
        simpa using g1
  · rename_i len elem
    cases hn : E.size elem with
    | none => simp [hn] at hv
    | some n =>
      simp only [hn, Option.bind_some] at hv
      cases hfl : afill (fun i => some (i * n, n)) parts (vcells z) with
      | none => simp [hfl] at hv
      | some cells =>
        simp only [hfl, Option.bind_some, Option.some.injEq] at hv
        subst hv
        obtain ⟨r', g1, g2⟩ := fill_sound _ _ _ _ _ _ hfl hp hzr
        refine ⟨.agg r', run_build W t parts' r' ?_, g2.agg⟩
        have := hE.size hn
        cases hie : P.info? elem with
        | none => simp [hie] at this
        | some ie =>
          have hin : ie.size = n := by simpa [hie] using this
          simp only [Program.built, hi, hu, hiz, hie, hin]
          exact g1
  · cases hv

/-! ### Zeros -/
theorem length_times (z : List Value) : ∀ n, (times z n).length = n * z.length
  | 0 => by simp [times]
  | n + 1 => by simp [times, length_times z n, Nat.add_mul]; omega
theorem getD_times (z : List Value) (hz : z ≠ []) : ∀ (n i : Nat), i < n * z.length → (times z n).getD i undef = z.getD (i % z.length) undef
  | 0, i, h => by simp at h
  | n + 1, i, h => by
    have hpos : 0 < z.length := List.length_pos_iff.2 hz
    rw [Nat.add_mul, Nat.one_mul] at h
    simp only [times, List.getD_eq_getElem?_getD]
    by_cases hi : i < z.length
    · rw [List.getElem?_append_left hi, Nat.mod_eq_of_lt hi]
    · have ih := getD_times z hz n (i - z.length) (by omega)
      have hm : i % z.length = (i - z.length) % z.length := Nat.mod_eq_sub_mod (by omega)
      rw [List.getElem?_append_right (by omega), hm]
      simpa only [List.getD_eq_getElem?_getD] using ih
theorem LRel_zeros {ι : Iota} {z : Value} (hf : flatV z = true) (n len : Nat) (hn : (vcells z).length = n) (h0 : 0 < n) :
    LRel ι (times (vcells z) len) ((Array.range (len * n)).map (z.cells[· % z.cells.size]!)).toList := by
  have hzr : LRel ι (vcells z) z.cells.toList := (VRel.ofFlat ι z hf).vcells
  have hzs : z.cells.size = n := by have := hzr.1; simp at this; omega
  have hne : vcells z ≠ [] := fun e => by rw [e] at hn; simp at hn; omega
  refine ⟨by simp [length_times, hn], fun i hi => ?_⟩
  rw [length_times, hn] at hi
  rw [getD_times _ hne _ _ (by rw [hn]; exact hi), hn]
  have := hzr.getD (i % n)
  have hlt : i % n < z.cells.size := by rw [hzs]; exact Nat.mod_lt _ h0
  have e : ((Array.range (len * n)).map (z.cells[· % z.cells.size]!)).toList.getD i undef = z.cells.toList.getD (i % n) undef := by
    rw [← getD_toList, ← getD_toList]
    have hlt' : i % n < n := Nat.mod_lt _ h0
    simp [Array.getD, hi, hlt, hzs, hlt', getElem!_pos, Array.getElem!_eq_getD, Array.getD_eq_getD_getElem?]
  rw [e]
  exact this

theorem buildSlice_sound {E : Env} (hE : E.Ok P) {ι : Iota} {s s1 : AS} {W : World} (h : Rel P ok G ι s W) {t : TypeId} {len : Nat} {parts : List (Nat × Value)} {parts' : Array (Nat × Value)} {v : Value} (hv : abuildSlice E s t len parts = some (v, s1))
    (hp : PartsRel ι parts parts'.toList) : ∃ ι' v' W', (Instr.buildSlice t len parts').run P W = .ok v' W' ∧ Post P ok G ι W ι' s1 W' ∧ VRel ι' v v' := by
  unfold abuildSlice at hv
  cases hd : E.und t with
  | none => simp [hd] at hv
  | some d =>
  have hu := hE.und hd
  simp only [hd, Option.bind_eq_bind, Option.bind_some] at hv
  split at hv
  case h_2 => cases hv
  rename_i elem
  cases hn : E.size elem with
  | none => simp [hn] at hv
  | some n =>
  cases hz : E.zero elem with
  | none => simp [hn, hz] at hv
  | some z =>
  simp only [hn, hz, Option.bind_some] at hv
  split at hv
  · cases hv
  rename_i hc
  simp only [not_or, Decidable.not_not] at hc
  obtain ⟨hn0, hbig, hzl⟩ := hc
  cases hfl : afill (fun i => some (i * n, n)) parts (times (vcells z) len) with
  | none => simp [hfl] at hv
  | some cells =>
  simp only [hfl, Option.bind_some, Option.some.injEq, Prod.mk.injEq] at hv
  obtain ⟨rfl, rfl⟩ := hv
  obtain ⟨⟨i, hi, hiz⟩, hf⟩ := hE.zero hz
  obtain ⟨r', g1, g2⟩ := fill_sound _ _ _ _ _ _ hfl hp (LRel_zeros (ι := ι) hf n len hzl (by omega))
  have hrl : cells.length = r'.size := by simpa using g2.1
  have hP := post_row (ok := ok) h (hE.size hn) (by omega) (cells := cells) r' (by omega) (fun j hj => by rw [getD_toList]; exact g2.2 j hj) 0 0 (0, 0) (fr0 _)
  refine ⟨_, _, _, ?_, hP, .slice ⟨rfl, Nat.le_refl len, .inr ⟨_, upd_same _ _ _, fun h => by omega, fun _ => by omega, .inl rfl⟩⟩⟩
  unfold Instr.buildSlice
  simp only [Sem.run_bind, rund hu, Result.andThen, rsize (hE.size hn)]
  have hb : ¬ (len * n > 2 ^ 24) := by omega
  by_cases hl0 : len * n = 0
  · have hz0 : Array.map (fun x => (#[] : Array Value)[x % (#[] : Array Value).size]!) (Array.range (len * n)) = Array.map (fun x => z.cells[x % z.cells.size]!) (Array.range (len * n)) := by rw [hl0]; apply Array.ext <;> simp
    have g1' := g1
    rw [← hz0] at g1'
    simp [hl0, Sem.run_bind, Result.andThen, rpure, Go.newRow] at g1' ⊢
    simp [g1', Sem.run_bind, Result.andThen, rpure]
  · simp [hb, hl0, Sem.run_bind, Result.andThen, rpure, rzero hi hiz, g1, Go.newRow]

theorem makeSlice_sound {E : Env} (hE : E.Ok P) {ι : Iota} {s s1 : AS} {W : World} (h : Rel P ok G ι s W) {t : TypeId} {l l' c c' : Value} {v : Value} (hv : amakeSlice E s t l c = some (v, s1)) (hl : VRel ι l l') (hc : VRel ι c c') :
    ∃ ι' v' W', (Instr.makeSlice t l' c').run P W = .ok v' W' ∧ Post P ok G ι W ι' s1 W' ∧ VRel ι' v v' := by
  unfold amakeSlice at hv
  cases hd : E.und t with
  | none => simp [hd] at hv
  | some d =>
  have hu := hE.und hd
  simp only [hd, Option.bind_eq_bind, Option.bind_some] at hv
  split at hv
  case h_2 => cases hv
  rename_i elem n m
  cases hl
  cases hc
  cases hn : E.size elem with
  | none => simp [hn] at hv
  | some size =>
  cases hb : E.bytes elem with
  | none => simp [hn, hb] at hv
  | some bytes =>
  cases hz : E.zero elem with
  | none => simp [hn, hb, hz] at hv
  | some z =>
  simp only [hn, hb, hz, Option.bind_some] at hv
  split at hv
  · cases hv
  rename_i hc
  simp only [not_or, Decidable.not_not] at hc
  obtain ⟨hn0, hmn, hs0, hroom, hbig, hzl⟩ := hc
  simp only [Option.some.injEq, Prod.mk.injEq] at hv
  obtain ⟨rfl, rfl⟩ := hv
  obtain ⟨⟨i, hi, hiz⟩, hf⟩ := hE.zero hz
  have hib : i.bytes = bytes := by have := hE.bytes hb; simpa [hi] using this
  have hzr := LRel_zeros (ι := ι) hf size m.toNat hzl (by omega)
  have hrl : (times (vcells z) m.toNat).length = ((Array.range (m.toNat * size)).map (z.cells[· % z.cells.size]!)).size := by have := hzr.1; simpa using this
  have hP := post_row (ok := ok) h (hE.size hn) (by omega) (cells := times (vcells z) m.toNat) ((Array.range (m.toNat * size)).map (z.cells[· % z.cells.size]!)) (by omega) (fun j hj => by rw [getD_toList]; exact hzr.2 j hj) 0 0 (0, 0) (fr0 _)
  refine ⟨_, .slice (some ⟨W.heap.size, 0, none⟩) n.toNat m.toNat, _, ?_, hP, .slice ⟨rfl, by omega, .inr ⟨_, upd_same _ _ _, fun h => by omega, fun _ => by omega, .inl rfl⟩⟩⟩
  unfold Instr.makeSlice
  have w1 : IntKind.i64.wrap n = n := by
    simp [IntKind.wrap, IntKind.bits, IntKind.signed]
    omega
  have w2 : IntKind.i64.wrap m = m := by
    simp [IntKind.wrap, IntKind.bits, IntKind.signed]
    omega
  have hr := room_eq
  have hprod : (bytes : Int) * m ≤ 17592186044416 := by rw [Int.mul_comm]; omega
  have c1 : ¬ ((281474976710656 : Int) < (bytes : Int) * m) := by omega
  have hmm : ((m.toNat : Nat) : Int) = m := by omega
  have hask : ∀ W' : World, (askRoom (m.toNat * bytes)).run P W' = .ok () W' := fun W' => by
    unfold askRoom
    split
    · rfl
    · rfl
  have hzz : Array.map (fun x => z.cells[x % z.cells.size]!) (Array.range (m.toNat * size)) = if m.toNat * size = 0 then Array.map (fun x => (#[] : Array Value)[x % (#[] : Array Value).size]!) (Array.range (m.toNat * size)) else Array.map (fun x => z.cells[x % z.cells.size]!) (Array.range (m.toNat * size)) := by
    split
    · rename_i h0; rw [h0]; apply Array.ext <;> simp
    · rfl
  have hm0 : ¬ m < 0 := by omega
  have hnm : ¬ m < n := by omega
  by_cases h0 : m.toNat * size = 0
  · rw [if_pos h0] at hzz
    rw [hzz]
    simp [Sem.run_bind, rund hu, Result.andThen, asInt, asIntOf, rpure, rinfo hi, hib, w1, w2, c1, hn0, hm0, hnm, hask, rsize (hE.size hn), h0, Go.newRow]
  · simp [Sem.run_bind, rund hu, Result.andThen, asInt, asIntOf, rpure, rinfo hi, hib, w1, w2, c1, hn0, hm0, hnm, hask, rsize (hE.size hn), h0, rzero hi hiz, Go.newRow]
end Go.AE
