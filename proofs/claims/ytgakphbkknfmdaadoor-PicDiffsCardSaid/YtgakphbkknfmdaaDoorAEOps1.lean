import Derived.Test.YtgakphbkknfmdaaDoorAEState
set_option linter.all false
set_option linter.unusedSimpArgs false
set_option linter.unusedVariables false
set_option autoImplicit false
namespace Go.AE
variable {P : Program} {ok : Nat → Code → Bool} {G : Nat}

/-- The tables that the evaluator asks are the program's. -/
structure Env.Ok (E : Env) (P : Program) : Prop where
  prog : E.P = P
  ti : ∀ t i, E.ti t = some i → P.info? t = some i

theorem Env.Ok.und {E : Env} (h : E.Ok P) {t : TypeId} {d : TypeDesc} (e : E.und t = some d) : P.underlying t = some d := by
  unfold Env.und at e
  cases hi : E.ti t with
  | none => simp [hi] at e
  | some i =>
    rw [hi] at e
    have h1 := h.ti t i hi
    unfold Program.underlying
    rw [h1]
    obtain ⟨desc, str, size, bytes, hp, al, fa, zero, comp, ms⟩ := i
    cases desc <;> simp only at e ⊢ <;> first | exact e | skip
    rename_i n u
    cases hu : E.ti u with
    | none => simp [hu] at e
    | some j => rw [hu] at e; rw [h.ti u j hu]; exact e
theorem Env.Ok.size {E : Env} (h : E.Ok P) {t : TypeId} {n : Nat} (e : E.size t = some n) : (P.info? t).map (·.size) = some n := by
  unfold Env.size at e
  cases hi : E.ti t with
  | none => simp [hi] at e
  | some i => rw [hi] at e; rw [h.ti t i hi]; exact e
theorem Env.Ok.bytes {E : Env} (h : E.Ok P) {t : TypeId} {n : Nat} (e : E.bytes t = some n) : (P.info? t).map (·.bytes) = some n := by
  unfold Env.bytes at e
  cases hi : E.ti t with
  | none => simp [hi] at e
  | some i => rw [hi] at e; rw [h.ti t i hi]; exact e
theorem Env.Ok.zero {E : Env} (h : E.Ok P) {t : TypeId} {z : Value} (e : E.zero t = some z) : (∃ i, P.info? t = some i ∧ i.zero = some z) ∧ flatV z = true := by
  unfold Env.zero at e
  cases hi : E.ti t with
  | none => simp [hi] at e
  | some i =>
    rw [hi] at e
    simp only [Option.bind_some] at e
    cases hz : i.zero with
    | none => simp [hz] at e
    | some y =>
      rw [hz] at e
      simp only at e
      split at e
      · rename_i hf
        cases e
        exact ⟨⟨i, h.ti t i hi, hz⟩, hf⟩
      · cases e

theorem rund {t : TypeId} {d : TypeDesc} (h : P.underlying t = some d) (W : World) : (underlying t).run P W = .ok d W := run_underlying h W
theorem rinfo {t : TypeId} {i : TypeInfo} (h : P.info? t = some i) (W : World) : (typeInfo t).run P W = .ok i W := by
  simp [typeInfo, program, Sem.run, h, pure, bind, Sem.bind]
theorem rsize {t : TypeId} {n : Nat} (h : (P.info? t).map (·.size) = some n) (W : World) : (sizeOf t).run P W = .ok n W := by
  cases hi : P.info? t with
  | none => simp [hi] at h
  | some i =>
    have : i.size = n := by simpa [hi] using h
    unfold sizeOf
    rw [Sem.run_bind, rinfo hi]
    simp [Result.andThen, Sem.run, pure, this]
theorem rzero {t : TypeId} {i : TypeInfo} {z : Value} (h : P.info? t = some i) (hz : i.zero = some z) (W : World) : (zeroValue t).run P W = .ok z W := by
  unfold zeroValue
  rw [Sem.run_bind, rinfo h]
  simp [Result.andThen, hz, Sem.run, pure]
theorem ragg {t : TypeId} {d : TypeDesc} (h : P.underlying t = some d) (W : World) : (isAgg t).run P W = .ok (isAggD d) W := by
  unfold isAgg
  rw [Sem.run_bind, rund h]
  cases d <;> rfl

theorem add_none (b o i : Nat) : (⟨b, o, none⟩ : Addr).add i = ⟨b, o + i, none⟩ := by unfold Addr.add; split <;> simp_all

/-- A row's cells in the world. -/
theorem Rel.cells {ι : Iota} {s : AS} {W : World} (h : Rel P ok G ι s W) {k : Nat} {own : Bool} {e : TypeId} {cells : List Value} {lo hi : Nat} (hk : s.get k = some (.row own e cells lo hi))
    (hb : ι k ≠ .free ∧ ι k ≠ .kept) : ∃ l, ι k = .live l ∧ ORel P ok ι l (.row own e cells lo hi) W ∧ ∀ (i : Nat) (v : Value), cells[i]? = some v → ∃ v', W.cell? ⟨l.block, l.off + i, none⟩ = some v' ∧ VRel ι v v' := by
  cases hι : ι k with
  | free => exact absurd hι hb.1
  | kept => exact absurd hι hb.2
  | dead => rw [h.dead k hι] at hk; cases hk
  | live l =>
    obtain ⟨o, h1, h2⟩ := h.live k l hι
    rw [hk] at h1
    cases h1
    refine ⟨l, rfl, h2, fun i v hv => ?_⟩
    have hi : i < cells.length := (List.getElem?_eq_some_iff.1 hv).1
    have hg : cells.getD i undef = v := by simp [List.getD_eq_getElem?_getD, hv]
    cases own with
    | true =>
      obtain ⟨_, _, h3, _, _, h6, c', fr, hc, h7, _, h9⟩ := h2
      have := h9 i hi
      rw [hg] at this
      have hlt : l.off + i < c'.size := by omega
      refine ⟨c'.getD (l.off + i) undef, ?_, by rw [h3, Nat.zero_add]; exact this⟩
      simp [World.cell?, hc, Array.getD, hlt]
    | false =>
      obtain ⟨_, _, _, _, _, _, h7⟩ := h2
      obtain ⟨v', h8, h9⟩ := h7 i hi
      exact ⟨v', h8, hg ▸ h9⟩

theorem PRel.notFree {ι : Iota} {a a' : Addr} (p : PRel ι a a') : ι a.block ≠ .free ∧ ι a.block ≠ .kept := by
  rcases p.2 with h | ⟨l, h, _⟩ <;> rw [h] <;> simp
theorem SRel.notFree {ι : Iota} {a a' : Addr} {n c c' : Nat} (p : SRel ι a n c a' c') : ι a.block ≠ .free ∧ ι a.block ≠ .kept := by
  rcases p.2.2 with h | ⟨l, h, _⟩ <;> rw [h] <;> simp

theorem cut_some {cells c : List Value} {off n : Nat} (h : cut cells off n = some c) : c = (cells.drop off).take n ∧ c.length = n ∧ ∀ j v, c[j]? = some v → cells[off + j]? = some v := by
  unfold cut at h
  simp only at h
  split at h
  · rename_i hl
    cases h
    refine ⟨rfl, hl, fun j v hv => ?_⟩
    rw [List.getElem?_take] at hv
    split at hv
    · rwa [List.getElem?_drop] at hv
    · cases hv
  · cases h

/-- Reading as many cells. -/
theorem cells_of {ι : Iota} {W : World} {l : Loc} {cells c : List Value} {off n : Nat}
    (hc : ∀ (i : Nat) (v : Value), cells[i]? = some v → ∃ v', W.cell? ⟨l.block, l.off + i, none⟩ = some v' ∧ VRel ι v v') (h : cut cells off n = some c) :
    ∃ c' : List Value, LRel ι c c' ∧ c'.length = n ∧ ∀ (j : Nat) (v : Value), c'[j]? = some v → W.cell? ((⟨l.block, l.off + off, none⟩ : Addr).add j) = some v := by
  obtain ⟨_, hl, hj⟩ := cut_some h
  have key : ∀ j, j < n → ∃ v', W.cell? ⟨l.block, l.off + (off + j), none⟩ = some v' ∧ VRel ι (c.getD j undef) v' := fun j hjn => by
    have hg : c[j]? = some (c.getD j undef) := by simp [List.getD_eq_getElem?_getD, List.getElem?_eq_getElem (show j < c.length by omega)]
    exact hc _ _ (hj j _ hg)
  refine ⟨(List.range n).map fun j => (W.cell? ⟨l.block, l.off + (off + j), none⟩).getD undef, ⟨by simp [hl], fun i hi => ?_⟩, by simp, fun j v hv => ?_⟩
  · obtain ⟨v', h1, h2⟩ := key i (by omega)
    have : i < n := by omega
    simpa [List.getD_eq_getElem?_getD, this, h1] using h2
  · have hjn : j < n := by
      have := (List.getElem?_eq_some_iff.1 hv).1
      simpa using this
    obtain ⟨v', h1, h2⟩ := key j hjn
    rw [add_none, Nat.add_assoc]
    simp [hjn, h1] at hv
    rw [h1, hv]

theorem load_sound {E : Env} (hE : E.Ok P) {ι : Iota} {s : AS} {W : World} (h : Rel P ok G ι s W) {t : TypeId} {a a' : Addr} {v : Value} (hv : aload E s t a = some v) (p : PRel ι a a') :
    ∃ v', (loadVar t a').run P W = .ok v' W ∧ VRel ι v v' := by
  unfold aload at hv
  split at hv
  · rename_i own e cells lo hi hk hs
    obtain ⟨l, hl, _, hc⟩ := h.cells hk p.notFree
    have ha : a' = ⟨l.block, l.off + a.off, none⟩ := by
      rcases p.2 with hd | ⟨l', hl', e⟩
      · rw [hl] at hd; cases hd
      · rw [hl] at hl'; cases hl'; exact e
    subst ha
    cases hd : E.und t with
    | none => simp [hd] at hv
    | some d =>
      have hu := hE.und hd
      simp only [hd, Option.bind_eq_bind, Option.bind_some] at hv
      unfold loadVar
      rw [Sem.run_bind, ragg hu]
      simp only [Result.andThen]
      cases hg : isAggD d with
      | true =>
        rw [hg] at hv
        simp only [if_true] at hv
        cases hn : E.size t with
        | none => simp [hn] at hv
        | some n =>
          simp only [hn, Option.bind_some] at hv
          cases hcut : cut cells a.off n with
          | none => simp [hcut] at hv
          | some c =>
            simp only [hcut, Option.bind_some, Option.some.injEq] at hv
            subst hv
            obtain ⟨c', h1, h2, h3⟩ := cells_of hc hcut
            refine ⟨.agg ⟨c'⟩, ?_, h1.agg⟩
            simp only [if_true, Sem.run_bind, rsize (hE.size hn), Result.andThen]
            have := run_loadCells_list (P := P) W _ c' h3
            rw [h2] at this
            rw [this]
            rfl
      | false =>
        rw [hg] at hv
        simp only [Bool.false_eq_true, if_false] at hv
        obtain ⟨v', h1, h2⟩ := hc _ _ hv
        refine ⟨v', ?_, h2⟩
        simp only [Bool.false_eq_true, if_false]
        simp [load, Sem.run, h1]
  · cases hv

/-! ### Writing -/
theorem heap_setCell_same (W : World) (b o : Nat) (v : Value) {c : Array Value} {e : TypeId} {fr : Nat × Nat} (h : W.heap[b]? = some (.cells c e fr)) :
    (W.setCell ⟨b, o, none⟩ v).heap[b]? = some (.cells (c.setIfInBounds o v) e fr) := by
  simp [World.setCell, Array.getElem?_modify, h]
theorem heap_setCell_other (W : World) (b o k : Nat) (v : Value) (h : k ≠ b) : (W.setCell ⟨b, o, none⟩ v).heap[k]? = W.heap[k]? := by
  simp [World.setCell, Array.getElem?_modify, Ne.symm h]

def pasteA (c : Array Value) : Nat → List Value → Array Value
  | _, [] => c
  | o, v :: r => pasteA (c.setIfInBounds o v) (o + 1) r
theorem size_pasteA : ∀ (vs : List Value) (c : Array Value) (o : Nat), (pasteA c o vs).size = c.size
  | [], _, _ => rfl
  | v :: r, c, o => by rw [pasteA, size_pasteA r]; simp
theorem getD_pasteA : ∀ (vs : List Value) (c : Array Value) (o i : Nat), o + vs.length ≤ c.size → (pasteA c o vs).getD i undef = if o ≤ i ∧ i < o + vs.length then vs.getD (i - o) undef else c.getD i undef
  | [], c, o, i, _ => by simp [pasteA]; omega
  | v :: r, c, o, i, h => by
    simp only [List.length_cons] at h
    rw [pasteA, getD_pasteA r _ _ _ (by simp; omega)]
    simp only [List.length_cons]
    by_cases h1 : i = o
    · subst h1
      rw [if_neg (by omega), if_pos (by omega)]
      have : i < c.size := by omega
      simp [Array.getD, this]
    · by_cases h2 : o + 1 ≤ i ∧ i < o + 1 + r.length
      · rw [if_pos h2, if_pos (by omega), show i - o = (i - (o + 1)) + 1 by omega]
        simp
      · rw [if_neg h2, if_neg (by omega)]
        simp [Array.getD_eq_getD_getElem?, Array.getElem?_setIfInBounds, Ne.symm h1]
theorem heap_setCells (b : Nat) (e : TypeId) (fr : Nat × Nat) : ∀ (vs : List Value) (o : Nat) (W : World) (c : Array Value), W.heap[b]? = some (.cells c e fr) → (W.setCells b o vs).heap[b]? = some (.cells (pasteA c o vs) e fr)
  | [], _, _, _, h => h
  | v :: r, o, W, c, h => by
    rw [World.setCells, pasteA]
    exact heap_setCells b e fr r (o + 1) _ _ (heap_setCell_same W b o v h)
theorem heap_setCells_other (b k : Nat) (h : k ≠ b) : ∀ (vs : List Value) (o : Nat) (W : World), (W.setCells b o vs).heap[k]? = W.heap[k]?
  | [], _, _ => rfl
  | v :: r, o, W => by rw [World.setCells, heap_setCells_other b k h r, heap_setCell_other _ _ _ _ _ h]
theorem size_setCells (b : Nat) : ∀ (vs : List Value) (o : Nat) (W : World), (W.setCells b o vs).heap.size = W.heap.size
  | [], _, _ => rfl
  | v :: r, o, W => by rw [World.setCells, size_setCells b r, World.size_setCell]
theorem rest_setCells (b : Nat) : ∀ (vs : List Value) (o : Nat) (W : World), (W.setCells b o vs).os = W.os ∧ (W.setCells b o vs).tape = W.tape ∧ (W.setCells b o vs).output = W.output
  | [], _, _ => ⟨rfl, rfl, rfl⟩
  | v :: r, o, W => by rw [World.setCells]; exact rest_setCells b r (o + 1) _

theorem one_iff (v : Value) : one v = v.oneCell' := by cases v <;> rfl

theorem getD_paste (cells vs : List Value) (off i : Nat) (h : off + vs.length ≤ cells.length) :
    (paste cells off vs).getD i undef = if off ≤ i ∧ i < off + vs.length then vs.getD (i - off) undef else cells.getD i undef := by
  unfold paste
  have ht : (cells.take off).length = off := by simp; omega
  simp only [List.getD_eq_getElem?_getD]
  by_cases h1 : i < off
  · rw [if_neg (by omega), List.append_assoc, List.getElem?_append_left (by omega), List.getElem?_take, if_pos h1]
  · by_cases h2 : i < off + vs.length
    · rw [if_pos (by omega), List.append_assoc, List.getElem?_append_right (by omega), ht, List.getElem?_append_left (by omega)]
    · rw [if_neg (by omega), List.getElem?_append_right (by simp; omega), List.getElem?_drop]
      congr 2
      simp only [List.length_append, ht]
      omega
theorem length_paste (cells vs : List Value) (off : Nat) (h : off + vs.length ≤ cells.length) : (paste cells off vs).length = cells.length := by
  unfold paste
  simp
  omega

/-- Cells of an own row are written. -/
theorem put_sound {ι : Iota} {s s' : AS} {W : World} (h : Rel P ok G ι s W) {k off : Nat} {vs vs' : List Value} (hp : aput s k off vs = some s') (hk : ι k ≠ .free ∧ ι k ≠ .kept) (hv : LRel ι vs vs') :
    ∃ l W', ι k = .live l ∧ (storeCells ⟨l.block, l.off + off, none⟩ vs').run P W = .ok () W' ∧ Post P ok G ι W ι s' W' := by
  unfold aput at hp
  split at hp
  · rename_i e cells lo hi hg
    split at hp
    · rename_i hc
      obtain ⟨hlen, hclash, hone⟩ := hc
      cases hp
      obtain ⟨l, hl, hO, _⟩ := h.cells hg hk
      obtain ⟨h1, h2, h3, h4, h5, h6, c', fr, hh, h7, h8, h9⟩ := hO
      have hvl : vs'.length = vs.length := hv.1.symm
      refine ⟨l, W.setCells l.block off vs', hl, ?_, ?_⟩
      · rw [h3, Nat.zero_add]
        have := run_storeCells_cells (P := P) l.block off vs' 0 W (fun j hj => ?_) (fun j hj => ?_) (fun v hv' => ?_)
        · simpa using this
        · simp only [Nat.add_zero, World.cell?, hh]
          have : off + j < c'.size := by omega
          simp [this]
        · simp only [Nat.add_zero, World.frozen?, hh]
          have hj' : off + j < off + vs.length := by omega
          rcases Nat.lt_or_ge hi lo with hlt | hle
          · have := h8.2 hlt (off + j) (by omega)
            simp only [Bool.and_eq_false_iff, decide_eq_false_iff_not]
            by_cases hx : fr.1 ≤ off + j
            · exact .inr fun hy => this ⟨hx, hy⟩
            · exact .inl hx
          · have hcl : ¬ (off < hi ∧ lo < off + vs.length) := by
              simp only [clashes, Bool.and_eq_false_iff, decide_eq_false_iff_not, bne_eq_false_iff_eq] at hclash
              rcases hclash with (h0 | h0) | h0
              · omega
              · exact fun hx => h0 hx.1
              · exact fun hx => h0 hx.2
            simp only [Bool.and_eq_false_iff, decide_eq_false_iff_not]
            rcases h8.1 hle with he | ⟨ha, hb, hd⟩
            · by_cases hx : fr.1 ≤ off + j
              · exact .inr (by omega)
              · exact .inl hx
            · by_cases hx : fr.1 ≤ off + j
              · right; intro hy; apply hcl; omega
              · exact .inl hx
        · obtain ⟨i, hi'⟩ := List.getElem_of_mem hv'
          obtain ⟨hi1, hi2⟩ := hi'
          have hrel := hv.2 i (by omega)
          have h01 : one (vs.getD i undef) = true := by
            rw [List.all_eq_true] at hone
            apply hone
            rw [List.getD_eq_getElem?_getD, List.getElem?_eq_getElem (show i < vs.length by omega)]
            simp
          rw [hrel.one, one_iff] at h01
          rw [← hi2]
          simpa [List.getD_eq_getElem?_getD, List.getElem?_eq_getElem hi1] using h01
      · obtain ⟨r1, r2, r3⟩ := rest_setCells l.block vs' off W
        refine post_set h hl h1 _ (fun b hb => heap_setCells_other _ _ hb _ _ _) (size_setCells _ _ _ _) r1 r2 r3 ?_
        refine ⟨h1, h2, h3, h4, h5, by rw [length_paste _ _ _ hlen]; exact h6, pasteA c' off vs', fr, heap_setCells _ _ _ _ _ _ _ hh, by rw [size_pasteA]; exact h7, h8, fun i hi' => ?_⟩
        rw [length_paste _ _ _ hlen] at hi'
        rw [getD_paste _ _ _ _ hlen, getD_pasteA _ _ _ _ (by omega), hvl]
        split
        · exact hv.getD _
        · exact h9 i hi'
    · cases hp
  · cases hp

theorem store_sound {E : Env} (hE : E.Ok P) {ι : Iota} {s s' : AS} {W : World} (h : Rel P ok G ι s W) {t : TypeId} {a a' : Addr} {v v' : Value} (hs : astore E s t a v = some s') (p : PRel ι a a') (hv : VRel ι v v') :
    ∃ W', (storeVar t a' v').run P W = .ok () W' ∧ Post P ok G ι W ι s' W' := by
  unfold astore at hs
  cases hn : E.size t with
  | none => simp [hn] at hs
  | some n =>
    simp only [hn, Option.bind_eq_bind, Option.bind_some] at hs
    split at hs
    · rename_i hc
      have hcs := hv.vcells
      obtain ⟨l, W', hl, hr, hP⟩ := put_sound (P := P) (ok := ok) (G := G) h hs p.notFree hcs
      have ha : a' = ⟨l.block, l.off + a.off, none⟩ := by
        rcases p.2 with hd | ⟨l', hl', e⟩
        · rw [hl] at hd; cases hd
        · rw [hl] at hl'; cases hl'; exact e
      subst ha
      refine ⟨W', ?_, hP⟩
      unfold storeVar
      simp only [Sem.run_bind, rsize (hE.size hn), Result.andThen]
      have : v'.cells.size = n := by have := hcs.1; simp at this; omega
      simp [this, hr, pure, Sem.run, Result.andThen]
    · cases hs
end Go.AE
