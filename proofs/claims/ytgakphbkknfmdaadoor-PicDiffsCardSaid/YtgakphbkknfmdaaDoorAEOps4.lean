import Derived.Test.YtgakphbkknfmdaaDoorAEOps3
import Derived.Deep.AppendSrc
set_option linter.all false
set_option linter.unusedSimpArgs false
set_option linter.unusedVariables false
set_option autoImplicit false
namespace Go.AE
variable {P : Program} {ok : Nat → Code → Bool} {G : Nat}

theorem flat_byteVals (ι : Iota) (x : ByteArray) : LRel ι (byteVals x) (byteVals x) := by
  refine .ofGet rfl fun i v hv => ⟨v, hv, ?_⟩
  unfold byteVals at hv
  rw [List.getElem?_map] at hv
  cases h : x.data.toList[i]? with
  | none => simp [h] at hv
  | some b => rw [h] at hv; cases hv; exact .int _ _

theorem lenOfA_sound {ι : Iota} {y y' : Value} {m : Nat} (h : lenOfA y = some m) (hy : VRel ι y y') (W : World) : (Builtin.lenOf y').run P W = .ok m W := by
  unfold lenOfA at h
  split at h
  · cases h
    cases hy <;> rfl
  · cases h
    cases hy
    rfl
  · cases h

theorem first_sound {ι : Iota} {s : AS} {W : World} (h : Rel P ok G ι s W) {size n : Nat} {y y' : Value} {new : List Value} (hf : firstA s size n y = some new) (hy : VRel ι y y') :
    ∃ new' : List Value, LRel ι new new' ∧ new.length = n * size ∧ ∀ W1 : World, W1.heap = W.heap → (Builtin.firstCells size n y').run P W1 = .ok new'.toArray W1 := by
  unfold firstA at hf
  split at hf
  · split at hf
    · rename_i h0
      cases hf
      cases hy
      subst h0
      exact ⟨[], .nil ι, by simp, fun _ _ => rfl⟩
    · cases hf
  · rename_i a len c
    split at hf
    · rename_i h0
      cases hf
      subst h0
      cases hy with
      | slice p => exact ⟨[], .nil ι, by simp, fun _ _ => by simp [Builtin.firstCells, loadCells, loadCellsFrom]⟩
    · rename_i hn0
      split at hf
      · rename_i own e cells lo hi hrow hspot
        split at hf
        · rename_i hle
          cases hy with
          | slice p =>
            rename_i a' c'
            obtain ⟨L, hL, hO, hcell⟩ := h.cells hrow p.notFree
            obtain ⟨new', h1, h2, h3⟩ := cells_of hcell hf
            have ha : a' = ⟨L.block, L.off + a.off, none⟩ := by
              rcases p.2.2 with hd | ⟨L', hL', _, _, h4⟩
              · rw [hL] at hd; cases hd
              · rw [hL] at hL'; cases hL'
                rcases h4 with h4 | h4
                · exact h4
                · have := p.2.1; omega
            subst ha
            refine ⟨new', h1, (h1.1.trans h2), fun W1 hW => ?_⟩
            refine run_firstCells_some W1 size n _ _ _ new' h2 (fun j v hv => ?_)
            have := h3 j v hv
            simpa [World.cell?, hW] using this
        · cases hf
      · cases hf
  · rename_i x
    split at hf
    · rename_i hc
      obtain ⟨rfl, hle⟩ := hc
      cases hf
      cases hy
      refine ⟨(byteVals x).take n, (flat_byteVals ι x).take n, ?_, fun W1 _ => ?_⟩
      · simp only [byteVals, List.length_take, List.length_map, Array.length_toList, Nat.mul_one]
        have : x.data.size = x.size := rfl
        omega
      · simp only [Builtin.firstCells]
        rw [Sem.run_pure]
        congr 1
        apply Array.ext'
        simp [byteVals, ByteArray.data_extract]
    · cases hf
  · cases hf

theorem src_of {ι : Iota} {s : AS} {W : World} (h : Rel P ok G ι s W) {size n : Nat} {y y' : Value} {new : List Value} (hf : firstA s size n y = some new) (hl : lenOfA y = some n) (hy : VRel ι y y') {u : TypeId} {du : TypeDesc} (hu : P.underlying u = some du) (hq : isSeq du = true)
    (hone : new.all one = true) : ∃ new' : List Value, LRel ι new new' ∧ Src P size u y' n new' W := by
  obtain ⟨new', h1, h2, h3⟩ := first_sound (P := P) h hf hy
  refine ⟨new', h1, ?_, fun w' => lenOfA_sound hl hy w', h3 W rfl, h3 W.drew rfl, h1.1 ▸ h2, fun v hv => ?_⟩
  · cases du <;> simp [isSeq] at hq
    · exact .inr hu
    · exact .inl ⟨_, hu⟩
  · obtain ⟨i, hi, rfl⟩ := List.getElem_of_mem hv
    have hi' : i < new.length := h1.1 ▸ hi
    obtain ⟨v', g1, g2⟩ := h1.get (List.getElem?_eq_getElem hi')
    rw [List.getElem?_eq_getElem hi] at g1
    cases g1
    rw [List.all_eq_true] at hone
    have := hone new[i] (List.getElem_mem hi')
    rw [g2.one, one_iff] at this
    exact this

theorem two_pow_48 : (2 : Nat) ^ 48 = 281474976710656 := by decide
theorem room_eq : room = 17592186044416 := by decide

theorem grown_fit {need cap bytes : Nat} (h : cap < need) (hb : need * bytes ≤ room) : Builtin.nextslicecap need cap * bytes ≤ 281474976710656 := by
  have := nextslicecap_le h
  have h2 := Nat.mul_le_mul_right bytes this
  rw [room_eq] at hb
  rw [Nat.mul_assoc] at h2
  omega
theorem grown_63 {need bytes : Nat} (h0 : bytes ≠ 0) (hb : need * bytes ≤ room) : ((need : Nat) : Int) ≤ 9223372036854775807 := by
  have : need * 1 ≤ need * bytes := Nat.mul_le_mul_left _ (by omega)
  rw [room_eq] at hb
  omega

theorem grownCap_le (W : World) (need old : Nat) (e : TypeId) : need ≤ grownCap W need old e := by
  unfold grownCap Question.cut
  exact Nat.le_add_right _ _

theorem size_zeroCells (z : Array Value) (n : Nat) : (Builtin.zeroCells z n).size = n * z.size := by simp [Builtin.zeroCells]

theorem args2 (a b : Value) : (#[a, b] : Array Value) = ⟨[a, b]⟩ := rfl

/-- A new row behind an append. -/
theorem append_new {ι : Iota} {s : AS} {W : World} (h : Rel P ok G ι s W) {elem : TypeId} {size : Nat} (hs : (P.info? elem).map (·.size) = some size) (h0 : 0 < size) {cells cells' : List Value} (hc : LRel ι cells cells') {need cap : Nat} (hlen : cells.length = need * size)
    {z : Array Value} (hz : z.size = size) (hcap : need ≤ cap) (lo hi : Nat) :
    ∃ ι', Post P ok G ι W ι' (s.new (.row true elem cells lo hi)) (W.drew.alloc (.cells (cells'.toArray ++ Builtin.zeroCells z (cap - need)) elem)) ∧
      VRel ι' (.slice (some ⟨s.id, 0, none⟩) need 0) (.slice (some ⟨W.heap.size, 0, none⟩) need cap) := by
  have hsz : (cells'.toArray ++ Builtin.zeroCells z (cap - need)).size = cap * size := by
    rw [Array.size_append, size_zeroCells, hz]
    simp only [List.size_toArray, ← hc.1, hlen, Nat.sub_mul]
    have := Nat.mul_le_mul_right size hcap
    omega
  have hlec : cells.length ≤ (cells'.toArray ++ Builtin.zeroCells z (cap - need)).size := by
    rw [hsz, hlen]; exact Nat.mul_le_mul_right _ hcap
  have hP := post_row (ok := ok) (h.drew (W' := W.drew) rfl) hs h0 (cells := cells) (cells'.toArray ++ Builtin.zeroCells z (cap - need)) hlec (fun i hi => by
    have hi' : i < cells'.length := hc.1 ▸ hi
    have := hc.2 i hi
    rw [getD_toList]
    simp only [Array.toList_append, List.toList_toArray, List.getD_eq_getElem?_getD]
    rw [List.getElem?_append_left hi', ← List.getD_eq_getElem?_getD]
    exact this) lo hi (0, 0) ⟨fun _ => .inl rfl, fun _ j _ hj => by omega⟩
  refine ⟨_, Post.drew (W1 := W.drew) rfl rfl rfl rfl hP, .slice ⟨rfl, hcap, .inr ⟨_, upd_same _ _ _, fun _ => ?_, fun h => absurd rfl h, .inl rfl⟩⟩⟩
  show cap = (_ - 0) / size
  rw [hsz, Nat.sub_zero, Nat.mul_div_cancel _ h0]

theorem append_room_run {t u ty elem : TypeId} {i : TypeInfo} (ht : P.underlying t = some (.slice elem)) (hk : (∃ e', P.underlying u = some (.slice e')) ∨ P.underlying u = some .string) (hi : P.info? elem = some i) (a : Addr) (len c n : Nat) (y : Value) (new : List Value)
    {W W' : World} (hfit : len + n ≤ c) (hlen : (Builtin.lenOf y).run P W = .ok n W) (hcells : (Builtin.firstCells i.size n y).run P W = .ok new.toArray W) (hst : (storeCells (a.add (len * i.size)) new).run P W = .ok () W') :
    (Builtin.append_ #[t, u] ty #[.slice (some a) len c, y]).run P W = .ok (.slice (some a) (len + n) c) W' := by
  rcases hk with ⟨e', hk⟩ | hk <;> simp [Builtin.append_, run_underlying ht, run_underlying hk, sizeOf, typeInfo, hi, hlen, hfit, hcells, hst]
theorem append_nil_run {t u ty elem : TypeId} {i : TypeInfo} (ht : P.underlying t = some (.slice elem)) (hk : (∃ e', P.underlying u = some (.slice e')) ∨ P.underlying u = some .string) (hi : P.info? elem = some i) (y : Value) (new : Array Value)
    {W : World} (hlen : (Builtin.lenOf y).run P W = .ok 0 W) (hcells : (Builtin.firstCells i.size 0 y).run P W = .ok new W) :
    (Builtin.append_ #[t, u] ty #[.slice none 0 0, y]).run P W = .ok (.slice none 0 0) W := by
  rcases hk with ⟨e', hk⟩ | hk <;> simp [Builtin.append_, run_underlying ht, run_underlying hk, sizeOf, typeInfo, hi, hlen, hcells]

set_option maxHeartbeats 1000000 in
theorem append_sound {E : Env} (hE : E.Ok P) {ι : Iota} {s s1 : AS} {W : World} (h : Rel P ok G ι s W) {t u : TypeId} {x x' y y' v : Value} (hv : aappend E s t u x y = some (v, s1)) (hx : VRel ι x x') (hy : VRel ι y y') (ty : TypeId) :
    ∃ ι' v' W', (Builtin.append_ #[t, u] ty #[x', y']).run P W = .ok v' W' ∧ Post P ok G ι W ι' s1 W' ∧ VRel ι' v v' := by
  unfold aappend at hv
  cases hdu : E.und u with
  | none => simp [hdu] at hv
  | some du =>
  simp only [hdu, Option.bind_eq_bind, Option.bind_some] at hv
  split at hv
  · cases hv
  rename_i hq
  simp only [Bool.not_eq_false] at hq
  cases hdt : E.und t with
  | none => simp [hdt] at hv
  | some dt =>
  simp only [hdt, Option.bind_some] at hv
  split at hv
  case h_2 => cases hv
  rename_i elem
  have hu := hE.und hdu
  have ht := hE.und hdt
  cases hsz : E.size elem with
  | none => simp [hsz] at hv
  | some size =>
  cases hby : E.bytes elem with
  | none => simp [hsz, hby] at hv
  | some bytes =>
  cases hz : E.zero elem with
  | none => simp [hsz, hby, hz] at hv
  | some z =>
  cases hm : lenOfA y with
  | none => simp [hsz, hby, hz, hm] at hv
  | some m =>
  simp only [hsz, hby, hz, hm, Option.bind_some] at hv
  split at hv
  · cases hv
  rename_i hc0
  simp only [not_or, Decidable.not_not] at hc0
  obtain ⟨hs0, hb0, hzl⟩ := hc0
  cases hnew : firstA s size m y with
  | none => simp [hnew] at hv
  | some new =>
  simp only [hnew, Option.bind_some] at hv
  split at hv
  · cases hv
  rename_i hone
  simp only [Bool.not_eq_false] at hone
  obtain ⟨new', hn1, hsrc⟩ := src_of (P := P) h hnew hm hy hu hq hone
  obtain ⟨⟨i, hi, hiz⟩, hzf⟩ := hE.zero hz
  have hisz : i.size = size := by have := hE.size hsz; simpa [hi] using this
  have hiby : i.bytes = bytes := by have := hE.bytes hby; simpa [hi] using this
  have hzc : z.cells.size = size := by
    have : (vcells z).length = z.cells.size := by cases z <;> simp [vcells, Value.cells]
    omega
  have hs0' : 0 < size := by omega
  subst hisz
  have hnl : new.length = m * i.size := by have := hn1.1; rw [this]; exact hsrc.newsLen
  split at hv
  · -- nil
    cases hx
    split at hv
    · rename_i h0
      cases hv
      subst h0
      refine ⟨ι, .slice none 0 0, W, ?_, .refl h, .sliceNil 0 0⟩
      exact append_nil_run ht hsrc.kind hi _ _ (hsrc.len W) hsrc.cells
    · rename_i hm0
      split at hv
      · cases hv
      rename_i hroom
      cases hv
      have hold : (Builtin.firstCells i.size 0 (.slice none 0 0)).run P W.drew = .ok ([] : List Value).toArray W.drew := by simp [Builtin.firstCells]
      have hrun := run_append_grow_src (P := P) W t u ty elem i z ht hi hiz none 0 0 [] hold y' m new' hsrc (by omega) (by rw [Nat.zero_add]; exact grown_63 hb0 (by omega))
        (by rw [Nat.zero_add, hiby]; exact grown_fit (by omega) (by omega))
      simp only [Nat.zero_add, List.nil_append] at hrun
      obtain ⟨ι', hP, hV⟩ := append_new (ok := ok) h (hE.size hsz) hs0' hn1 (need := m) (cap := grownCap W m 0 elem) hnl (z := z.cells) hzc (grownCap_le W m 0 elem) 0 0
      exact ⟨ι', _, _, hrun, hP, hV⟩
  · -- a slice
    rename_i a len cap
    cases hx with
    | slice p =>
    rename_i a' c'
    split at hv
    · rename_i h0
      cases hv
      subst h0
      refine ⟨ι, .slice (some a') len c', W, ?_, .refl h, .slice p⟩
      have hnil : new' = [] := List.eq_nil_of_length_eq_zero (by rw [← hn1.1, hnl]; simp)
      subst hnil
      exact append_room_run ht hsrc.kind hi a' len c' 0 _ [] p.2.1 (hsrc.len W) hsrc.cells rfl
    · rename_i hm0
      split at hv
      · cases hv
      rename_i hc1
      simp only [not_or, Decidable.not_not] at hc1
      obtain ⟨hspot, hroom⟩ := hc1
      split at hv
      case h_2 => cases hv
      rename_i own e cells lo hi' hrow
      obtain ⟨L, hL, hO, hcell⟩ := h.cells hrow p.notFree
      obtain ⟨hlen, hp⟩ := p.2
      have hp' : (cap = 0 → c' = (L.ext - a.off) / L.size) ∧ (cap ≠ 0 → c' = cap - 1) ∧ (a' = ⟨L.block, L.off + a.off, none⟩ ∨ c' = 0) := by
        rcases hp with hd | ⟨L', hL', h1⟩
        · rw [hL] at hd; cases hd
        · rw [hL] at hL'; cases hL'; exact h1
      obtain ⟨hp0, hp1, hpa⟩ := hp'
      have h63 : ((len + m : Nat) : Int) ≤ 9223372036854775807 := grown_63 hb0 (by omega)
      -- storing where there is room
      have store : ∀ (s' : AS) (K : Value), aput s a.block (a.off + len * i.size) new = some s' → len + m ≤ c' → VRel ι K (.slice (some a') (len + m) c') →
          ∃ ι' v' W', (Builtin.append_ #[t, u] ty #[.slice (some a') len c', y']).run P W = .ok v' W' ∧ Post P ok G ι W ι' s' W' ∧ VRel ι' K v' := by
        intro s' K hput hfit hK
        have ha : a' = ⟨L.block, L.off + a.off, none⟩ := hpa.resolve_right (by omega)
        obtain ⟨L', W', hL', hst, hP⟩ := put_sound (P := P) (ok := ok) h hput p.notFree hn1
        rw [hL] at hL'
        cases hL'
        refine ⟨ι, _, W', ?_, hP, hK⟩
        subst ha
        rw [← Nat.add_assoc] at hst
        exact append_room_run ht hsrc.kind hi _ len c' m _ new' hfit (hsrc.len W) hsrc.cells (by rw [add_none]; exact hst)
      split at hv
      · -- the capacity is not known
        rename_i hcap
        split at hv
        · cases hv
        rename_i hc2
        simp only [not_or, Bool.not_eq_false, Decidable.not_not] at hc2
        obtain ⟨hown, he⟩ := hc2
        subst hown
        have he' : elem = e := he.symm
        subst he'
        obtain ⟨o1, o2, o3, o4, o5, o6, c0, fr, hh, o7, o8, o9⟩ := hO
        have hLs : L.size = i.size := by rw [hi] at o5; simpa using o5.symm
        have hc' := hp0 hcap
        rw [hLs] at hc'
        split at hv
        · -- over what is there
          rename_i hin
          cases hput : aput s a.block (a.off + len * i.size) new with
          | none => simp [hput] at hv
          | some s' =>
            simp only [hput, Option.bind_some, Option.some.injEq, Prod.mk.injEq] at hv
            obtain ⟨rfl, rfl⟩ := hv
            have hfit : len + m ≤ c' := by
              rw [hc', Nat.le_div_iff_mul_le hs0']
              omega
            exact store _ _ hput hfit (.slice ⟨hspot, hfit, .inr ⟨L, hL, fun _ => by rw [hLs]; exact hc', fun h => absurd rfl h, hpa⟩⟩)
        · split at hv
          case isFalse => cases hv
          rename_i hc3
          obtain ⟨hoff, hend, hfz⟩ := hc3
          cases hv
          have hk := rel_kill h hL o1 o2
          by_cases hfit : len + m ≤ c'
          · -- in place
            have ha : a' = ⟨L.block, 0, none⟩ := by
              rw [hpa.resolve_right (by omega), o3, hoff]
            subst ha
            have hext : (len + m) * i.size ≤ L.ext := by
              rw [hc', hoff, Nat.sub_zero, Nat.le_div_iff_mul_le hs0'] at hfit
              exact hfit
            have hnl' : new'.length = m * i.size := hn1.1 ▸ hnl
            have hmul : (len + m) * i.size = len * i.size + m * i.size := Nat.add_mul _ _ _
            have hcs : ∀ j, j < new'.length → (W.cell? ⟨L.block, 0 + len * i.size + j, none⟩).isSome = true := fun j hj => by
              have : 0 + len * i.size + j < c0.size := by omega
              simp only [World.cell?, hh]
              simp [this]
              omega
            have hfs : ∀ j, j < new'.length → W.frozen? ⟨L.block, 0 + len * i.size + j, none⟩ = false := fun j hj => by
              simp only [World.frozen?, hh, Bool.and_eq_false_iff, decide_eq_false_iff_not]
              rcases Nat.lt_or_ge hi' lo with hlt | hle
              · have := o8.2 hlt (0 + len * i.size + j) (by omega)
                by_cases hx : fr.1 ≤ 0 + len * i.size + j
                · exact .inr fun hy => this ⟨hx, hy⟩
                · exact .inl hx
              · rcases o8.1 hle with he | ⟨_, _, hd⟩
                · by_cases hx : fr.1 ≤ 0 + len * i.size + j
                  · exact .inr (by omega)
                  · exact .inl hx
                · exact .inr (by omega)
            have hrun := run_append_room_src (P := P) W t u ty elem i ht hi L.block 0 len c' y' m new' hsrc hfit hcs hfs
            obtain ⟨r1, r2, r3⟩ := rest_setCells L.block new' (0 + len * i.size) W
            have hle1 : Le (upd ι a.block .dead) (upd (upd ι a.block .dead) (s.set a.block none).id (.live L)) := .upd_free _ (hk.rel.free)
            obtain ⟨hle2, hrel⟩ := post_adopt (W' := W.setCells L.block (0 + len * i.size) new') hk.rel (.row true elem (cells ++ new) lo hi') L (fun k l0 hk0 e => by
                by_cases hka : k = a.block
                · subst hka; rw [upd_same] at hk0; cases hk0
                · rw [upd_other _ hka] at hk0
                  exact hka (h.inj a.block k L l0 hL hk0 o1 e.symm).symm) o1
              (fun b hb => heap_setCells_other _ _ hb _ _ _) (size_setCells _ _ _ _) r1 r2 r3
              ⟨o1, o2, o3, o4, o5, by rw [List.length_append, hnl]; omega, pasteA c0 (0 + len * i.size) new', fr, heap_setCells _ _ _ _ _ _ _ hh, by rw [size_pasteA]; exact o7, o8, fun j hj => by
                rw [List.length_append] at hj
                rw [getD_pasteA _ _ _ _ (by omega)]
                have hLe : Le ι (upd (upd ι a.block .dead) (s.set a.block none).id (.live L)) := hk.le.trans hle1
                split
                · rename_i hin
                  rw [List.getD_eq_getElem?_getD, List.getElem?_append_right (by omega), ← List.getD_eq_getElem?_getD]
                  have := (hn1.mono hLe).getD (j - cells.length)
                  rwa [show j - (0 + len * i.size) = j - cells.length by omega]
                · rename_i hin
                  have hj' : j < cells.length := by omega
                  rw [List.getD_eq_getElem?_getD, List.getElem?_append_left hj', ← List.getD_eq_getElem?_getD]
                  exact (o9 j hj').mono hLe⟩
            refine ⟨_, _, _, hrun, ⟨hk.le.trans hle2, hrel, fun b hb hn => heap_setCells_other _ _ (fun e => hn a.block L hL o1 e.symm) _ _ _, by rw [size_setCells]; exact Nat.le_refl _, r1, r2, r3, fun k l hkl ho => ?_⟩, .slice ⟨rfl, hfit, .inr ⟨L, upd_same _ _ _, fun _ => ?_, fun h => absurd rfl h, .inl ?_⟩⟩⟩
            · by_cases hks : k = (s.set a.block none).id
              · subst hks; rw [upd_same] at hkl; cases hkl
                exact .inl ⟨a.block, L, hL, o1, rfl⟩
              · rw [upd_other _ hks] at hkl
                by_cases hka : k = a.block
                · subst hka; rw [upd_same] at hkl; cases hkl
                · rw [upd_other _ hka] at hkl
                  exact .inl ⟨k, l, hkl, ho, rfl⟩
            · show c' = (L.ext - 0) / L.size
              rw [hLs, hc', hoff]
            · show (⟨L.block, 0, none⟩ : Addr) = ⟨L.block, L.off + 0, none⟩
              rw [o3]
          · -- a new row
            have hold : (Builtin.firstCells i.size len (.slice (some a') len c')).run P W.drew = .ok ((List.range cells.length).map fun j => (W.cell? ⟨L.block, L.off + (0 + j), none⟩).getD undef).toArray W.drew := by
              have hcut : cut cells 0 cells.length = some cells := by simp [cut]
              by_cases hl0 : len = 0
              · subst hl0
                have : cells = [] := List.eq_nil_of_length_eq_zero (by omega)
                subst this
                simp [Builtin.firstCells, loadCells, loadCellsFrom]
              · have ha : a' = ⟨L.block, L.off + a.off, none⟩ := hpa.resolve_right (by omega)
                subst ha
                refine run_firstCells_some W.drew i.size len _ _ _ _ (by simp [hend]) (fun j v hv => ?_)
                have hj : j < cells.length := by
                  have := (List.getElem?_eq_some_iff.1 hv).1
                  simpa using this
                obtain ⟨v', g1, g2⟩ := hcell j _ (List.getElem?_eq_getElem hj)
                rw [hoff, Nat.add_zero, add_none]
                simp only [Nat.zero_add] at hv
                simp [hj, g1] at hv
                rw [← hv]
                exact g1
            have hrun := run_append_grow_src (P := P) W t u ty elem i z ht hi hiz (some a') len c' _ hold y' m new' hsrc (by omega) h63 (by rw [hiby]; exact grown_fit (by omega) (by omega))
            have hcl : LRel ι cells ((List.range cells.length).map fun j => (W.cell? ⟨L.block, L.off + (0 + j), none⟩).getD undef) := by
              refine ⟨by simp, fun j hj => ?_⟩
              obtain ⟨v', g1, g2⟩ := hcell j _ (List.getElem?_eq_getElem hj)
              simp only [Nat.zero_add]
              simpa [List.getD_eq_getElem?_getD, hj, g1, List.getElem?_eq_getElem hj] using g2
            have hcat := (hcl.append hn1).mono hk.le
            obtain ⟨ι', hP, hV⟩ := append_new (ok := ok) hk.rel (hE.size hsz) hs0' hcat (need := len + m) (cap := grownCap W (len + m) c' elem) (by rw [List.length_append, hnl, ← hend, Nat.add_mul]) (z := z.cells) hzc (grownCap_le W (len + m) c' elem) lo hi'
            exact ⟨ι', _, _, hrun, hk.trans hP, hV⟩
      · -- the capacity is known
        rename_i hcap
        have hc' := hp1 hcap
        split at hv
        · rename_i hle
          cases hput : aput s a.block (a.off + len * i.size) new with
          | none => simp [hput] at hv
          | some s' =>
            simp only [hput, Option.bind_some, Option.some.injEq, Prod.mk.injEq] at hv
            obtain ⟨rfl, rfl⟩ := hv
            have hfit : len + m ≤ c' := by omega
            exact store _ _ hput hfit (.slice ⟨hspot, hfit, .inr ⟨L, hL, fun h => absurd h hcap, fun _ => hc', hpa⟩⟩)
        · rename_i hnle
          cases hcut : cut cells a.off (len * i.size) with
          | none => simp [hcut] at hv
          | some old =>
            simp only [hcut, Option.bind_some, Option.some.injEq, Prod.mk.injEq] at hv
            obtain ⟨rfl, rfl⟩ := hv
            obtain ⟨old', q1, q2, q3⟩ := cells_of hcell hcut
            have hold : (Builtin.firstCells i.size len (.slice (some a') len c')).run P W.drew = .ok old'.toArray W.drew := by
              by_cases hl0 : len = 0
              · subst hl0
                have : old' = [] := List.eq_nil_of_length_eq_zero (by omega)
                subst this
                simp [Builtin.firstCells, loadCells, loadCellsFrom]
              · have ha : a' = ⟨L.block, L.off + a.off, none⟩ := hpa.resolve_right (by omega)
                subst ha
                exact run_firstCells_some W.drew i.size len _ _ _ old' q2 (fun j v hv => q3 j v hv)
            have hrun := run_append_grow_src (P := P) W t u ty elem i z ht hi hiz (some a') len c' _ hold y' m new' hsrc (by omega) h63 (by rw [hiby]; exact grown_fit (by omega) (by omega))
            obtain ⟨ι', hP, hV⟩ := append_new (ok := ok) h (hE.size hsz) hs0' (q1.append hn1) (need := len + m) (cap := grownCap W (len + m) c' elem) (by rw [List.length_append, hnl, q1.1, q2, Nat.add_mul]) (z := z.cells) hzc (grownCap_le W (len + m) c' elem) 0 0
            exact ⟨ι', _, _, hrun, hP, hV⟩
  · cases hv
end Go.AE
