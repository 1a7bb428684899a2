import Derived.Test.YtgakphbkknfmdaaDoorAEOps7
import Derived.MapKept
set_option linter.all false
set_option linter.unusedSimpArgs false
set_option linter.unusedVariables false
set_option autoImplicit false
namespace Go.AE
variable {P : Program} {ok : Nat → Code → Bool} {G : Nat}

theorem ba_eq {a b : ByteArray} (h : (a == b) = true) : a = b := by
  obtain ⟨a⟩ := a
  obtain ⟨b⟩ := b
  have : (a == b) = true := h
  have := eq_of_beq this
  rw [this]
theorem ba_rfl (a : ByteArray) : (a == a) = true := by
  obtain ⟨a⟩ := a
  show (a == a) = true
  exact beq_self_eq_true a

/-! ### Maps -/
theorem sameKey_now {d : TypeDesc} {k x : Value} {b : Bool} (hk : plainKey d k = true) (h : sameKey k x = some b) : Instr.sameNow d k x = some b := by
  cases d <;> cases k <;> simp [plainKey] at hk <;> cases x <;> simp [sameKey] at h
  · simp [Instr.sameNow, h]
  · simp [Instr.sameNow, h]

theorem plainKey_flat {d : TypeDesc} {k : Value} (hk : plainKey d k = true) : flatV k = true := by
  cases d <;> cases k <;> simp [plainKey] at hk <;> rfl

def EsRel (ι : Iota) (es : List MapEntry) (es' : List MapEntry) : Prop := es.length = es'.length ∧ ∀ (i : Nat) (e : MapEntry), es[i]? = some e → ∃ e', es'[i]? = some e' ∧ ERel ι e e'
theorem EsRel.cons {ι : Iota} {e : MapEntry} {es es' : List MapEntry} (h : EsRel ι (e :: es) es') : ∃ e' r, es' = e' :: r ∧ ERel ι e e' ∧ EsRel ι es r := by
  cases es' with
  | nil => have := h.1; simp at this
  | cons e' r =>
    obtain ⟨x, h1, h2⟩ := h.2 0 e rfl
    simp at h1
    subst h1
    exact ⟨e', r, rfl, h2, by simpa using h.1, fun i z hz => by simpa using h.2 (i + 1) z (by simpa using hz)⟩

theorem find_sound {ι : Iota} {d : TypeDesc} {k : Value} (hk : plainKey d k = true) : ∀ (es es' : List MapEntry) (i : Nat) (r : Option (Nat × Value)), findA k es i = some r → EsRel ι es es' →
    match r with
    | none => Instr.findNow d k es' i = some none
    | some (j, v) => ∃ v', Instr.findNow d k es' i = some (some (j, v')) ∧ VRel ι v v' ∧ i ≤ j ∧ ∃ e e', es[j - i]? = some e ∧ es'[j - i]? = some e' ∧ ERel ι e e' ∧ sameKey k e.key = some true
  | [], es', i, r, h, hr => by
    have : es' = [] := List.eq_nil_of_length_eq_zero (by have := hr.1; simpa using this.symm)
    subst this
    simp only [findA, Option.some.injEq] at h
    subst h
    rfl
  | e :: es, es', i, r, h, hr => by
    obtain ⟨e', r', rfl, h1, h2⟩ := hr.cons
    simp only [findA] at h
    cases hs : sameKey k e.key with
    | none => simp [hs] at h
    | some b =>
      have hn := sameKey_now hk hs
      rw [← h1.1] at hn
      simp only [hs, Option.bind_eq_bind, Option.bind_some] at h
      cases b with
      | true =>
        simp only [if_true, Option.some.injEq] at h
        subst h
        exact ⟨e'.val, by simp [Instr.findNow, hn], h1.2.2, Nat.le_refl _, e, e', by simp, by simp, h1, hs⟩
      | false =>
        simp only [Bool.false_eq_true, if_false] at h
        have ih := find_sound hk es r' (i + 1) r h h2
        cases r with
        | none => simpa [Instr.findNow, hn] using ih
        | some jv =>
          obtain ⟨j, v⟩ := jv
          obtain ⟨v', g1, g2, g3, x, x', g4, g5, g6, g7⟩ := ih
          refine ⟨v', by simpa [Instr.findNow, hn] using g1, g2, by omega, x, x', ?_, ?_, g6, g7⟩
          · rw [show j - i = (j - (i + 1)) + 1 by omega]; simpa using g4
          · rw [show j - i = (j - (i + 1)) + 1 by omega]; simpa using g5

theorem checkKey_run {kt : TypeId} {d : TypeDesc} (hu : P.underlying kt = some d) {k : Value} (hk : plainKey d k = true) (b : Bool) (W : World) : (Instr.checkKey b 10000 kt k).run P W = .ok () W := by
  have e : ∀ n, (Instr.checkKey b (n + 1) kt k).run P W = .ok () W := fun n => by
    simp only [Instr.checkKey, Sem.run_bind, rund hu, Result.andThen]
    cases d <;> cases k <;> simp [plainKey] at hk <;> rfl
  exact e 9999

theorem rfind {kt : TypeId} {d : TypeDesc} (hu : P.underlying kt = some d) {k : Value} {l : List MapEntry} {a : Option (Nat × Value)} (h : Instr.findNow d k l 0 = some a) (W : World) : (Instr.findKey kt k l).run P W = .ok a W := by
  simp only [Instr.findKey, Sem.run_bind, rund hu, Result.andThen, h]
  rfl

theorem rgetmap {W : World} {r : Nat} {es : Array MapEntry} {clock : Nat} (hb : W.heap[r]? = some (.map es clock)) : (getObj r).run P W = .ok (.map es clock) W := by
  simp [getObj, Sem.run, hb]
theorem rsetmap {W : World} {r : Nat} {es : Array MapEntry} {clock : Nat} (o : Obj) (hb : W.heap[r]? = some (.map es clock)) : (setObj r o).run P W = .ok () { W with heap := W.heap.setIfInBounds r o } := by
  simp [setObj, Sem.run, hb]

theorem Rel.map {ι : Iota} {s : AS} {W : World} (h : Rel P ok G ι s W) {r r' : Nat} {x : Loc} (hl : ι r = .live x) (e : x.block = r') {es : List MapEntry} {clock : Nat} (hr : s.get r = some (.map es clock)) :
    x.own = true ∧ x.row = false ∧ x.off = 0 ∧ ∃ es', W.heap[r']? = some (.map es' clock) ∧ EsRel ι es es'.toList := by
  obtain ⟨o, h1, h2⟩ := h.live r x hl
  rw [hr] at h1
  cases h1
  obtain ⟨o1, o2, o3, es', o4, o5, o6⟩ := h2
  exact ⟨o1, o2, o3, es', e ▸ o4, by simpa using o5, fun i z hz => by obtain ⟨z', g1, g2⟩ := o6 i z hz; exact ⟨z', by simpa using g1, g2⟩⟩

theorem lookup_run {t kt et : TypeId} {kd : TypeDesc} (hu : P.underlying t = some (.map kt et)) (hku : P.underlying kt = some kd) {k : Value} (hpk : plainKey kd k = true) {W : World} {x : Value} {es : Array MapEntry}
    (hx : (x = .map none ∧ es = #[]) ∨ ∃ r clock, x = .map (some r) ∧ W.heap[r]? = some (.map es clock)) {rr : Option (Nat × Value)} (hf : Instr.findNow kd k es.toList 0 = some rr) (okk : Bool) {v : Value}
    (hv : match rr with
      | some (_, y) => v = if okk = true then .tuple #[y, .bool true] else y
      | none => ∃ z, (zeroValue et).run P W = .ok z W ∧ v = if okk = true then .tuple #[z, .bool false] else z) : (Instr.lookup t x k okk).run P W = .ok v W := by
  have hfk := rfind (P := P) hku hf W
  have hck := fun b => checkKey_run (P := P) hku hpk b W
  rcases hx with ⟨rfl, rfl⟩ | ⟨r, clock, rfl, hb⟩
  · cases rr with
    | none =>
      obtain ⟨z, hz, rfl⟩ := hv
      simp [Instr.lookup, Sem.run_bind, rund hu, Result.andThen, hck, hfk, hz]
    | some jv =>
      obtain ⟨j, y⟩ := jv
      subst hv
      simp [Instr.lookup, Sem.run_bind, rund hu, Result.andThen, hck, hfk]
  · cases rr with
    | none =>
      obtain ⟨z, hz, rfl⟩ := hv
      simp [Instr.lookup, Sem.run_bind, rund hu, Result.andThen, hck, hfk, rgetmap hb, hz]
    | some jv =>
      obtain ⟨j, y⟩ := jv
      subst hv
      simp [Instr.lookup, Sem.run_bind, rund hu, Result.andThen, hck, hfk, rgetmap hb]

theorem lookup_sound {E : Env} (hE : E.Ok P) {ι : Iota} {s : AS} {W : World} (h : Rel P ok G ι s W) {t : TypeId} {m m' k k' v : Value} {okk : Bool} (hv : alookup E s t m k okk = some v) (hm : VRel ι m m') (hk : VRel ι k k') :
    ∃ v', (Instr.lookup t m' k' okk).run P W = .ok v' W ∧ VRel ι v v' := by
  unfold alookup at hv
  cases hd : E.und t with
  | none => simp [hd] at hv
  | some d =>
  have hu := hE.und hd
  simp only [hd, Option.bind_eq_bind, Option.bind_some] at hv
  split at hv
  case h_2 => cases hv
  rename_i kt et
  cases hkd : E.und kt with
  | none => simp [hkd] at hv
  | some kd =>
  have hku := hE.und hkd
  simp only [hkd, Option.bind_some] at hv
  split at hv
  · cases hv
  rename_i hpk
  simp only [Bool.not_eq_false] at hpk
  have hkk := hk.flat (plainKey_flat hpk)
  subst hkk
  cases hfa : afind s m k' with
  | none => simp [hfa] at hv
  | some rr =>
  simp only [hfa, Option.bind_some] at hv
  -- what is found, and in which entries
  have hfound : ∃ es : Array MapEntry, ((m' = .map none ∧ es = #[]) ∨ ∃ r clock, m' = .map (some r) ∧ W.heap[r]? = some (.map es clock)) ∧
      match rr with
      | none => Instr.findNow kd k' es.toList 0 = some none
      | some (j, v) => ∃ v', Instr.findNow kd k' es.toList 0 = some (some (j, v')) ∧ VRel ι v v' := by
    unfold afind at hfa
    cases hm with
    | mapNil =>
      simp only [Option.some.injEq] at hfa
      subst hfa
      exact ⟨#[], .inl ⟨rfl, rfl⟩, rfl⟩
    | @map r r' x hl hr e =>
      simp only at hfa
      split at hfa
      case h_2 => cases hfa
      rename_i es clock hs
      obtain ⟨_, _, _, es', hb, hes⟩ := h.map hl e hs
      have hfs := find_sound hpk es es'.toList 0 rr hfa hes
      refine ⟨es', .inr ⟨_, clock, rfl, hb⟩, ?_⟩
      cases rr with
      | none => exact hfs
      | some jv => obtain ⟨v', g1, g2, _⟩ := hfs; exact ⟨v', g1, g2⟩
    | _ => simp at hfa
  obtain ⟨es, hcase, hfn⟩ := hfound
  cases rr with
  | none =>
    cases hz : E.zero et with
    | none => simp [hz] at hv
    | some z =>
      obtain ⟨⟨i, hi, hiz⟩, hf⟩ := hE.zero hz
      simp only [hz, Option.bind_some, Option.some.injEq] at hv
      subst hv
      have hzz := VRel.ofFlat ι z hf
      refine ⟨_, lookup_run hu hku hpk hcase hfn okk ⟨z, rzero hi hiz W, rfl⟩, ?_⟩
      cases okk
      · exact hzz
      · exact (LRel.cons hzz (.cons (.bool _) (.nil ι))).tuple
  | some jv =>
    obtain ⟨j, v0⟩ := jv
    obtain ⟨v', g1, g2⟩ := hfn
    simp only [Option.some.injEq] at hv
    subst hv
    refine ⟨_, lookup_run hu hku hpk hcase g1 okk rfl, ?_⟩
    cases okk
    · exact g2
    · exact (LRel.cons g2 (.cons (.bool _) (.nil ι))).tuple

/-! ### Writing a map -/
theorem heap_set_same (W : World) (r : Nat) (o : Obj) (h : r < W.heap.size) : ({ W with heap := W.heap.setIfInBounds r o } : World).heap[r]? = some o := by
  simp [h]
theorem heap_set_other (W : World) (r k : Nat) (o : Obj) (h : k ≠ r) : ({ W with heap := W.heap.setIfInBounds r o } : World).heap[k]? = W.heap[k]? := by
  simp [Array.getElem?_setIfInBounds, Ne.symm h]

theorem post_map {ι : Iota} {s : AS} {W : World} (h : Rel P ok G ι s W) {r : Nat} {x : Loc} (hl : ι r = .live x) (ho : x.own = true) (hrow : x.row = false) (hoff : x.off = 0) (hlt : x.block < W.heap.size) {es : List MapEntry} {es' : Array MapEntry} (clock : Nat) (hes : EsRel ι es es'.toList) :
    Post P ok G ι W ι (s.set r (some (.map es clock))) { W with heap := W.heap.setIfInBounds x.block (.map es' clock) } := by
  refine post_set h hl ho _ (fun b hb => heap_set_other W _ _ _ hb) (by simp) rfl rfl rfl ⟨ho, hrow, hoff, es', heap_set_same W _ _ hlt, by simpa using hes.1, fun i e he => ?_⟩
  obtain ⟨e', g1, g2⟩ := hes.2 i e he
  exact ⟨e', by simpa using g1, g2⟩

theorem EsRel.modify {ι : Iota} {es es' : List MapEntry} (h : EsRel ι es es') (i : Nat) (f g : MapEntry → MapEntry) (hfg : ∀ e e', es[i]? = some e → es'[i]? = some e' → ERel ι e e' → ERel ι (f e) (g e')) : EsRel ι (es.modify i f) (es'.modify i g) := by
  refine ⟨by simp [h.1], fun j e he => ?_⟩
  rw [List.getElem?_modify] at he ⊢
  cases hx : es[j]? with
  | none => simp [hx] at he
  | some x =>
    obtain ⟨x', g1, g2⟩ := h.2 j x hx
    simp only [hx, Option.map_eq_map, Option.map_some, Option.some.injEq] at he
    subst he
    by_cases hij : i = j
    · subst hij
      exact ⟨g x', by simp [g1], by simpa using hfg x x' hx g1 g2⟩
    · exact ⟨x', by simp [g1, hij], by simpa [hij] using g2⟩
theorem EsRel.push {ι : Iota} {es es' : List MapEntry} (h : EsRel ι es es') {e e' : MapEntry} (he : ERel ι e e') : EsRel ι (es ++ [e]) (es' ++ [e']) := by
  refine ⟨by simp [h.1], fun j x hx => ?_⟩
  rcases Nat.lt_or_ge j es.length with hj | hj
  · rw [List.getElem?_append_left hj] at hx
    rw [List.getElem?_append_left (h.1 ▸ hj)]
    exact h.2 j x hx
  · rw [List.getElem?_append_right hj] at hx
    rw [List.getElem?_append_right (h.1 ▸ hj), ← h.1]
    cases hjj : j - es.length with
    | zero => rw [hjj] at hx; simp at hx; subst hx; exact ⟨e', by simp, he⟩
    | succ n => rw [hjj] at hx; simp at hx

theorem sameBits_plain {d : TypeDesc} {k x : Value} (hk : plainKey d k = true) (h : sameKey k x = some true) (n : Nat) : Instr.sameBits n x k = true := by
  cases d <;> cases k <;> simp [plainKey] at hk <;> cases x <;> simp [sameKey] at h
  · cases n <;> simp [Instr.sameBits, h]
  · rw [ba_eq h]
    cases n <;> simp [Instr.sameBits, ba_rfl]

theorem keyStays {d : TypeDesc} {k x : Value} (hk : plainKey d k = true) (h : sameKey k x = some true) (W : World) : (Instr.keyThatStays x k).run P W = .ok k W := by
  unfold Instr.keyThatStays
  rw [if_pos (sameBits_plain hk h 10000)]
  rfl

theorem update_sound {E : Env} (hE : E.Ok P) {ι : Iota} {s s1 : AS} {W : World} (h : Rel P ok G ι s W) {t : TypeId} {m m' k k' v v' : Value} (hv : aupdate E s t m k v = some s1) (hm : VRel ι m m') (hk : VRel ι k k') (hvv : VRel ι v v') :
    ∃ W', (Instr.mapUpdate t m' k' v').run P W = .ok () W' ∧ Post P ok G ι W ι s1 W' := by
  unfold aupdate at hv
  cases hd : E.und t with
  | none => simp [hd] at hv
  | some d =>
  have hu := hE.und hd
  simp only [hd, Option.bind_eq_bind, Option.bind_some] at hv
  split at hv
  case h_2 => cases hv
  rename_i kt et r
  cases hkd : E.und kt with
  | none => simp [hkd] at hv
  | some kd =>
  have hku := hE.und hkd
  simp only [hkd, Option.bind_some] at hv
  split at hv
  · cases hv
  rename_i hpk
  simp only [Bool.not_eq_false] at hpk
  have hkk := hk.flat (plainKey_flat hpk)
  subst hkk
  split at hv
  case h_2 => cases hv
  rename_i es clock hs
  cases hm with
  | map hl hr e =>
  obtain ⟨o1, o2, o3, es', hb, hes⟩ := h.map hl e hs
  subst e
  have hlt := (Array.getElem?_eq_some_iff.1 hb).1
  have hck := fun b => checkKey_run (P := P) hku hpk b W
  cases hf : findA k' es 0 with
  | none => simp [hf] at hv
  | some rr =>
    simp only [hf, Option.bind_some] at hv
    have hfs := find_sound hpk es es'.toList 0 rr hf hes
    cases rr with
    | none =>
      simp only [Option.some.injEq] at hv
      subst hv
      have hfk := rfind (P := P) hku hfs W
      refine ⟨_, ?_, post_map h hl o1 o2 o3 hlt (es' := es'.push { key := k', val := v', born := clock }) (clock + 1) ?_⟩
      · unfold Instr.mapUpdate
        simp only [Sem.run_bind, rund hu, Result.andThen, rgetmap hb, hck, hfk]
        exact rsetmap _ hb
      · rw [Array.toList_push]
        exact hes.push ⟨rfl, rfl, hvv⟩
    | some jv =>
      obtain ⟨j, v0⟩ := jv
      obtain ⟨w0, g1, g2, g3, x, x', g4, g5, g6, g7⟩ := hfs
      simp only [Nat.sub_zero] at g4 g5
      simp only [Option.some.injEq] at hv
      subst hv
      have hfk := rfind (P := P) hku g1 W
      have hx' : es'[j]? = some x' := by simpa using g5
      have hks := keyStays (P := P) hpk g7 W
      rw [← g6.1] at hks
      refine ⟨_, ?_, post_map h hl o1 o2 o3 hlt (es' := es'.modify j fun e => { e with key := k', val := v' }) clock ?_⟩
      · unfold Instr.mapUpdate
        simp only [Sem.run_bind, rund hu, Result.andThen, rgetmap hb, hck, hfk, hx', Option.map_some, Option.getD_some, hks]
        exact rsetmap _ hb
      · rw [Array.toList_modify]
        exact hes.modify j _ _ fun a b _ _ hab => ⟨rfl, hab.2.1, hvv⟩

theorem mapEntry_sound {E : Env} (hE : E.Ok P) {ι : Iota} {s s1 : AS} {W : World} (h : Rel P ok G ι s W) {t : TypeId} {m m' k k' v : Value} (hv : amapEntry E s t m k = some (v, s1)) (hm : VRel ι m m') (hk : VRel ι k k') :
    ∃ v' W', (Instr.mapEntry t m' k').run P W = .ok v' W' ∧ Post P ok G ι W ι s1 W' ∧ VRel ι v v' := by
  unfold amapEntry at hv
  cases hd : E.und t with
  | none => simp [hd] at hv
  | some d =>
  have hu := hE.und hd
  simp only [hd, Option.bind_eq_bind, Option.bind_some] at hv
  split at hv
  case h_2 => cases hv
  rename_i kt et r
  cases hkd : E.und kt with
  | none => simp [hkd] at hv
  | some kd =>
  have hku := hE.und hkd
  simp only [hkd, Option.bind_some] at hv
  split at hv
  · cases hv
  rename_i hpk
  simp only [Bool.not_eq_false] at hpk
  have hkk := hk.flat (plainKey_flat hpk)
  subst hkk
  split at hv
  case h_2 => cases hv
  rename_i es clock hs
  cases hm with
  | map hl hr e =>
  obtain ⟨o1, o2, o3, es', hb, hes⟩ := h.map hl e hs
  subst e
  have hlt := (Array.getElem?_eq_some_iff.1 hb).1
  have hck := fun b => checkKey_run (P := P) hku hpk b W
  cases hf : findA k' es 0 with
  | none => simp [hf] at hv
  | some rr =>
    simp only [hf, Option.bind_some] at hv
    have hfs := find_sound hpk es es'.toList 0 rr hf hes
    cases rr with
    | none =>
      cases hz : E.zero et with
      | none => simp [hz] at hv
      | some z =>
      obtain ⟨⟨i, hi, hiz⟩, hzf⟩ := hE.zero hz
      simp only [hz, Option.bind_some, Option.some.injEq, Prod.mk.injEq] at hv
      obtain ⟨rfl, rfl⟩ := hv
      have hzz := VRel.ofFlat ι z hzf
      have hfk := rfind (P := P) hku hfs W
      refine ⟨.tuple #[z, goInt clock], _, ?_, post_map h hl o1 o2 o3 hlt (es' := es'.push { key := k', val := z, born := clock }) (clock + 1) ?_, (LRel.cons hzz (.cons (.int _ _) (.nil ι))).tuple⟩
      · unfold Instr.mapEntry
        simp only [Sem.run_bind, rund hu, Result.andThen, rgetmap hb, hck, hfk, rzero hi hiz, rsetmap _ hb]
        rfl
      · rw [Array.toList_push]
        exact hes.push ⟨rfl, rfl, hzz⟩
    | some jv =>
      obtain ⟨j, v0⟩ := jv
      obtain ⟨w0, g1, g2, g3, x, x', g4, g5, g6, g7⟩ := hfs
      simp only [Nat.sub_zero] at g4 g5
      simp only [Option.some.injEq, Prod.mk.injEq] at hv
      obtain ⟨rfl, rfl⟩ := hv
      have hfk := rfind (P := P) hku g1 W
      have hx' : es'[j]? = some x' := by simpa using g5
      have hks := keyStays (P := P) hpk g7 W
      rw [← g6.1] at hks
      refine ⟨.tuple #[w0, goInt x'.born], _, ?_, post_map h hl o1 o2 o3 hlt (es' := es'.modify j fun e => { e with key := k' }) clock ?_, ?_⟩
      · unfold Instr.mapEntry
        simp only [Sem.run_bind, rund hu, Result.andThen, rgetmap hb, hck, hfk, hx', Option.map_some, Option.getD_some, hks, rsetmap _ hb]
        rfl
      · rw [Array.toList_modify]
        exact hes.modify j _ _ fun a b _ _ hab => ⟨rfl, hab.2.1, hab.2.2⟩
      · refine (LRel.cons g2 (.cons ?_ (.nil ι))).tuple
        simp only [g4, Option.map_some, Option.getD_some]
        rw [g6.2.1]
        exact .int _ _

theorem findIdx_rel {ι : Iota} (b : Int) : ∀ {es es' : List MapEntry}, EsRel ι es es' → es'.findIdx? (fun e => (e.born : Int) == b) = es.findIdx? (fun e => (e.born : Int) == b)
  | [], es', h => by
    have : es' = [] := List.eq_nil_of_length_eq_zero (by have := h.1; simpa using this.symm)
    subst this
    rfl
  | e :: es, es', h => by
    obtain ⟨e', r, rfl, h1, h2⟩ := h.cons
    rw [List.findIdx?_cons, List.findIdx?_cons, h1.2.1, findIdx_rel b h2]

theorem entryStore_sound {ι : Iota} {s s1 : AS} {W : World} (h : Rel P ok G ι s W) {t : TypeId} {m m' k k' v v' : Value} (hv : aentryStore s m k v = some s1) (hm : VRel ι m m') (hk : VRel ι k k') (hvv : VRel ι v v') :
    ∃ W', (Instr.entryStore t m' k' v').run P W = .ok () W' ∧ Post P ok G ι W ι s1 W' := by
  unfold aentryStore at hv
  split at hv
  case h_2 => cases hv
  rename_i r kk b
  cases hk
  split at hv
  case h_2 => cases hv
  rename_i es clock hs
  cases hm with
  | map hl hr e =>
  obtain ⟨o1, o2, o3, es', hb, hes⟩ := h.map hl e hs
  subst e
  have hlt := (Array.getElem?_eq_some_iff.1 hb).1
  cases hf : es.findIdx? (fun e => (e.born : Int) == b) with
  | none => simp [hf] at hv
  | some i =>
    simp only [hf, Option.bind_eq_bind, Option.bind_some, Option.some.injEq] at hv
    subst hv
    have hf' : es'.findIdx? (fun e => (e.born : Int) == b) = some i := by
      rw [← hf, ← findIdx_rel b hes]
      rw [← List.findIdx?_toArray]
    refine ⟨_, ?_, post_map h hl o1 o2 o3 hlt (es' := es'.modify i fun e => { e with val := v' }) clock ?_⟩
    · unfold Instr.entryStore
      simp only [Sem.run_bind, Result.andThen, rgetmap hb, asInt, asInt_run, rpure, hf']
      exact rsetmap _ hb
    · rw [Array.toList_modify]
      exact hes.modify i _ _ fun a b _ _ hab => ⟨hab.1, hab.2.1, hvv⟩

theorem makeMap_sound {ι : Iota} {s : AS} {W : World} (h : Rel P ok G ι s W) (t : TypeId) :
    ∃ ι' v' W', (Instr.makeMap t none).run P W = .ok v' W' ∧ Post P ok G ι W ι' (s.new (.map [] 0)) W' ∧ VRel ι' (.map (some s.id)) v' := by
  refine ⟨_, .map (some W.heap.size), W.alloc (.map #[] 0), rfl, post_new h (.map [] 0) (.map #[] 0) ⟨W.heap.size, 0, 0, 0, true, false⟩ rfl rfl ⟨rfl, rfl, rfl, #[], heap_push_new _ _, rfl, fun i e he => by simp at he⟩, .map (upd_same _ _ _) rfl rfl⟩

/-! ### Ranges over a string -/
theorem range_sound {E : Env} (hE : E.Ok P) {ι : Iota} {s : AS} {W : World} (h : Rel P ok G ι s W) {t : TypeId} (ht : E.und t = some .string) (b : ByteArray) :
    ∃ ι' v' W', (Instr.range t (.string b)).run P W = .ok v' W' ∧ Post P ok G ι W ι' (s.new (.iter b 0)) W' ∧ VRel ι' (.pointer (some ⟨s.id, 0, none⟩)) v' := by
  refine ⟨_, .pointer (some ⟨W.heap.size, 0, none⟩), W.alloc (.stringIter b 0), ?_, post_new h (.iter b 0) (.stringIter b 0) ⟨W.heap.size, 0, 0, 0, true, false⟩ rfl rfl ⟨rfl, rfl, rfl, heap_push_new _ _⟩, .ptr ⟨rfl, .inr ⟨_, upd_same _ _ _, rfl⟩⟩⟩
  unfold Instr.range
  simp only [Sem.run_bind, rund (hE.und ht), Result.andThen]
  rfl

theorem next_sound {ι : Iota} {s s1 : AS} {W : World} (h : Rel P ok G ι s W) {x x' v : Value} (hv : anext s x = some (v, s1)) (hx : VRel ι x x') (ty : TypeId) :
    ∃ v' W', (Instr.next x' true ty).run P W = .ok v' W' ∧ Post P ok G ι W ι s1 W' ∧ VRel ι v v' := by
  unfold anext at hv
  split at hv
  case h_2 => cases hv
  rename_i r
  split at hv
  case h_2 => cases hv
  rename_i b pos hs
  cases hx with
  | ptr p =>
  rename_i a'
  have hl : ∃ x, ι r = .live x ∧ a' = ⟨x.block, x.off, none⟩ := by
    rcases p.2 with hd | ⟨l, hl, e⟩
    · have hd' : ι r = .dead := hd
      rw [h.dead r hd'] at hs; cases hs
    · exact ⟨l, hl, e⟩
  obtain ⟨x, hl, rfl⟩ := hl
  obtain ⟨o, h1, h2⟩ := h.live r x hl
  rw [hs] at h1
  cases h1
  obtain ⟨o1, o2, o3, hb⟩ := h2
  have hlt := (Array.getElem?_eq_some_iff.1 hb).1
  rw [o3]
  have hg : (getObj x.block).run P W = .ok (.stringIter b pos) W := by simp [getObj, Sem.run, hb]
  split at hv
  · rename_i hp
    simp only [Option.some.injEq, Prod.mk.injEq] at hv
    obtain ⟨rfl, rfl⟩ := hv
    refine ⟨.tuple #[.bool true, goInt pos, .int .i32 (Utf8.decode b pos).1], { W with heap := W.heap.setIfInBounds x.block (.stringIter b (pos + (Utf8.decode b pos).2)) }, ?_, ?_, ?_⟩
    · unfold Instr.next
      simp only [Sem.run_bind, hg, Result.andThen, hp, if_true]
      simp [setObj, Sem.run, hb]
    · exact post_set h hl o1 _ (fun k hk => heap_set_other W _ _ _ hk) (by simp) rfl rfl rfl ⟨o1, o2, o3, heap_set_same W _ _ hlt⟩
    · exact (LRel.cons (.bool _) (.cons (.int _ _) (.cons (.int _ _) (.nil ι)))).tuple
  · rename_i hp
    cases hv
    refine ⟨.tuple #[.bool false], W, ?_, .refl h, (LRel.cons (.bool _) (.nil ι)).tuple⟩
    unfold Instr.next
    simp only [Sem.run_bind, hg, Result.andThen, hp, if_false]
    rfl
end Go.AE
