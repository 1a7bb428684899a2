import Derived.Test.YtgakphbkknfmdaaDoorAEOps1
set_option linter.all false
set_option linter.unusedSimpArgs false
set_option linter.unusedVariables false
set_option autoImplicit false
namespace Go.AE
variable {P : Program} {ok : Nat → Code → Bool} {G : Nat}

theorem getD_toList (a : Array Value) (i : Nat) : a.getD i undef = a.toList.getD i undef := getD_list a.toList i
theorem rpure {α : Type} (x : α) (W : World) : (pure x : Sem α).run P W = .ok x W := rfl

/-! ### New rows -/
theorem post_row {ι : Iota} {s : AS} {W : World} (h : Rel P ok G ι s W) {e : TypeId} {n : Nat} (hn : (P.info? e).map (·.size) = some n) (h0 : 0 < n) {cells : List Value} (c' : Array Value)
    (hlen : cells.length ≤ c'.size) (hv : ∀ i, i < cells.length → VRel ι (cells.getD i undef) (c'.getD i undef)) (lo hi : Nat) (fr : Nat × Nat) (hfr : FrRel c'.size lo hi fr) :
    Post P ok G ι W (upd ι s.id (.live ⟨W.heap.size, 0, c'.size, n, true, true⟩)) (s.new (.row true e cells lo hi)) (W.alloc (.cells c' e fr)) :=
  post_new h _ _ _ rfl rfl ⟨rfl, rfl, rfl, h0, hn, hlen, c', fr, heap_push_new _ _, Nat.le_refl _, hfr, fun i hi => (hv i hi).mono (.upd_free _ (h.free))⟩

theorem fr0 (n : Nat) : FrRel n 0 0 (0, 0) := ⟨fun _ => .inl rfl, fun h => by omega⟩

theorem size_cells {E : Env} (hE : E.Ok P) {t : TypeId} {n : Nat} (h : E.size t = some n) : P.cellsOf t = n := by
  have := hE.size h
  unfold Program.cellsOf
  cases hi : P.info? t with
  | none => simp [hi] at this
  | some i => simpa [hi] using this

theorem newRow_sound {E : Env} (hE : E.Ok P) {ι : Iota} {s s1 : AS} {W : World} (h : Rel P ok G ι s W) {e : TypeId} {cells : List Value} {v : Value} (hr : newRow E s e cells = some (v, s1)) {x' : Value} (hx : LRel ι cells x'.cells.toList) :
    ∃ ι' v' W', (newVar e x').run P W = .ok v' W' ∧ Post P ok G ι W ι' s1 W' ∧ VRel ι' v (.pointer (some v')) := by
  unfold newRow at hr
  split at hr
  · rename_i n hn
    cases hr
    have hsz : cells.length = x'.cells.size := by have := hx.1; simpa using this
    have hP := post_row (ok := ok) h (hE.size hn) (Nat.succ_pos n) (cells := cells) x'.cells (by omega) (fun i hi => by rw [getD_toList]; exact hx.2 i hi) 0 0 (0, 0) (fr0 _)
    refine ⟨_, ⟨W.heap.size, 0, none⟩, _, ?_, hP, .ptr ⟨rfl, .inr ⟨_, upd_same _ _ _, rfl⟩⟩⟩
    simp only [newVar, AE.newRow, Go.newRow, Sem.run_bind]
    rfl
  · cases hr

theorem alloc_sound {E : Env} (hE : E.Ok P) {ι : Iota} {s s1 : AS} {W : World} (h : Rel P ok G ι s W) {e : TypeId} {z v : Value} (hz : E.zero e = some z) (hr : newRow E s e (vcells z) = some (v, s1)) (o : Value) :
    ∃ ι' v' W', (Instr.alloc e true o).run P W = .ok v' W' ∧ Post P ok G ι W ι' s1 W' ∧ VRel ι' v v' := by
  obtain ⟨⟨i, hi, hiz⟩, hf⟩ := hE.zero hz
  obtain ⟨ι', a, W', h1, h2, h3⟩ := newRow_sound (ok := ok) (G := G) hE h hr (x' := z) (VRel.ofFlat ι z hf).vcells
  refine ⟨ι', .pointer (some a), W', ?_, h2, h3⟩
  unfold Instr.alloc
  simp only [Sem.run_bind, rzero hi hiz, Result.andThen, h1]
  rfl

theorem box_sound {E : Env} (hE : E.Ok P) {ι : Iota} {s s1 : AS} {W : World} (h : Rel P ok G ι s W) {e : TypeId} {x x' v : Value} (hx : VRel ι x x') (hr : newRow E s e (vcells x) = some (v, s1)) :
    ∃ ι' v' W', (Instr.box e x').run P W = .ok v' W' ∧ Post P ok G ι W ι' s1 W' ∧ VRel ι' v v' := by
  obtain ⟨ι', a, W', h1, h2, h3⟩ := newRow_sound (ok := ok) (G := G) hE h hr hx.vcells
  refine ⟨ι', .pointer (some a), W', ?_, h2, h3⟩
  unfold Instr.box
  simp only [Sem.run_bind, h1, Result.andThen]
  rfl

/-! ### Places -/
theorem asInt_run (k : IntKind) (n : Int) (W : World) : (asIntOf (.int k n)).run P W = .ok (k, n) W := rfl

theorem intOf64_some {v v' : Value} {ι : Iota} {i : Int} (h : intOf64 v = some i) (hv : VRel ι v v') : ∃ k, v = .int k i ∧ v' = .int k i := by
  cases v <;> simp [intOf64] at h
  subst h
  cases hv
  exact ⟨_, rfl, rfl⟩

theorem indexAddr_sound {E : Env} (hE : E.Ok P) {ι : Iota} {t : TypeId} {x x' ix ix' v : Value} (hv : aindexAddr E t x ix = some v) (hx : VRel ι x x') (hi : VRel ι ix ix') (W : World) :
    ∃ v', (Instr.indexAt t x' ix').run P W = .ok v' W ∧ VRel ι v v' := by
  unfold aindexAddr at hv
  cases hio : intOf64 ix with
  | none => simp [hio] at hv
  | some i =>
    obtain ⟨k, rfl, rfl⟩ := intOf64_some hio hi
    cases hd : E.und t with
    | none => simp [hd, hio] at hv
    | some d =>
      have hu := hE.und hd
      simp only [hio, hd, Option.bind_eq_bind, Option.bind_some] at hv
      unfold Instr.indexAt
      simp only [Sem.run_bind, asInt_run, Result.andThen, rund hu]
      split at hv
      · rename_i len elem a
        cases hn : E.size elem with
        | none => simp [hn] at hv
        | some n =>
          simp only [hn, Option.bind_some] at hv
          split at hv
          · rename_i hc
            cases hv
            cases hx with
            | ptr p =>
              rename_i a'
              have hsz := rsize (P := P) (hE.size hn) W
              refine ⟨.pointer (some (a'.add (i.toNat * n))), ?_, .ptr ⟨rfl, ?_⟩⟩
              · simp [Instr.sureAddr, Sem.run_bind, rund hu, rpure, Result.andThen, hc.1, hc.2.1, hsz]
              · rcases p.2 with hd | ⟨l, hl, e⟩
                · exact .inl hd
                · refine .inr ⟨l, hl, ?_⟩
                  rw [e, add_none]
                  simp [Nat.add_assoc]
          · cases hv
      · rename_i elem a len c
        cases hn : E.size elem with
        | none => simp [hn] at hv
        | some n =>
          simp only [hn, Option.bind_some] at hv
          split at hv
          · rename_i hc
            cases hv
            cases hx with
            | slice p =>
              rename_i a' c'
              have hsz := rsize (P := P) (hE.size hn) W
              refine ⟨.pointer (some (a'.add (i.toNat * n))), ?_, .ptr ⟨rfl, ?_⟩⟩
              · simp [Sem.run_bind, rund hu, rpure, Result.andThen, hc.1, hc.2.1, hsz]
              · rcases p.2.2 with hd | ⟨l, hl, _, _, e⟩
                · exact .inl hd
                · refine .inr ⟨l, hl, ?_⟩
                  rcases e with e | e
                  · rw [e, add_none]
                    simp [Nat.add_assoc]
                  · have := p.2.1
                    omega
          · cases hv
      · cases hv

theorem fieldAddr_sound {E : Env} (hE : E.Ok P) {ι : Iota} {t : TypeId} {x x' v : Value} {f : Nat} (hv : afieldAddr E t x f = some v) (hx : VRel ι x x') (W : World) :
    ∃ v', (Instr.fieldAt t x' f).run P W = .ok v' W ∧ VRel ι v v' := by
  unfold afieldAddr at hv
  cases hd : E.und t with
  | none => simp [hd] at hv
  | some d =>
    have hu := hE.und hd
    simp only [hd, Option.bind_eq_bind, Option.bind_some] at hv
    split at hv
    · rename_i fields a
      cases hf : fields[f]? with
      | none => simp [hf] at hv
      | some fd =>
        simp only [hf, Option.bind_some] at hv
        cases hn : E.size fd.type with
        | none => simp [hn] at hv
        | some n =>
          simp only [hn, Option.bind_some] at hv
          split at hv
          · rename_i hc
            cases hv
            cases hx with
            | ptr p =>
              rename_i a'
              have hsz := rsize (P := P) (hE.size hn) W
              refine ⟨.pointer (some (a'.add fd.offset)), ?_, .ptr ⟨rfl, ?_⟩⟩
              · unfold Instr.fieldAt
                simp [Sem.run_bind, rund hu, Result.andThen, hf, Instr.sureAddr, rpure, fieldPlace, hsz, hc.1]
              · rcases p.2 with hd | ⟨l, hl, e⟩
                · exact .inl hd
                · refine .inr ⟨l, hl, ?_⟩
                  rw [e, add_none]
                  simp [Nat.add_assoc]
          · cases hv
    · cases hv
end Go.AE
