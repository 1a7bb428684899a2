import Derived.Test.YtgakphbkknfmdaaDoorAEDraw6
set_option linter.all false
set_option linter.unusedSimpArgs false
set_option linter.unusedVariables false
set_option autoImplicit false
namespace Go.AE
variable {P : Program} {ok : Nat → Code → Bool} {G : Nat}

def exitOf : AX → Exit
  | .normal => .normal
  | .exit id => .exit id
  | .ret => .ret
def RoundRel (ι : Iota) (r r' : Option Nat) : Prop :=
  match r, r' with
  | none, none => True
  | some l, some b => ∃ x, ι l = .live x ∧ x.row = false ∧ x.block = b
  | _, _ => False
def MsRel (ι : Iota) : List Nat → List Deferred → Prop
  | [], [] => True
  | m :: ms, d :: ds => (∃ x, ι m = .live x ∧ x.row = false ∧ d = { target := .collected x.block, args := #[] }) ∧ MsRel ι ms ds
  | _, _ => False
theorem RoundRel.mono {ι ι' : Iota} (h : Le ι ι') {r r' : Option Nat} (p : RoundRel ι r r') : RoundRel ι' r r' := by
  cases r <;> cases r' <;> simp only [RoundRel] at p ⊢
  obtain ⟨x, h1, h2, h3⟩ := p
  exact ⟨x, h.keep h1 h2, h2, h3⟩
theorem MsRel.mono {ι ι' : Iota} (h : Le ι ι') : ∀ {ms : List Nat} {ds : List Deferred}, MsRel ι ms ds → MsRel ι' ms ds
  | [], [], _ => trivial
  | [], _ :: _, p => p.elim
  | _ :: _, [], p => p.elim
  | _ :: _, _ :: _, ⟨⟨x, h1, h2, h3⟩, p⟩ => ⟨⟨x, h.keep h1 h2, h2, h3⟩, MsRel.mono h p⟩

/-- How code may be left. -/
def After (P : Program) (ok : Nat → Code → Bool) (G : Nat) (ι : Iota) (W : World) (N : Nat) (x : AX) (t' : T) (ms' : List Nat) (s' : AS) : Exit → Act → World → Prop := fun e a' W' =>
  e = exitOf x ∧ ∃ ι', Post P ok G ι W ι' s' W' ∧ TRel ι' t' a'.tmps ∧ a'.tmps.size = N ∧ MsRel ι' ms' a'.defers

def CodeOk (E : Env) (P : Program) (ok : Nat → Code → Bool) (C : Calls) (c : Code) : Prop :=
  ∀ {n : Nat} {r r' : Option Nat} {ι : Iota} {s : AS} {W : World} {t : T} {a : Act} {ms : List Nat} {x : AX} {t' : T} {ms' : List Nat} {s' : AS},
    (codeFn E c).run n C r t ms s = .ok x t' ms' s' → okCode E a.tmps.size c = true → Rel P ok E.glob ι s W → TRel ι t a.tmps → MsRel ι ms a.defers → RoundRel ι r r' →
    c.wpIn (Fr r') 0 P (After P ok E.glob ι W a.tmps.size x t' ms' s') a W

theorem wpIn_loop_fuel {F : Fence} {n : Nat} {Q : Exit → Act → World → Prop} {c : Code} {a : Act} {w : World} (I : Nat → Act → World → Prop) {m : Nat} (h₀ : I m a w)
    (round : ∀ m a w, I m a w → c.wpIn F n P (Exit.then (fun a' w' => ∃ m', m' < m ∧ I m' a' w') Q) a w) : (Code.loop c).wpIn F n P Q a w := by
  intro b k cs hro hb hr
  have key : ∀ m a w, I m a w →
      ∃ e a' w', Q e a' w' ∧ ArrivesIn (Machine.fenced P F) P (lone (b.atR a (.code c :: .inLoop c :: k)) cs w) b k cs e a' w' := by
    intro m
    induction m using Nat.strongRecOn with
    | _ m ih =>
      intro a w hI
      obtain ⟨e, a₁, w₁, hq, harr⟩ := round m a w hI b (.inLoop c :: k) cs hro hb hr
      cases e with
      | normal =>
        obtain ⟨m', hlt, hI₁⟩ := hq
        obtain ⟨e₂, a₂, w₂, hq₂, harr₂⟩ := ih m' hlt a₁ w₁ hI₁
        exact ⟨e₂, a₂, w₂, hq₂, .of_steps (StepsIn.trans harr (.one (fenced_calm hb hr rfl) stepR_inLoop)) harr₂⟩
      | exit id => exact ⟨_, a₁, w₁, hq, .pass (x := .inLoop c) rfl (fun _ _ => .inl (by simp)) harr⟩
      | goto l => exact ⟨_, a₁, w₁, hq, .pass (x := .inLoop c) rfl (fun _ _ => .inl (by simp)) harr⟩
      | ret => exact ⟨_, a₁, w₁, hq, .pass (x := .inLoop c) rfl (fun _ _ => .inl (by simp)) harr⟩
      | panic ch => exact ⟨_, a₁, w₁, hq, .pass (x := .inLoop c) rfl (fun _ _ => .inl (by simp)) harr⟩
      | outgrown => exact ⟨_, a₁, w₁, hq, .pass (x := .inLoop c) rfl (fun _ _ => .inl (by simp)) harr⟩
  obtain ⟨e, a', w', hq, harr⟩ := key m a w h₀
  exact ⟨e, a', w', hq, .of_steps (.one (fenced_calm hb hr rfl) stepR_loop) harr⟩

theorem getLoop_run {W : World} {l : Nat} {r : Loop} (h : W.heap[l]? = some (.loop r)) (fn : FuncId) (tmps : Array Value) (ps : Array Tmp) (assign body : Code) :
    (Instr.enterLoop fn tmps ps assign body (some l)).run P W =
      .ok (W.heap.size, []) (W.alloc (.loop { state := .ready, pending := none, fn, tmps, params := ps, assign, body, defers := r.defers })) := by
  unfold Instr.enterLoop
  simp only [Sem.run_bind, run_getLoop h, run_newObj_alloc, Result.andThen, Sem.run_pure]

/-- A record that is the call's own is written. -/
theorem putObj_post {ι : Iota} {s : AS} {W : World} (h : Rel P ok G ι s W) {k : Nat} {l : Loc} (hk : ι k = .live l) (hown : l.own = true) (o : AObj) (ob : Obj) (hO : ORel P ok ι l o (W.putObj l.block ob)) :
    Post P ok G ι W ι (s.set k (some o)) (W.putObj l.block ob) :=
  post_set h hk hown o (fun b hb => World.putObj_heap_other hb) World.putObj_size rfl rfl rfl hO

theorem After.trans {ι ι1 : Iota} {W W1 : World} {N : Nat} {x : AX} {t' : T} {ms' : List Nat} {s' s1 : AS} {e : Exit} {a' : Act} {W' : World} (h : Post P ok G ι W ι1 s1 W1) (h' : After P ok G ι1 W1 N x t' ms' s' e a' W') : After P ok G ι W N x t' ms' s' e a' W' := by
  obtain ⟨he, ι', hp, ht, hs, hm⟩ := h'
  exact ⟨he, ι', h.trans hp, ht, hs, hm⟩

theorem seekLoop {ι : Iota} {s : AS} {W : World} (h : Rel P ok G ι s W) {k : Nat} {st : LoopState} {pending : Option Code} {t : Tr Value} {ps : Array Tmp} {as b : Code} {d : Nat} {l : Loc} (hk : ι k = .live l)
    (hs : s.get k = some (.loop st pending t ps as b d)) : ORel P ok ι l (.loop st pending t ps as b d) W := by
  obtain ⟨o, h1, h2⟩ := h.live k l hk
  rw [hs] at h1
  cases h1
  exact h2

/-- A function whose code is known. -/
structure FnOk (E : Env) (P : Program) : Prop where
  mixed : P.follows .mixedOrders = true
  fn : ∀ f fn c, E.fn f = some fn → fn.body = some c → P.funcs[f]? = some fn ∧ ∀ args W, (callFunc f args).run P W = .ok (.enter f args) W

theorem hasBody_enter {E : Env} (hF : FnOk E P) {v : Value} (h : hasBody E v = true) : ∃ g a b, v = .func (.func g) a b ∧ ∀ args W, (callFunc g args).run P W = .ok (.enter g args) W := by
  unfold hasBody at h
  split at h
  · rename_i g a b
    cases hf : E.fn g with
    | none => simp [hf] at h
    | some fn =>
      cases hb : fn.body with
      | none => simp [hf, hb] at h
      | some c => exact ⟨g, a, b, rfl, (hF.fn g fn c hf hb).2⟩
  · cases h

theorem rangeFunc_ok {E : Env} (hE : E.Ok P) (hF : FnOk E P) {C : Calls} (hC : CallsOk P (fun N c => okCode E N c) E.glob C) (f : Operand) (params : Array Tmp) (assign body : Code) :
    CodeOk E P (fun N c => okCode E N c) C (.rangeFunc f params assign body) := by
  intro n r r' ι s W t a ms x t' ms' s' hrun hok hr ht hm hro
  change rangeF E (getOf f) params assign body C r t ms s = _ at hrun
  change (okOperand a.tmps.size E.glob f && (params.toList.all (okOpt a.tmps.size) && (okCode E a.tmps.size assign && okCode E a.tmps.size body))) = true at hok
  simp only [Bool.and_eq_true] at hok
  obtain ⟨hof, hop, hoa, hob⟩ := hok
  have hps : ∀ p ∈ params, p < a.tmps.size := fun p hp => by
    rw [List.all_eq_true] at hop
    simpa [okOpt, Nat.blt_eq] using hop p (by simpa using hp)
  have hfv := rho_rel hr ht hof
  -- the record is laid
  have laid : ∀ {d : Nat} {ms1 : List Nat} {s1 : AS}, around r ms s = some (d, ms1, s1) → ∀ fn : FuncId, ∃ (l : Nat) (mark : List Deferred) (W1 : World) (ι1 : Iota) (lc : Loc),
        (Instr.enterLoop fn a.tmps params assign body (Fr r').round).run P W = .ok (l, mark) W1 ∧ Post P (fun N c => okCode E N c) E.glob ι W ι1 (s1.new (.loop .ready none t params assign body d)) W1 ∧
        ι1 s1.id = .live lc ∧ lc.row = false ∧ lc.own = true ∧ lc.block = l ∧ MsRel ι1 ms1 (mark ++ a.defers) := by
    intro d ms1 s1 h fn
    rw [Fr.round]
    clear hrun
    unfold around at h
    cases r with
    | none =>
      cases r' with
      | some b => exact hro.elim
      | none =>
        simp only [Option.some.injEq, Prod.mk.injEq] at h
        obtain ⟨rfl, rfl, rfl⟩ := h
        have hne : s.id ≠ (s.new (.deferred true)).id := by rw [AS.id_new]; exact Nat.ne_of_lt (hr.idlt _)
        have p1 := post_new hr (.deferred true) (.deferred (some [])) ⟨W.heap.size, 0, 0, 0, true, false⟩ rfl rfl ⟨rfl, rfl, rfl, heap_push_new W _⟩
        have hd1 : upd ι s.id (.live ⟨W.heap.size, 0, 0, 0, true, false⟩) s.id = .live ⟨W.heap.size, 0, 0, 0, true, false⟩ := upd_same _ _ _
        have p2 := post_new p1.rel (.loop .ready none t params assign body s.id)
          (.loop { state := .ready, pending := none, fn, tmps := a.tmps, params, assign, body, defers := W.heap.size }) ⟨W.heap.size + 1, 0, 0, 0, true, false⟩ (by simp [size_push]) rfl
          ⟨rfl, rfl, rfl, _, (by
            have := heap_push_new (W.alloc (.deferred (some []))) (.loop { state := .ready, pending := none, fn, tmps := a.tmps, params, assign, body, defers := W.heap.size })
            rwa [size_push] at this), hoa, hob, hps, rfl, rfl, fun i hi => (ht i hi).mono (p1.le.trans (.upd_free _ (p1.rel.free))), rfl, rfl, rfl,
            ⟨W.heap.size, 0, 0, 0, true, false⟩, (by rw [upd_other _ hne]; exact hd1), rfl, rfl⟩
        refine ⟨_, _, _, _, _, run_enterLoop_outer fn a.tmps params assign body, p1.trans p2, upd_same _ _ _, rfl, rfl, rfl, ?_⟩
        refine ⟨⟨_, (by rw [upd_other _ hne]; exact hd1), rfl, rfl⟩, (hm.mono p1.le).mono p2.le⟩
    | some l =>
      cases r' with
      | none => exact hro.elim
      | some b =>
        obtain ⟨xl, hl1, hl2, hl3⟩ := hro
        simp only [] at h
        split at h
        · rename_i st pd t0 ps0 as0 b0 d0 hs
          simp only [Option.some.injEq, Prod.mk.injEq] at h
          obtain ⟨rfl, rfl, rfl⟩ := h
          obtain ⟨_, _, _, rc, hheap, _, _, _, _, _, _, _, _, _, ld, e1, e2, e3⟩ := seekLoop hr hl1 hs
          subst hl3
          have p2 := post_new hr (.loop .ready none t params assign body d0)
            (.loop { state := .ready, pending := none, fn, tmps := a.tmps, params, assign, body, defers := rc.defers }) ⟨W.heap.size, 0, 0, 0, true, false⟩ rfl rfl
            ⟨rfl, rfl, rfl, _, heap_push_new W _, hoa, hob, hps, rfl, rfl, fun i hi => (ht i hi).mono (.upd_free _ (hr.free)), rfl, rfl, rfl,
              ld, (by
                have : d0 ≠ s.id := fun e => by rw [e, hr.free] at e1; cases e1
                rw [upd_other _ this]; exact e1), e2, e3⟩
          exact ⟨_, _, _, _, _, getLoop_run hheap fn a.tmps params assign body, p2, upd_same _ _ _, rfl, rfl, rfl, hm.mono p2.le⟩
        · cases h
  unfold rangeF at hrun
  split at hrun
  · cases hrun
  · rename_i d ms1 s1 h1
    have laid := laid h1
    simp only [forceN_eq, AS.commit_eq] at hrun
    cases hbd : hasBody E ((getOf f).of t) with
    | false => simp [hbd] at hrun
    | true =>
      simp only [hbd] at hrun
      split at hrun
      · cases hrun
      · rename_i v3 s3 hinv
        obtain ⟨g, ga, gb, hge, hent⟩ := hasBody_enter hF hbd
        refine wpIn_rangeFunc fun fn _ => ?_
        obtain ⟨l, mark, W1, ι1, lc, he, hp1, hl1, hrow, hown, hlb, hms1⟩ := laid fn
        have hfv1 := hfv.mono hp1.le
        change VRel ι1 ((getOf f).of t) (a.eval f) at hfv1
        rw [hge] at hfv1 hinv
        cases hA : a.eval f with
        | func fn' fa' ca' =>
          rw [hA] at hfv1
          cases hfv1 with
          | func hfn hs1 h1' hs2 h2' =>
            cases hfn
            have l1 := VRel.cells hs1 h1'
            have l2 := VRel.cells hs2 h2'
            obtain ⟨ga⟩ := ga
            obtain ⟨gb⟩ := gb
            have hy : VRel ι1 (.func (.yield s1.id) #[] #[]) (.func (.yield l) #[] #[]) := .func (.yield hl1 hrow hlb) rfl (fun i hi => by simp at hi) rfl (fun i hi => by simp at hi)
            subst hlb
            have hargs : LRel ι1 (ga ++ [Value.func (.yield s1.id) #[] #[]] ++ gb) (fa' ++ #[Value.func (.yield lc.block) #[] #[]] ++ ca').toList := by
              simpa using (l1.append (.cons hy (.nil ι1))).append l2
            have hcall := hC.call (f := g) hinv hp1.rel.flat hargs
            have hcall' : CallsIn Fence.wide 0 P g (fa' ++ #[.func (.yield lc.block) #[] #[]] ++ ca') W1 (Got P (fun N c => okCode E N c) E.glob ι1 W1 v3 s3) := by
              rcases hcall with ⟨_, h⟩ | ⟨_, v', W', hrr, _, _⟩
              · exact h
              · rw [Runs, hent] at hrr
                rcases hrr with hrr | ⟨hrr, _⟩ <;> cases hrr
            refine ⟨lc.block, mark, W1, { target := .fn (.func g) ca', args := fa' ++ #[.func (.yield lc.block) #[] #[]] }, W1, g, fa' ++ #[.func (.yield lc.block) #[] #[]] ++ ca', W1, he, ?_, fun f' _ => Fr.fn r' f', ?_, fun h => (by rw [Fr.depth] at h; cases h), ?_⟩
            · have hmap : Array.map a.eval #[Operand.const (Value.func (Fn.yield lc.block) #[] #[])] = #[Value.func (.yield lc.block) #[] #[]] := by simp [Act.eval]
              simp only [resolve, hA, Deferred.ofValue, Sem.run_pure, hmap]
            · show (callFunc g _).run P W1 = _
              exact hent _ _
            · rw [Fr.calls]
              refine hcall'.mono fun e W3 ⟨v', ι3, he3, hp3, _⟩ => ?_
              subst he3
              have hl3 : ι3 s1.id = .live lc := hp3.le.keep hl1 hrow
              split at hrun
              · rename_i st pending t0 ps0 as0 b0 dd hg
                have hO := seekLoop hp3.rel hl3 hg
                obtain ⟨o1, o2, o3, rc, hheap, q1, q2, q3, q4, q5, q6, q7, q8, q9, ld, e1, e2, e3⟩ := hO
                have hnb : st ≠ .busy ∧ (match pending with
                    | none => Out.ok .normal t ms1 (s3.set s1.id (some (.loop .exhausted pending t0 ps0 as0 b0 dd))).flat
                    | some .ret => .ok .ret t ms1 (s3.set s1.id (some (.loop .exhausted pending t0 ps0 as0 b0 dd))).flat
                    | some (.exit id) => .ok (.exit id) t ms1 (s3.set s1.id (some (.loop .exhausted pending t0 ps0 as0 b0 dd))).flat
                    | _ => .bad) = .ok x t' ms' s' := by
                  cases st <;> first | (exact ⟨by simp, hrun⟩) | simp at hrun
                obtain ⟨hnb, hrun⟩ := hnb
                have hend := run_endLoop (P := P) hheap (by rw [q4]; exact hnb)
                have hp4 : Post P (fun N c => okCode E N c) E.glob ι3 W3 ι3 (s3.set s1.id (some (.loop .exhausted pending t0 ps0 as0 b0 dd))) (W3.putObj lc.block (.loop { rc with state := .exhausted })) :=
                  putObj_post hp3.rel hl3 o1 _ _ ⟨o1, o2, o3, _, World.putObj_heap_same (Array.getElem?_eq_some_iff.1 hheap).1, q1, q2, q3, rfl, q5, q6, q7, q8, q9, ld, e1, e2, e3⟩
                have hfin := (hp1.trans hp3).trans hp4.flat
                refine ⟨rc.pending, _, hend, ?_⟩
                rw [q5] at hfin ⊢
                have haft : ∀ x', After P (fun N c => okCode E N c) E.glob ι W a.tmps.size x' t ms1 (s3.set s1.id (some (.loop .exhausted pending t0 ps0 as0 b0 dd))).flat (exitOf x') { a with defers := mark ++ a.defers } (W3.putObj lc.block (.loop { rc with state := .exhausted, pending := pending })) :=
                  fun x' => ⟨rfl, ι3, hfin, ht.mono hfin.le, rfl, (hms1.mono hp3.le)⟩
                split at hrun
                · cases hrun; exact haft .normal
                · cases hrun; exact wpIn_ret (haft .ret)
                · cases hrun; exact wpIn_exit (haft (.exit _))
                · cases hrun
              · cases hrun
        | _ => rw [hA] at hfv1; cases hfv1
end Go.AE
