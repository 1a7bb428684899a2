import Derived.Test.YtgakphbkknfmdaaDoorAESound6
set_option linter.all false
set_option linter.unusedSimpArgs false
set_option linter.unusedVariables false
set_option autoImplicit false
namespace Go.AE
variable {P : Program}

noncomputable def putArgsD : Nat → List Value → T → T
  | _, [], t => t
  | i, v :: l, t => putArgsD (i + 1) l (Tr.set (some v) (bits i) t)
theorem putArgs_eq {R : Type} : ∀ (l : List Value) (i : Nat) (t : T) (k : T → R), putArgs i l t k = k (putArgsD i l t)
  | [], _, _, _ => rfl
  | v :: l, i, t, k => by
    unfold putArgs
    rw [forceT_eq, Tr.setK_eq, putArgs_eq l]
    rfl
theorem at_putArgs : ∀ (l : List Value) (j : Nat) (t : T) (i : Nat), T.at (putArgsD j l t) (bits i) = if j ≤ i ∧ i < j + l.length then l.getD (i - j) undef else T.at t (bits i)
  | [], j, t, i => by
    have : ¬ (j ≤ i ∧ i < j + ([] : List Value).length) := by simp <;> omega
    rw [if_neg this]; rfl
  | v :: l, j, t, i => by
    unfold putArgsD
    rw [at_putArgs l (j + 1)]
    by_cases h1 : j + 1 ≤ i ∧ i < j + 1 + l.length
    · rw [if_pos h1, if_pos (by simp; omega)]
      have : i - j = (i - (j + 1)) + 1 := by omega
      rw [this]
      simp
    · rw [if_neg h1]
      by_cases h2 : i = j
      · subst h2
        rw [T.at_set_same, if_pos (by simp)]
        simp
      · rw [T.at_set_other _ _ (fun e => h2 (bits_inj e)), if_neg (by simp; omega)]
theorem T.at_leaf (p : List D8) : T.at .leaf p = undef := by unfold T.at; rw [Tr.get_nilLeaf]
theorem enter_rel {ι : Iota} {args : List Value} {args' : Array Value} {n : Nat} (h : LRel ι args args'.toList) : TRel ι (putArgsD 0 args .leaf) (args' ++ Array.replicate n undef) := by
  intro i hi
  rw [at_putArgs]
  have hs : args.length = args'.size := by simpa using h.1
  by_cases hl : i < args'.size
  · rw [if_pos ⟨Nat.zero_le _, by omega⟩]
    have e : (args' ++ Array.replicate n undef).getD i undef = args'.toList.getD i undef := by
      have h2 : i < (args' ++ Array.replicate n undef).size := hi
      rw [Array.getD, dif_pos h2]
      show (args' ++ Array.replicate n undef)[i] = _
      rw [Array.getElem_append_left hl]
      simp [List.getD_eq_getElem?_getD, hl]
    rw [e]
    simpa using h.getD i
  · rw [if_neg (by omega), T.at_leaf]
    have e : (args' ++ Array.replicate n undef).getD i undef = undef := by
      have h2 : i < (args' ++ Array.replicate n undef).size := hi
      rw [Array.getD, dif_pos h2]
      show (args' ++ Array.replicate n undef)[i] = _
      rw [Array.getElem_append_right (Nat.le_of_not_lt hl)]
      simp
    rw [e]
    exact .ofFlat ι _ rfl

noncomputable def putParamsD : List Tmp → List Value → T → Option T
  | [], [], t => some t
  | i :: is, v :: l, t => putParamsD is l (Tr.set (some v) (bits i) t)
  | _, _, _ => none
theorem putParams_eq {R : Type} : ∀ (is : List Tmp) (l : List Value) (t : T) (k : Option T → R), putParams is l t k = k (putParamsD is l t)
  | [], [], _, _ => rfl
  | [], _ :: _, _, _ => rfl
  | _ :: _, [], _, _ => rfl
  | i :: is, v :: l, t, k => by
    unfold putParams
    rw [forceT_eq, Tr.setK_eq, putParams_eq is l]
    rfl
theorem params_rel {ι : Iota} : ∀ (is : List Tmp) (l l' : List Value) (t t2 : T) (tmps : Array Value), putParamsD is l t = some t2 → LRel ι l l' → TRel ι t tmps →
    is.length = l.length ∧ TRel ι t2 ((is.zip l').foldl (fun tmps (x : Tmp × Value) => tmps.setIfInBounds x.1 x.2) tmps) ∧ ((is.zip l').foldl (fun tmps (x : Tmp × Value) => tmps.setIfInBounds x.1 x.2) tmps).size = tmps.size
  | [], [], l', t, t2, tmps, h, hl, ht => by
    cases h
    exact ⟨rfl, ht, rfl⟩
  | [], _ :: _, _, _, _, _, h, _, _ => by cases h
  | _ :: _, [], _, _, _, _, h, _, _ => by cases h
  | i :: is, v :: l, [], t, t2, tmps, h, hl, ht => by have := hl.1; simp at this
  | i :: is, v :: l, v' :: l', t, t2, tmps, h, hl, ht => by
    obtain ⟨h1, h2, h3⟩ := params_rel is l l' _ t2 (tmps.setIfInBounds i v') h hl.tail (ht.set hl.head)
    exact ⟨by simp [h1], by simpa using h2, by simpa using h3⟩

theorem shut_sound {E : Env} {fn : Func} {tmps : Array Value} {R : Ending → World → Prop} {ι : Iota} : ∀ (ms : List Nat) (ds : List Deferred) (s s2 : AS) (W : World), shut ms s = some s2 → MsRel ι ms ds → Rel P (okOf E) E.glob ι s W →
    (∀ W', Post P (okOf E) E.glob ι W ι s2 W' → LeavesInM Fence.wide 0 P fn tmps R [] .returning W') → LeavesInM Fence.wide 0 P fn tmps R ds .returning W
  | [], [], s, s2, W, h, _, hr, k => by
    cases h
    exact k W (.refl hr)
  | [], _ :: _, _, _, _, _, hm, _, _ => hm.elim
  | _ :: _, [], _, _, _, _, hm, _, _ => hm.elim
  | m :: ms, d :: ds, s, s2, W, h, ⟨⟨x, h1, h2, h3⟩, hm⟩, hr, k => by
    unfold shut at h
    split at h
    · rename_i hg
      obtain ⟨o, g1, g2⟩ := hr.live m x h1
      rw [hg] at g1
      cases g1
      obtain ⟨o1, o2, o3, hheap⟩ := g2
      simp only [if_true] at hheap
      have hp := putObj_post hr h1 o1 (.deferred false) (.deferred none) ⟨o1, o2, o3, World.putObj_heap_same (Array.getElem?_eq_some_iff.1 hheap).1⟩
      refine ⟨by simp, .inl ⟨x.block, _, (by rw [h3]), run_takeDeferred hheap, ?_⟩⟩
      exact shut_sound ms ds _ s2 _ h hm hp.rel fun W' hp' => k W' (hp.trans hp')
    · cases h

theorem results_sound {E : Env} (hE : E.Ok P) {ι : Iota} {s : AS} {W : World} (hr : Rel P (okOf E) E.glob ι s W) {t : T} {tmps : Array Value} (ht : TRel ι t tmps) :
    ∀ (rs : List ResultVar) (l : List Value), resultsF E t s rs = some l → rs.all (okResult tmps.size) = true →
      ∃ l', (rs.mapM fun
        | ResultVar.tmp t => (pure (tmps.getD t undef) : Sem Value)
        | ResultVar.cell a t => do loadVar t (← asAddr (tmps.getD a undef))).run P W = .ok l' W ∧ LRel ι l l'
  | [], l, h, _ => by
    cases h
    exact ⟨[], rfl, .nil ι⟩
  | .tmp i :: rs, l, h, hk => by
    unfold resultsF at h
    simp only [List.all_cons, Bool.and_eq_true] at hk
    cases h1 : resultsF E t s rs with
    | none => simp [h1] at h
    | some l1 =>
      simp only [h1, Option.some.injEq] at h
      subst h
      obtain ⟨l', h2, h3⟩ := results_sound hE hr ht rs l1 h1 hk.2
      have hi : i < tmps.size := by simpa [okResult, Nat.blt_eq] using hk.1
      exact ⟨tmps.getD i undef :: l', by simp only [List.mapM_cons, Sem.run_bind, Sem.run_pure, Result.andThen, h2], .cons (ht i hi) h3⟩
  | .cell p ty :: rs, l, h, hk => by
    unfold resultsF at h
    simp only [List.all_cons, Bool.and_eq_true] at hk
    have hi : p < tmps.size := by simpa [okResult, Nat.blt_eq] using hk.1
    have hp := ht p hi
    split at h
    · rename_i q hq
      rw [hq] at hp
      cases hl : aload E s ty q with
      | none => simp [hl] at h
      | some v =>
        simp only [hl] at h
        cases h1 : resultsF E t s rs with
        | none => simp [h1] at h
        | some l1 =>
          simp only [h1, Option.some.injEq] at h
          subst h
          obtain ⟨l', h2, h3⟩ := results_sound hE hr ht rs l1 h1 hk.2
          cases hA : tmps.getD p undef <;> rw [hA] at hp <;> cases hp
          rename_i q' hpr
          obtain ⟨v', h4, h5⟩ := load_sound hE hr hl hpr
          refine ⟨v' :: l', ?_, .cons h5 h3⟩
          have hasA : (asAddr (.pointer (some q'))).run P W = .ok q' W := rfl
          simp only [List.mapM_cons, Sem.run_bind, hA, hasA, Sem.run_pure, Result.andThen, h4, h2]
    · cases h

theorem results_run {E : Env} (hE : E.Ok P) {ι : Iota} {s : AS} {W : World} (hr : Rel P (okOf E) E.glob ι s W) {t : T} {tmps : Array Value} (ht : TRel ι t tmps) {fn : Func} {l : List Value}
    (h : resultsF E t s fn.results.toList = some l) (hk : fn.results.toList.all (okResult tmps.size) = true) : ∃ v', (results fn tmps).run P W = .ok v' W ∧ VRel ι (resultOf l) v' := by
  obtain ⟨l', h1, h2⟩ := results_sound hE hr ht _ l h hk
  refine ⟨if h : l'.toArray.size = 1 then l'.toArray[0] else .tuple l'.toArray, ?_, ?_⟩
  · unfold results
    rw [Array.mapM_eq_mapM_toList]
    simp only [Sem.run_bind, map_eq_pure_bind, Sem.run_pure, Result.andThen]
    erw [h1]
  · match l, l', h2 with
    | [], [], h2 => exact h2.tuple
    | [v], [v'], h2 => exact h2.head
    | v :: w :: r, v' :: w' :: r', h2 =>
      rw [dif_neg (by simp)]
      exact h2.tuple
    | [], _ :: _, h2 => have := h2.1; simp at this
    | [_], [], h2 => have := h2.1; simp at this
    | [_], _ :: _ :: _, h2 => have := h2.1; simp at this
    | _ :: _ :: _, [], h2 => have := h2.1; simp at this
    | _ :: _ :: _, [_], h2 => have := h2.1; simp at this

theorem callF_sound {E : Env} (hE : E.Ok P) (hF : FnOk E P) (hX : ∀ {f : FuncId} {fn : Func} {args : List Value} {s : AS} {v : Value} {s' : AS} {ι : Iota} {W : World} {args' : Array Value}, E.fn f = some fn → fn.body = none →
      E.ext f args s = some (v, s') → Rel P (okOf E) E.glob ι s W → LRel ι args args'.toList → OpOk P (okOf E) E.glob ι W (callFunc f args') (v, s'))
    {C : Calls} (hC : CallsOk P (okOf E) E.glob C) {n : Nat} {f : FuncId} {args : List Value} {s : AS} {v : Value} {s' : AS} {ι : Iota} {W : World} {args' : Array Value}
    (h : callF E n C f args s = some (v, s')) (hr : Rel P (okOf E) E.glob ι s W) (ha : LRel ι args args'.toList) : CallOk P (okOf E) E.glob ι W f args' v s' := by
  unfold callF at h
  cases hf : E.fn f with
  | none => simp [hf] at h
  | some fn =>
    simp only [hf] at h
    cases hb : fn.body with
    | none =>
      simp only [hb] at h
      exact .inr (hX hf hb h hr ha)
    | some c =>
      simp only [hb] at h
      obtain ⟨hpf, hent⟩ := hF.fn f fn c hf hb
      refine .inl ⟨hent _ _, ?_⟩
      cases hk : (okCode E fn.ntmps c && Nat.ble args.length fn.ntmps && fn.results.toList.all (okResult fn.ntmps)) with
      | false => rw [hk] at h; cases h
      | true =>
        rw [hk] at h
        simp only [putArgs_eq] at h
        simp only [Bool.and_eq_true] at hk
        obtain ⟨⟨hk1, hk2⟩, hk3⟩ := hk
        have hlen : args.length = args'.size := by simpa using ha.1
        have hle : args'.size ≤ fn.ntmps := hlen ▸ Nat.le_of_ble_eq_true hk2
        have hsz : (args' ++ Array.replicate (fn.ntmps - args'.size) undef).size = fn.ntmps := by simp; omega
        split at h
        · rename_i x t ms s1 hrun
          refine callsIn_of_wp_marks hpf hb trivial ?_
          have hw := code_ok hE hF hC c (r' := none) (a := { tmps := args' ++ Array.replicate (fn.ntmps - args'.size) undef, defers := [] }) hrun (by rw [hsz]; exact hk1) hr (enter_rel ha) (ms := []) trivial trivial
          refine wpIn_mono hw fun e a' W' ⟨he, ι', hp, ht', hsz', hm'⟩ => ?_
          have fin : x = .normal ∨ x = .ret → LeavesInM Fence.wide 0 P fn a'.tmps (Got P (okOf E) E.glob ι W v s') a'.defers .returning W' := by
            intro hx
            have h' : (match shut ms s1 with
                | none => none
                | some s2 => match resultsF E t s2 fn.results.toList with
                  | some l => some (resultOf l, s2)
                  | none => none) = some (v, s') := by
              rcases hx with rfl | rfl <;> exact h
            cases hsh : shut ms s1 with
            | none => simp [hsh] at h'
            | some s2 =>
              simp only [hsh] at h'
              cases hres : resultsF E t s2 fn.results.toList with
              | none => simp [hres] at h'
              | some l =>
                simp only [hres, Option.some.injEq, Prod.mk.injEq] at h'
                obtain ⟨rfl, rfl⟩ := h'
                refine shut_sound ms a'.defers s1 s2 W' hsh hm' hp.rel fun W2 hp2 => ?_
                have hsz2 : a'.tmps.size = fn.ntmps := hsz'.trans hsz
                obtain ⟨v', h1, h2⟩ := results_run hE hp2.rel ht' hres (by rw [hsz2]; exact hk3)
                exact ⟨v', h1, v', ι', rfl, hp.trans hp2, h2⟩
          subst he
          cases x with
          | normal => exact fin (.inl rfl)
          | ret => exact fin (.inr rfl)
          | exit id => simp at h
        · cases h

theorem yieldF_sound {E : Env} (hE : E.Ok P) (hF : FnOk E P) {C : Calls} (hC : CallsOk P (okOf E) E.glob C) {n : Nat} {l : Nat} {args : List Value} {s : AS} {v : Value} {s' : AS} {ι : Iota} {W : World} {x : Loc} {args' : Array Value}
    (h : yieldF E n C l args s = some (v, s')) (hr : Rel P (okOf E) E.glob ι s W) (hl : ι l = .live x) (ha : LRel ι args args'.toList) : YieldOk P (okOf E) E.glob ι W x.block args' v s' := by
  unfold yieldF at h
  split at h
  · rename_i pd t params assign body dd hg
    obtain ⟨o1, o2, o3, rc, hheap, q1, q2, q3, q4, q5, q6, q7, q8, q9, ld, e1, e2, e3⟩ := seekLoop hr hl hg
    rw [putParams_eq] at h
    cases hp : putParamsD params.toList args t with
    | none => simp [hp] at h
    | some t1 =>
      simp only [hp] at h
      obtain ⟨hlen, ht1, hsz1⟩ := params_rel params.toList args args'.toList t t1 rc.tmps hp ha q6
      have hargs : args'.size = rc.params.size := by
        have := ha.1
        simp at this hlen
        rw [q7]; omega
      have hfold : ((rc.params.zip args').foldl (fun tmps (t, a) => tmps.setIfInBounds t a) rc.tmps) = ((params.toList.zip args'.toList).foldl (fun tmps (x : Tmp × Value) => tmps.setIfInBounds x.1 x.2) rc.tmps) := by
        rw [← Array.foldl_toList, Array.toList_zip, q7]
      refine ⟨rc.fn, _, rc.assign, rc.body, run_yield hheap hargs, ?_⟩
      rw [hfold]
      refine roundIn_of_wpIn trivial ?_
      split at h
      · rename_i t2 ms2 s1 hrun1
        rw [q8, q9]
        have hw := code_ok hE hF hC assign (r' := some x.block) (a := { tmps := (params.toList.zip args'.toList).foldl (fun tmps (x : Tmp × Value) => tmps.setIfInBounds x.1 x.2) rc.tmps, defers := [] }) hrun1
          (by show okCode E _ assign = true; rw [hsz1]; exact q1) hr ht1 (ms := []) trivial ⟨x, hl, o2, rfl⟩
        refine wpIn_mono hw fun e a1 W1 ⟨he, ι1, hp1, ht2, hsz2, hm2⟩ => ?_
        subst he
        have hl1 := hp1.le.keep hl o2
        split at h
        · rename_i p1 tt1 ps1 as1 b1 d1 hg1
          obtain ⟨r1, r2, r3, rc1, hheap1, u1, u2, u3, u4, u5, u6, u7, u8, u9, ld1, f1, f2, f3⟩ := seekLoop hp1.rel hl1 hg1
          refine ⟨_, run_beginRound hheap1 u4, ?_⟩
          have hp2 := putObj_post hp1.rel hl1 r1 (.loop .busy p1 tt1 ps1 as1 b1 d1) (.loop { rc1 with state := .busy })
            ⟨r1, r2, r3, _, World.putObj_heap_same (Array.getElem?_eq_some_iff.1 hheap1).1, u1, u2, u3, rfl, u5, u6, u7, u8, u9, ld1, f1, f2, f3⟩
          rw [AS.commit_eq] at h
          split at h
          · rename_i e3 t3 ms3 s3 hrun2
            have hw2 := code_ok hE hF hC body (r' := some x.block) (a := a1) hrun2 (by show okCode E _ body = true; rw [hsz2]; show okCode E _ body = true; rw [hsz1]; exact q2) hp2.rel.flat ht2 hm2 ⟨x, hl1, o2, rfl⟩
            refine wpIn_mono hw2 fun e a2 W3 ⟨he3, ι3, hp3, ht3, hsz3, hm3⟩ => ?_
            subst he3
            have hl3 := hp3.le.keep hl1 o2
            split at h
            · rename_i st3 p3 t3' ps3 as3 b3 d3 hg3
              obtain ⟨w1, w2, w3, rc3, hheap3, y1, y2, y3, y4, y5, y6, y7, y8, y9, ld3, g1, g2, g3⟩ := seekLoop hp3.rel hl3 hg3
              have key : ∀ (j : Option Code) (st : LoopState), st = (if j.isNone then LoopState.ready else .done) → Post P (okOf E) E.glob ι W ι3 (s3.set l (some (.loop st j t3' ps3 as3 b3 d3))) (W3.putObj x.block (.loop { rc3 with state := if j.isNone then .ready else .done, pending := j })) := fun j st hst => by
                have := putObj_post hp3.rel hl3 w1 (.loop st j t3' ps3 as3 b3 d3) (.loop { rc3 with state := if j.isNone then .ready else .done, pending := j })
                  ⟨w1, w2, w3, _, World.putObj_heap_same (Array.getElem?_eq_some_iff.1 hheap3).1, y1, y2, y3, hst.symm, rfl, y6, y7, y8, y9, ld3, g1, g2, g3⟩
                exact ((hp1.trans hp2).trans hp3).trans this
              cases e3 with
              | normal =>
                simp only [Option.some.injEq, Prod.mk.injEq] at h
                obtain ⟨rfl, rfl⟩ := h
                exact ⟨_, _, run_endRound none hheap3, .bool true, ι3, rfl, key none _ rfl, .bool _⟩
              | ret =>
                simp only [Option.some.injEq, Prod.mk.injEq] at h
                obtain ⟨rfl, rfl⟩ := h
                exact ⟨_, _, run_endRound (some .ret) hheap3, .bool false, ι3, rfl, key (some .ret) _ rfl, .bool _⟩
              | exit id =>
                simp only [Option.some.injEq, Prod.mk.injEq] at h
                obtain ⟨rfl, rfl⟩ := h
                exact ⟨_, _, run_endRound (some (.exit id)) hheap3, .bool false, ι3, rfl, key (some (.exit id)) _ rfl, .bool _⟩
            · cases h
          · cases h
        · cases h
      · cases h
  · cases h

/-- What the evaluator needs of the functions without code. -/
def ExtOk (E : Env) (P : Program) : Prop :=
  ∀ {f : FuncId} {fn : Func} {args : List Value} {s : AS} {v : Value} {s' : AS} {ι : Iota} {W : World} {args' : Array Value}, E.fn f = some fn → fn.body = none →
      E.ext f args s = some (v, s') → Rel P (okOf E) E.glob ι s W → LRel ι args args'.toList → OpOk P (okOf E) E.glob ι W (callFunc f args') (v, s')

/-- THE EVALUATOR IS RIGHT: a call that it answers comes back so. -/
theorem calls_ok {E : Env} (hE : E.Ok P) (hF : FnOk E P) (hX : ExtOk E P) : ∀ n, CallsOk P (okOf E) E.glob (calls E n)
  | 0 => ⟨fun h _ _ => (by cases h), fun h _ _ _ => (by cases h)⟩
  | n + 1 => by
    have ih := calls_ok hE hF hX n
    exact ⟨fun h hr ha => callF_sound hE hF hX ih (n := n) h hr ha, fun h hr hl ha => yieldF_sound hE hF ih (n := n) h hr hl ha⟩
end Go.AE
