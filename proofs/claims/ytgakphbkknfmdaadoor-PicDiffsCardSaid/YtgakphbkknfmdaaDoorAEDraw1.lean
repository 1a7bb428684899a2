import Derived.Test.YtgakphbkknfmdaaDoorAESound4
set_option linter.all false
set_option linter.unusedSimpArgs false
set_option linter.unusedVariables false
set_option autoImplicit false
namespace Go.AE
variable {P : Program} {ok : Nat → Code → Bool} {G : Nat}

theorem sameL_eq {f : Value → Value → Bool} (hf : ∀ x y, f x y = true → x = y) : ∀ (l r : List Value), sameL f l r = true → l = r
  | [], [], _ => rfl
  | [], _ :: _, h => by cases h
  | _ :: _, [], h => by cases h
  | x :: l, y :: r, h => by
    simp only [sameL, Bool.and_eq_true] at h
    rw [hf x y h.1, sameL_eq hf l r h.2]
theorem sameA_eq {a b : Addr} (h : sameA a b = true) : a = b := by
  obtain ⟨b1, o1, s1⟩ := a
  obtain ⟨b2, o2, s2⟩ := b
  cases s1 <;> cases s2 <;> simp only [sameA, Bool.and_eq_true, Bool.false_eq_true] at h
  rw [Nat.eq_of_beq_eq_true h.1, Nat.eq_of_beq_eq_true h.2]
theorem sameV_eq : ∀ (d : Nat) (x y : Value), sameV d x y = true → x = y
  | 0, x, y, h => by cases h
  | d + 1, x, y, h => by
    have ih := sameV_eq d
    have ihl := sameL_eq ih
    unfold sameV at h
    split at h
    · split at h <;> first | rfl | cases h
    · simp only [Bool.and_eq_true] at h
      rw [kindNo_inj h.1]
      have := h.2
      rw [eqF_eq, beq_iff_eq] at this
      rw [this]
    · simp only [decide_eq_true_eq] at h
      rw [h]
    · rfl
    · rw [sameA_eq h]
    · simp only [Bool.and_eq_true] at h
      rw [Nat.eq_of_beq_eq_true h.1, Nat.eq_of_beq_eq_true h.2]
    · simp only [Bool.and_eq_true] at h
      rw [sameA_eq h.1, Nat.eq_of_beq_eq_true h.2.1, Nat.eq_of_beq_eq_true h.2.2]
    · rfl
    · rw [Nat.eq_of_beq_eq_true h]
    · simp only [Bool.and_eq_true] at h
      rw [Nat.eq_of_beq_eq_true h.1, ihl _ _ h.2.1, ihl _ _ h.2.2]
    · rfl
    · simp only [Bool.and_eq_true] at h
      rw [Nat.eq_of_beq_eq_true h.1, ih _ _ h.2]
    · rfl
    · rw [ihl _ _ h]
    · rw [ihl _ _ h]
    · cases h
theorem sameObj_eq {a b : Option AObj} (h : sameObj a b = true) : a = b := by
  unfold sameObj at h
  split at h
  · simp only [Bool.and_eq_true] at h
    rw [Nat.eq_of_beq_eq_true h.1, sameL_eq (sameV_eq 6) _ _ h.2.1, Nat.eq_of_beq_eq_true h.2.2.1, Nat.eq_of_beq_eq_true h.2.2.2]
  · cases h

/-- A value that is quiet leaves the state. -/
theorem quiet_state {f : OFn} (hf : isEff f = false) {C : Calls} {t : T} {s s' : AS} {v : Value} (h : f.run C t s = some (v, s')) : s' = s := by
  cases f with
  | eff f => cases hf
  | copy p => simp only [OFn.run, Option.some.injEq, Prod.mk.injEq] at h; exact h.2.symm
  | val f =>
    simp only [OFn.run] at h
    split at h
    · cases h; rfl
    · cases h

/-! Masks. -/
theorem maskOf_bit {acc : List Nat} {p : Nat} : ∀ (es : List Edge), Nat.testBit (maskOf acc es) p = true → ∃ e ∈ es, Region.binds .any e = true ∧ (e.on = p ∨ Nat.testBit (acc.getD e.on 0) p = true)
  | [], h => by simp [maskOf] at h
  | e :: es, h => by
    unfold maskOf at h
    cases hb : Region.binds .any e with
    | true =>
      simp only [hb, Nat.testBit_or, Bool.or_eq_true] at h
      rcases h with (h | h) | h
      · refine ⟨e, by simp, hb, .inl ?_⟩
        rw [Nat.testBit_two_pow] at h
        simpa using h
      · exact ⟨e, by simp, hb, .inr h⟩
      · obtain ⟨e', h1, h2, h3⟩ := maskOf_bit es h
        exact ⟨e', by simp [h1], h2, h3⟩
    | false =>
      simp only [hb] at h
      obtain ⟨e', h1, h2, h3⟩ := maskOf_bit es h
      exact ⟨e', by simp [h1], h2, h3⟩

theorem masksGo_len : ∀ (l : List Oper) (acc : List Nat), (masksGo l acc).length = acc.length + l.length
  | [], acc => by simp [masksGo]
  | o :: l, acc => by
    unfold masksGo
    rw [masksGo_len l]
    simp
    omega
theorem masksGo_old : ∀ (l : List Oper) (acc : List Nat) (i : Nat), i < acc.length → (masksGo l acc).getD i 0 = acc.getD i 0
  | [], acc, i, _ => rfl
  | o :: l, acc, i, h => by
    unfold masksGo
    rw [masksGo_old l _ i (by simp; omega)]
    simp [List.getD_eq_getElem?_getD, List.getElem?_append_left h]
theorem masksGo_get : ∀ (l : List Oper) (acc : List Nat) (i : Nat) (o : Oper), l[i]? = some o →
    ∃ acc', (masksGo l acc).getD (acc.length + i) 0 = maskOf acc' o.after.toList ∧ ∀ p, p < acc.length + i → acc'.getD p 0 = (masksGo l acc).getD p 0
  | [], _, _, _, h => by simp at h
  | o1 :: l, acc, 0, o, h => by
    simp only [List.getElem?_cons_zero, Option.some.injEq] at h
    subst h
    refine ⟨acc, ?_, fun p hp => ?_⟩
    · unfold masksGo
      rw [Nat.add_zero, masksGo_old l _ _ (by simp)]
      simp [List.getD_eq_getElem?_getD]
    · exact (masksGo_old (o1 :: l) acc p (by omega)).symm
  | o1 :: l, acc, i + 1, o, h => by
    simp only [List.getElem?_cons_succ] at h
    obtain ⟨acc', h1, h2⟩ := masksGo_get l (acc ++ [maskOf acc o1.after.toList]) i o h
    have e : (acc ++ [maskOf acc o1.after.toList]).length + i = acc.length + (i + 1) := by simp; omega
    rw [e] at h1 h2
    exact ⟨acc', h1, h2⟩
theorem edgesBack_all {i : Nat} : ∀ (es : List Edge), edgesBack i es = true → ∀ e ∈ es, Region.binds .any e = true → e.on < i
  | [], _, e, he, _ => by cases he
  | x :: es, h, e, he, hb => by
    unfold edgesBack at h
    simp only [Bool.and_eq_true] at h
    rcases List.mem_cons.1 he with rfl | he
    · have := h.1
      rw [hb] at this
      simpa [Nat.blt_eq] using this
    · exact edgesBack_all es h.2 e he hb
theorem backAll_get : ∀ (l : List Oper) (k i : Nat) (o : Oper), backAll k l = true → l[i]? = some o → edgesBack (k + i) o.after.toList = true
  | [], _, _, _, _, h => by simp at h
  | x :: l, k, 0, o, hb, h => by
    simp only [List.getElem?_cons_zero, Option.some.injEq] at h
    subst h
    unfold backAll at hb
    simp only [Bool.and_eq_true] at hb
    exact hb.1
  | x :: l, k, i + 1, o, hb, h => by
    simp only [List.getElem?_cons_succ] at h
    unfold backAll at hb
    simp only [Bool.and_eq_true] at hb
    have := backAll_get l (k + 1) i o hb.2 h
    rwa [show k + 1 + i = k + (i + 1) by omega] at this

/-- What is before an operation whose own predecessors are all listed, is listed. -/
theorem mask_listed {ops : Array Oper} (hb : backAll 0 ops.toList = true) {L : Nat → Prop} (hc : ∀ p, L p → ∀ o, ops[p]? = some o → ∀ e ∈ o.after, Region.binds .any e = true → L e.on) :
    ∀ (n i : Nat) (o : Oper), i < n → ops[i]? = some o → (∀ e ∈ o.after, Region.binds .any e = true → L e.on) → ∀ p, Nat.testBit ((masks ops.toList).getD i 0) p = true → L p
  | 0, i, o, h, _, _, _, _ => by omega
  | n + 1, i, o, hin, ho, hp, p, hm => by
    have ho' : ops.toList[i]? = some o := by simpa using ho
    obtain ⟨acc', h1, h2⟩ := masksGo_get ops.toList [] i o ho'
    simp only [List.length_nil, Nat.zero_add] at h1 h2
    unfold masks at hm
    rw [h1] at hm
    obtain ⟨e, he, hbe, hor⟩ := maskOf_bit _ hm
    have hback := backAll_get ops.toList 0 i o hb ho'
    rw [Nat.zero_add] at hback
    have hlt := edgesBack_all _ hback e he hbe
    have hL := hp e (by simpa using he) hbe
    rcases hor with rfl | hbit
    · exact hL
    · rw [h2 e.on hlt] at hbit
      have hlt' : e.on < ops.size := by
        have := (Array.getElem?_eq_some_iff.1 ho).1
        omega
      exact mask_listed hb hc n e.on ops[e.on] (by omega) (Array.getElem?_eq_getElem hlt') (hc e.on hL _ (Array.getElem?_eq_getElem hlt')) p hbit

theorem putF_eq {R : Type} (d : Option Tmp) (v : Value) (t : T) (k : T → R) : putF d v t k = k (putD d v t) := by
  cases d with
  | none => rfl
  | some d => simp only [putF, Tr.setK_eq, putD]

/-- The run in the canonical order: the records, the states before each chain operation and the last. -/
def Trace (E : Env) (ops : List Oper) (C : Calls) : List Item → T → AS → List DRec → List AS → T → AS → Prop
  | [], t, s, rs, ss, t1, s1 => rs = [] ∧ ss = [s] ∧ t1 = t ∧ s1 = s
  | x :: l, t, s, rs, ss, t1, s1 => ∃ v s' rs', stepV E ops x.o C t s = some (v, s') ∧ rs = ⟨t, v, s.next⟩ :: rs' ∧
      match isEff (opFn E x.o) with
      | true => s'.pick = none ∧ (match isFloat x.o.op with
        | true => Trace E ops C l (putD x.o.dst v t) s'.flat rs' ss t1 s1
        | false => ∃ ss', ss = s :: ss' ∧ Trace E ops C l (putD x.o.dst v t) s'.flat rs' ss' t1 s1)
      | false => Trace E ops C l (putD x.o.dst v t) s rs' ss t1 s1

theorem drawText_trace {E : Env} {ops : List Oper} {C : Calls} : ∀ (l : List Item) (t : T) (s : AS) (rs : List DRec) (ss : List AS) (t1 : T) (rs1 : List DRec) (ss1 : List AS) (s1 : AS),
    drawText E ops C l t s rs ss = some (t1, rs1, ss1, s1) → ∃ rs' ss', rs1 = rs.reverse ++ rs' ∧ ss1 = ss.reverse ++ ss' ∧ Trace E ops C l t s rs' ss' t1 s1
  | [], t, s, rs, ss, t1, rs1, ss1, s1, h => by
    unfold drawText at h
    simp only [Option.some.injEq, Prod.mk.injEq] at h
    obtain ⟨rfl, rfl, rfl, rfl⟩ := h
    exact ⟨[], [s], by simp, by simp, rfl, rfl, rfl, rfl⟩
  | x :: l, t, s, rs, ss, t1, rs1, ss1, s1, h => by
    unfold drawText at h
    cases hv : stepV E ops x.o C t s with
    | none => rw [hv] at h; cases h
    | some vs =>
      obtain ⟨v, s'⟩ := vs
      rw [hv] at h
      simp only [forceT_eq, AS.commit_eq, putF_eq] at h
      cases he : isEff (opFn E x.o) with
      | false =>
        rw [he] at h
        obtain ⟨rs', ss', h1, h2, h3⟩ := drawText_trace l _ _ _ _ _ _ _ _ h
        refine ⟨⟨t, v, s.next⟩ :: rs', ss', by simp [h1], h2, v, s', rs', hv, rfl, ?_⟩
        rw [he]
        exact h3
      | true =>
        rw [he] at h
        cases hp : s'.pick with
        | some k =>
          have : s'.flat.pick = some k := hp
          simp only [this] at h
          cases h
        | none =>
          have hp' : s'.flat.pick = none := hp
          simp only [hp'] at h
          cases hf : isFloat x.o.op with
          | true =>
            rw [hf] at h
            obtain ⟨rs', ss', h1, h2, h3⟩ := drawText_trace l _ _ _ _ _ _ _ _ h
            refine ⟨⟨t, v, s.next⟩ :: rs', ss', by simp [h1], h2, v, s', rs', hv, rfl, ?_⟩
            rw [he]
            refine ⟨hp, ?_⟩
            rw [hf]
            exact h3
          | false =>
            rw [hf] at h
            obtain ⟨rs', ss', h1, h2, h3⟩ := drawText_trace l _ _ _ _ _ _ _ _ h
            refine ⟨⟨t, v, s.next⟩ :: rs', s :: ss', by simp [h1], by simp [h2], v, s', rs', hv, rfl, ?_⟩
            rw [he]
            refine ⟨hp, ?_⟩
            rw [hf]
            exact ⟨ss', rfl, h3⟩
end Go.AE
