import Derived.Test.YtgakphbkknfmdaaDoorAEDraw2
set_option linter.all false
set_option linter.unusedSimpArgs false
set_option linter.unusedVariables false
set_option autoImplicit false
namespace Go.AE

theorem takeOne_mem {E : Env} {c : Bool} {done : List Nat} : ∀ {l : List Item} {x : Item} {r : List Item}, takeOne E c done l = some (x, r) → x ∈ l ∧ ∀ y ∈ r, y ∈ l
  | [], _, _, h => by cases h
  | z :: l, x, r, h => by
    unfold takeOne at h
    split at h
    · cases h
      exact ⟨by simp, fun y hy => by simp [hy]⟩
    · cases ht : takeOne E c done l with
      | none => rw [ht] at h; cases h
      | some yr =>
        obtain ⟨y, r'⟩ := yr
        rw [ht] at h
        cases h
        obtain ⟨h1, h2⟩ := takeOne_mem ht
        refine ⟨by simp [h1], fun w hw => ?_⟩
        rcases List.mem_cons.1 hw with rfl | hw
        · simp
        · simp [h2 w hw]
theorem asap_mem {E : Env} : ∀ {n : Nat} {done : List Nat} {l : List Item} {x : Item}, x ∈ asap E n done l → x ∈ l
  | 0, _, _, _, h => by cases h
  | n + 1, done, l, x, h => by
    unfold asap at h
    cases h1 : takeOne E false done l with
    | some yr =>
      obtain ⟨y, r⟩ := yr
      rw [h1] at h
      obtain ⟨m1, m2⟩ := takeOne_mem h1
      rcases List.mem_cons.1 h with rfl | h
      · exact m1
      · exact m2 _ (asap_mem h)
    | none =>
      rw [h1] at h
      cases h2 : takeOne E true done l with
      | some yr =>
        obtain ⟨y, r⟩ := yr
        rw [h2] at h
        obtain ⟨m1, m2⟩ := takeOne_mem h2
        rcases List.mem_cons.1 h with rfl | h
        · exact m1
        · exact m2 _ (asap_mem h)
      | none => rw [h2] at h; cases h
theorem itemsGo_mem : ∀ {l : List (Oper × Nat)} {k : Nat} {x : Item}, x ∈ itemsGo k l → ∃ j, x.i = k + j ∧ l[j]? = some (x.o, x.m)
  | [], _, _, h => by cases h
  | (o, m) :: l, k, x, h => by
    unfold itemsGo at h
    rcases List.mem_cons.1 h with rfl | h
    · exact ⟨0, rfl, rfl⟩
    · obtain ⟨j, h1, h2⟩ := itemsGo_mem h
      exact ⟨j + 1, by omega, by simpa using h2⟩
theorem canon_mem {E : Env} {ops : List Oper} {x : Item} (h : x ∈ canon E ops) : ops[x.i]? = some x.o ∧ x.m = (masks ops).getD x.i 0 := by
  obtain ⟨j, h1, h2⟩ := itemsGo_mem (asap_mem h)
  rw [Nat.zero_add] at h1
  subst h1
  rw [List.getElem?_zip_eq_some] at h2
  exact ⟨h2.1, by simp [List.getD_eq_getElem?_getD, h2.2]⟩

/-- What is asked of two items, one before the other. -/
structure PairOk (E : Env) (ops : List Oper) (x y : Item) : Prop where
  ne : x.i ≠ y.i
  dst : ∀ d, x.o.dst = some d → y.o.dst ≠ some d
  back : Nat.testBit x.m y.i = false
  rel : related E ops x.o y.o = true → Nat.testBit y.m x.i = true
  late : isChain E x.o = true → isChain E y.o = false → Nat.testBit y.m x.i = true

theorem sameDst_false {a b : Option Tmp} (h : sameDst a b = false) : ∀ d, a = some d → b ≠ some d := fun d ha hb => by
  subst ha
  subst hb
  simp [sameDst] at h
theorem pairsOk_all {E : Env} {ops : List Oper} {x : Item} : ∀ {l : List Item}, pairsOk E ops x l = true → ∀ y ∈ l, PairOk E ops x y
  | [], _, y, hy => by cases hy
  | z :: l, h, y, hy => by
    unfold pairsOk at h
    simp only [Bool.and_eq_true, Bool.not_eq_true', Bool.or_eq_true] at h
    obtain ⟨⟨h1, h2, h3, h4⟩, h5⟩ := h
    rcases List.mem_cons.1 hy with rfl | hy
    · refine ⟨fun e => (by rw [e, Nat.beq_refl] at h1; cases h1), sameDst_false h2, h3, fun hr => ?_, fun hc hn => ?_⟩
      · rcases h4 with h4 | h4
        · rw [hr] at h4; simp at h4
        · exact h4
      · rcases h4 with h4 | h4
        · rw [hc, hn] at h4; simp at h4
        · exact h4
    · exact pairsOk_all h5 y hy
theorem allPairs_pw {E : Env} {ops : List Oper} : ∀ {l : List Item}, allPairs E ops l = true → l.Pairwise (PairOk E ops)
  | [], _ => .nil
  | x :: l, h => by
    unfold allPairs at h
    simp only [Bool.and_eq_true] at h
    exact .cons (pairsOk_all h.1) (allPairs_pw h.2)
end Go.AE
