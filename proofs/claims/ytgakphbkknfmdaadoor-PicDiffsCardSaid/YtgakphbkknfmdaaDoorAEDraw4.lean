import Derived.Test.YtgakphbkknfmdaaDoorAEDraw3
set_option linter.all false
set_option linter.unusedSimpArgs false
set_option linter.unusedVariables false
set_option autoImplicit false
namespace Go.AE
variable {P : Program} {ok : Nat → Code → Bool} {G : Nat}

/-- One operation of the canonical run: its item, its record, the state before it, how many chain operations stand before it. -/
structure Row where
  x : Item
  r : DRec
  s : AS
  own : Nat

/-- The rows of a run, from a number of chain operations on. -/
inductive Rows (E : Env) (ops : List Oper) (C : Calls) : Nat → List Item → T → AS → List Row → List AS → T → AS → Prop
  | nil (j : Nat) (t : T) (s : AS) : Rows E ops C j [] t s [] [s] t s
  | quiet {j : Nat} {x : Item} {l : List Item} {t : T} {s : AS} {v : Value} {rs : List Row} {ss : List AS} {t1 : T} {s1 : AS} (he : isEff (opFn E x.o) = false) (hv : stepV E ops x.o C t s = some (v, s))
      (h : Rows E ops C j l (putD x.o.dst v t) s rs ss t1 s1) : Rows E ops C j (x :: l) t s (⟨x, ⟨t, v, s.next⟩, s, j⟩ :: rs) ss t1 s1
  | float {j : Nat} {x : Item} {l : List Item} {t : T} {s s' : AS} {v : Value} {rs : List Row} {ss : List AS} {t1 : T} {s1 : AS} (he : isEff (opFn E x.o) = true) (hf : isFloat x.o.op = true) (hv : stepV E ops x.o C t s = some (v, s'))
      (hp : s'.pick = none) (h : Rows E ops C j l (putD x.o.dst v t) s'.flat rs ss t1 s1) : Rows E ops C j (x :: l) t s (⟨x, ⟨t, v, s.next⟩, s, j⟩ :: rs) ss t1 s1
  | chain {j : Nat} {x : Item} {l : List Item} {t : T} {s s' : AS} {v : Value} {rs : List Row} {ss : List AS} {t1 : T} {s1 : AS} (he : isEff (opFn E x.o) = true) (hf : isFloat x.o.op = false) (hv : stepV E ops x.o C t s = some (v, s'))
      (hp : s'.pick = none) (h : Rows E ops C (j + 1) l (putD x.o.dst v t) s'.flat rs ss t1 s1) : Rows E ops C j (x :: l) t s (⟨x, ⟨t, v, s.next⟩, s, j⟩ :: rs) (s :: ss) t1 s1

theorem stepV_quiet {E : Env} {ops : List Oper} {o : Oper} (he : isEff (opFn E o) = false) {C : Calls} {t : T} {s s' : AS} {v : Value} (h : stepV E ops o C t s = some (v, s')) : s' = s := by
  unfold stepV at h
  split at h
  · exact quiet_state he h
  · split at h
    · exact quiet_state he h
    · cases h; rfl

theorem trace_rows {E : Env} {ops : List Oper} {C : Calls} : ∀ {l : List Item} {j : Nat} {t : T} {s : AS} {rs : List DRec} {ss : List AS} {t1 : T} {s1 : AS}, Trace E ops C l t s rs ss t1 s1 →
    ∃ rows, Rows E ops C j l t s rows ss t1 s1 ∧ rows.map (·.r) = rs ∧ rows.map (·.x) = l
  | [], j, t, s, rs, ss, t1, s1, h => by
    obtain ⟨rfl, rfl, rfl, rfl⟩ := h
    exact ⟨[], .nil j _ _, rfl, rfl⟩
  | x :: l, j, t, s, rs, ss, t1, s1, h => by
    obtain ⟨v, s', rs', hv, rfl, h⟩ := h
    cases he : isEff (opFn E x.o) with
    | false =>
      rw [he] at h
      have := stepV_quiet he hv
      subst this
      obtain ⟨rows, h1, h2, h3⟩ := trace_rows (j := j) h
      exact ⟨_, .quiet he hv h1, by simp [h2], by simp [h3]⟩
    | true =>
      rw [he] at h
      obtain ⟨hp, h⟩ := h
      cases hf : isFloat x.o.op with
      | true =>
        rw [hf] at h
        obtain ⟨rows, h1, h2, h3⟩ := trace_rows (j := j) h
        exact ⟨_, .float he hf hv hp h1, by simp [h2], by simp [h3]⟩
      | false =>
        rw [hf] at h
        obtain ⟨ss', rfl, h⟩ := h
        obtain ⟨rows, h1, h2, h3⟩ := trace_rows (j := j + 1) h
        exact ⟨_, .chain he hf hv hp h1, by simp [h2], by simp [h3]⟩
end Go.AE
