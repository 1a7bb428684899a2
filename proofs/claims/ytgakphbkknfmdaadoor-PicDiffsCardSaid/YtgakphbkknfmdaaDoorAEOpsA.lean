import Derived.Test.YtgakphbkknfmdaaDoorAEOps9
set_option linter.all false
set_option linter.unusedSimpArgs false
set_option linter.unusedVariables false
set_option autoImplicit false
namespace Go.AE
variable {P : Program} {ok : Nat → Code → Bool} {G : Nat}

/-- An operation that comes to a value, or to none. -/
def Runs (P : Program) (x : Sem Next) (W : World) (v : Value) (W' : World) : Prop := x.run P W = .ok (.value v) W' ∨ (x.run P W = .ok .skip W' ∧ v = undef)

theorem rv {S : Sem Value} {W W' : World} {v : Value} (h : S.run P W = .ok v W') : Runs P (do pure (Next.value (← S))) W v W' := .inl (by simp [h, Result.andThen])
theorem ru {S : Sem Unit} {W W' : World} (h : S.run P W = .ok () W') : Runs P (do S; pure Next.skip) W undef W' := .inr ⟨by simp [h, Result.andThen], rfl⟩

def OpOk (P : Program) (ok : Nat → Code → Bool) (G : Nat) (ι : Iota) (W : World) (x : Sem Next) (r : Value × AS) : Prop :=
  ∃ ι' v' W', Runs P x W v' W' ∧ Post P ok G ι W ι' r.2 W' ∧ VRel ι' r.1 v'

theorem plain_sound {E : Env} (hE : E.Ok P) {ι : Iota} {s : AS} {W : World} (h : Rel P ok G ι s W) {ρ : Operand → Value} {A : Operand → Value} {o : Oper} {r : Value × AS} (hs : ∀ cs b, o.op ≠ .select cs b)
    (hv : (if operandsFlat ρ o.op then (match pureVal E.P (execOp ρ o) with
      | some (.value v) => if flatV v then some (v, s) else none
      | _ => none) else none) = some r) (hρ : ∀ x ∈ o.op.operands, VRel ι (ρ x) (A x)) : OpOk P ok G ι W (execOp A o) r := by
  split at hv
  case isFalse => cases hv
  rename_i hf
  split at hv
  case h_2 => cases hv
  rename_i v hp
  split at hv
  case isFalse => cases hv
  rename_i hfv
  cases hv
  have he : execOp A o = execOp ρ o := execOp_congr o hs fun x hx => by
    refine (hρ x hx).flat ?_
    unfold operandsFlat at hf
    rw [List.all_eq_true] at hf
    exact hf x (by simpa using hx)
  rw [hE.prog] at hp
  have hr := pureVal_run _ _ hp W
  exact ⟨ι, v, W, .inl (he ▸ hr), .refl h, .ofFlat ι v hfv⟩

theorem parts_rel {ι : Iota} {ρ : Operand → Value} {A : Operand → Value} : ∀ (parts : List (Nat × Operand)), (∀ p ∈ parts, VRel ι (ρ p.2) (A p.2)) → PartsRel ι (parts.map fun p => (p.1, ρ p.2)) (parts.map fun p => (p.1, A p.2))
  | parts, h => ⟨by simp, fun i x hx => by
    rw [List.getElem?_map] at hx
    cases hp : parts[i]? with
    | none => simp [hp] at hx
    | some p =>
      rw [hp] at hx
      simp only [Option.map_some, Option.some.injEq] at hx
      subst hx
      exact ⟨(p.1, A p.2), by simp [hp], rfl, h p (List.mem_of_getElem? hp)⟩⟩

theorem list_rel {ι : Iota} {ρ : Operand → Value} {A : Operand → Value} : ∀ (l : List Operand), (∀ x ∈ l, VRel ι (ρ x) (A x)) → LRel ι (l.map ρ) (l.map A)
  | [], _ => .nil ι
  | x :: l, h => .cons (h x (by simp)) (list_rel l fun y hy => h y (by simp [hy]))

theorem arr_map {ι : Iota} {ρ : Operand → Value} {A : Operand → Value} (a : Array Operand) (h : ∀ x ∈ a, VRel ι (ρ x) (A x)) : LRel ι (a.toList.map ρ) (a.map A).toList := by
  rw [Array.toList_map]
  exact list_rel _ fun x hx => h x (by simpa using hx)

theorem func_rel {ι : Iota} {f f' : Fn} {a b : List Value} {a' b' : Array Value} (hf : FnRel ι f f') (ha : LRel ι a a'.toList) (hb : LRel ι b b'.toList) : VRel ι (.func f ⟨a⟩ ⟨b⟩) (.func f' a' b') :=
  .func hf (by have := ha.1; simpa using this) (fun i hi => by rw [getD_list, getD_toList]; exact ha.2 i (by simpa using hi)) (by have := hb.1; simpa using this) (fun i hi => by rw [getD_list, getD_toList]; exact hb.2 i (by simpa using hi))

theorem opt_rel {ι : Iota} {ρ : Operand → Value} {A : Operand → Value} (o : Option Operand) (h : ∀ x, o = some x → VRel ι (ρ x) (A x)) : OptRel ι (o.map ρ) (o.map A) := by
  cases o with
  | none => trivial
  | some x => exact h x rfl

theorem LRel.one {ι : Iota} {x : Value} {l : List Value} (h : LRel ι [x] l) : ∃ x', l = [x'] ∧ VRel ι x x' := by
  match l, h with
  | [x'], h => exact ⟨x', rfl, h.head⟩
  | [], h => have := h.1; simp at this
  | _ :: _ :: _, h => have := h.1; simp at this
theorem LRel.two {ι : Iota} {x y : Value} {l : List Value} (h : LRel ι [x, y] l) : ∃ x' y', l = [x', y'] ∧ VRel ι x x' ∧ VRel ι y y' := by
  match l, h with
  | x' :: r, h =>
    obtain ⟨y', rfl, hy⟩ := h.tail.one
    exact ⟨x', y', rfl, h.head, hy⟩
  | [], h => have := h.1; simp at this

theorem head_get {ats : Array TypeId} {t : TypeId} {r : List TypeId} (h : ats.toList = t :: r) : ats[0]? = some t := by
  have : ats.toList[0]? = some t := by rw [h]; rfl
  simpa using this

/-- The builtins that ask the memory. -/
theorem abuiltin_sound {E : Env} (hE : E.Ok P) {ι : Iota} {s : AS} {W : World} (h : Rel P ok G ι s W) {b : Builtin} {ats : Array TypeId} {args : List Value} {args' : Array Value} {r : Value × AS} (hv : abuiltin E s b ats.toList args = some r) (ha : LRel ι args args'.toList)
    (ty : TypeId) (cs : Array Bool) : OpOk P ok G ι W (builtin b ats ty cs args') r := by
  unfold abuiltin at hv
  split at hv
  · rename_i t u x y hts
    obtain ⟨x', y', e, hx, hy⟩ := ha.two
    have e' : args' = #[x', y'] := by apply Array.ext'; rw [e]
    have et : ats = #[t, u] := by apply Array.ext'; rw [hts]
    subst e' et
    obtain ⟨v, s1⟩ := r
    obtain ⟨ι', v', W', h1, h2, h3⟩ := append_sound (ok := ok) hE h hv hx hy ty
    exact ⟨ι', v', W', rv h1, h2, h3⟩
  · rename_i t _ x y hts
    obtain ⟨x', y', e, hx, hy⟩ := ha.two
    have e' : args' = #[x', y'] := by apply Array.ext'; rw [e]
    subst e'
    obtain ⟨v, s1⟩ := r
    obtain ⟨ι', v', W', h1, h2, h3⟩ := copy_sound (ok := ok) hE h (head_get hts) hv hx hy ty
    exact ⟨ι', v', W', rv h1, h2, h3⟩
  · rename_i t u x n hts
    obtain ⟨x', y', e, hx, hy⟩ := ha.two
    have e' : args' = #[x', y'] := by apply Array.ext'; rw [e]
    have et : ats = #[t, u] := by apply Array.ext'; rw [hts]
    subst e' et
    obtain ⟨v, s1⟩ := r
    obtain ⟨ι', v', W', h1, h2, h3⟩ := unsafeString_sound (ok := ok) hE h hv hx hy ty
    exact ⟨ι', v', W', rv h1, h2, h3⟩
  · rename_i t _ x hts
    obtain ⟨x', e, hx⟩ := ha.one
    have e' : args' = #[x'] := by apply Array.ext'; rw [e]
    subst e'
    cases hc : aclear E s t x with
    | none => simp [hc] at hv
    | some s1 =>
      simp only [hc, Option.map_some, Option.some.injEq] at hv
      subst hv
      obtain ⟨ι', W', h1, h2⟩ := clear_sound (ok := ok) hE h (head_get hts) hc hx ty
      exact ⟨ι', _, W', rv h1, h2, .ofFlat ι' _ rfl⟩
  · obtain ⟨x', e, hx⟩ := ha.one
    have e' : args' = #[x'] := by apply Array.ext'; rw [e]
    subst e'
    cases hv
    cases hx
    exact ⟨ι, .pointer none, W, rv rfl, .refl h, .ptrNil⟩
  · rename_i a n c
    obtain ⟨x', e, hx⟩ := ha.one
    have e' : args' = #[x'] := by apply Array.ext'; rw [e]
    subst e'
    cases hv
    cases hx with
    | slice p =>
    rename_i a' c'
    have := p.2.1
    refine ⟨ι, .pointer (some a'), W, rv (Lib.run_unsafeSliceData_row W ats ty a' _ c' (by omega)), .refl h, .ptr ⟨p.1, ?_⟩⟩
    rcases p.2.2 with hd | ⟨l, hl, _, _, h4⟩
    · exact .inl hd
    · exact .inr ⟨l, hl, h4.resolve_right (by omega)⟩
  · rename_i t _ a n c hts
    obtain ⟨x', e, hx⟩ := ha.one
    have e' : args' = #[x'] := by apply Array.ext'; rw [e]
    subst e'
    split at hv
    case h_2 => cases hv
    rename_i el hu
    cases hv
    have hlen : ∀ x' : Value, VRel ι (.slice a n c) x' → (Builtin.len_ ats ty #[x']).run P W = .ok (.int .i64 n) W := fun x' hx' => by
      cases hx' <;> simp [Builtin.len_, head_get hts, rund (hE.und hu), Result.andThen, goInt]
    exact ⟨ι, .int .i64 n, W, rv (hlen x' hx), .refl h, .int _ _⟩
  · rename_i t _ hts
    obtain ⟨x', e, hx⟩ := ha.one
    have e' : args' = #[x'] := by apply Array.ext'; rw [e]
    subst e'
    split at hv
    case h_2 => cases hv
    rename_i el hu
    cases hv
    cases hx
    exact ⟨ι, .int .i64 0, W, rv (by simp [Builtin.cap_, head_get hts, rund (hE.und hu), Result.andThen, goInt]), .refl h, .int _ _⟩
  · rename_i t _ a n c hts
    obtain ⟨x', e, hx⟩ := ha.one
    have e' : args' = #[x'] := by apply Array.ext'; rw [e]
    subst e'
    split at hv
    case h_2 => cases hv
    rename_i el o hu ho
    cases hv
    cases hx with
    | slice p =>
    rename_i a' c'
    have hc' : c' = c := by
      rcases p.2.2 with hd | ⟨l, hl, _, h3, h4⟩
      · rw [h.dead _ hd] at ho; cases ho
      · have := h3 (by omega); omega
    subst hc'
    exact ⟨ι, .int .i64 c', W, rv (by simp [Builtin.cap_, head_get hts, rund (hE.und hu), Result.andThen, goInt]), .refl h, .int _ _⟩
  · cases hv

theorem ite_some {c : Prop} [Decidable c] {α : Type} {x : Option α} {r : α} (h : (if c then x else none) = some r) : c ∧ x = some r := by
  split at h
  · exact ⟨‹_›, h⟩
  · cases h

set_option maxHeartbeats 1000000 in
theorem aop_sound {E : Env} (hE : E.Ok P) {ι : Iota} {s : AS} {W : World} (h : Rel P ok G ι s W) {ρ : Operand → Value} {A : Operand → Value} {o : Oper} {r : Value × AS} (hv : aop E ρ o s = some r)
    (hρ : ∀ x ∈ o.op.operands, VRel ι (ρ x) (A x)) : OpOk P ok G ι W (execOp A o) r := by
  have hpl := fun hs hv => plain_sound (ok := ok) hE h (ρ := ρ) (A := A) (o := o) (r := r) hs hv hρ
  obtain ⟨dst, op, type, pos, after, guard⟩ := o
  cases op <;> simp only [aop] at hv <;> simp only [Op.operands] at hρ
  case move x => cases hv; exact ⟨ι, A x, W, .inl rfl, .refl h, hρ x (by simp)⟩
  case assign x => cases hv; exact ⟨ι, A x, W, .inl rfl, .refl h, hρ x (by simp)⟩
  case pick c a b =>
    have hc := hρ c (by simp)
    have ha := hρ a (by simp)
    have hb := hρ b (by simp)
    split at hv
    · rename_i hct
      cases hv
      rw [hct] at hc
      have hc' : A c = .bool true := by cases hc' : A c <;> rw [hc'] at hc <;> cases hc; rfl
      exact ⟨ι, A a, W, .inl (by simp [execOp, hc', asBool, Result.andThen]), .refl h, ha⟩
    · rename_i hct
      cases hv
      rw [hct] at hc
      have hc' : A c = .bool false := by cases hc' : A c <;> rw [hc'] at hc <;> cases hc; rfl
      exact ⟨ι, A b, W, .inl (by simp [execOp, hc', asBool, Result.andThen]), .refl h, hb⟩
    · cases hv
  case alloc e =>
    cases hz : E.zero e with
    | none => simp [hz] at hv
    | some z =>
      simp only [hz, Option.bind_eq_bind, Option.bind_some] at hv
      obtain ⟨v, s1⟩ := r
      obtain ⟨ι', v', W', h1, h2, h3⟩ := alloc_sound (ok := ok) hE h hz hv (.tuple #[])
      exact ⟨ι', v', W', rv h1, h2, h3⟩
  case box e x =>
    obtain ⟨v, s1⟩ := r
    obtain ⟨ι', v', W', h1, h2, h3⟩ := box_sound (ok := ok) hE h (hρ x (by simp)) hv
    exact ⟨ι', v', W', rv h1, h2, h3⟩
  case build ty parts =>
    cases hb : abuild E ty (parts.toList.map fun p => (p.1, ρ p.2)) with
    | none => simp [hb] at hv
    | some v =>
      simp only [hb, Option.map_some, Option.some.injEq] at hv
      subst hv
      have hp := parts_rel (ι := ι) (ρ := ρ) (A := A) parts.toList (fun p hp => hρ p.2 (by simp; exact ⟨p.1, by simpa using hp⟩))
      obtain ⟨v', h1, h2⟩ := build_sound (P := P) hE hb (parts' := parts.map fun (i, x) => (i, A x)) (by simpa using hp) W
      exact ⟨ι, v', W, rv h1, .refl h, h2⟩
  case buildSlice ty len parts =>
    obtain ⟨v, s1⟩ := r
    have hp := parts_rel (ι := ι) (ρ := ρ) (A := A) parts.toList (fun p hp => hρ p.2 (by simp; exact ⟨p.1, by simpa using hp⟩))
    obtain ⟨ι', v', W', h1, h2, h3⟩ := buildSlice_sound (ok := ok) hE h hv (parts' := parts.map fun (i, x) => (i, A x)) (by simpa using hp)
    exact ⟨ι', v', W', rv h1, h2, h3⟩
  case load ty a =>
    split at hv
    · rename_i ad had
      have hp := hρ a (by simp)
      rw [had] at hp
      cases hA : A a <;> rw [hA] at hp <;> cases hp
      rename_i a' p
      cases hl : aload E s ty ad with
      | none => simp [hl] at hv
      | some v =>
        simp only [hl, Option.map_some, Option.some.injEq] at hv
        subst hv
        obtain ⟨v', h1, h2⟩ := load_sound hE h hl p
        exact ⟨ι, v', W, rv (by simp [hA, Instr.loadAt, Instr.sureAddr, Result.andThen, h1]), .refl h, h2⟩
    · cases hv
  case store ty a x =>
    split at hv
    · rename_i ad had
      have hp := hρ a (by simp)
      rw [had] at hp
      cases hA : A a <;> rw [hA] at hp <;> cases hp
      rename_i a' p
      cases hl : astore E s ty ad (ρ x) with
      | none => simp [hl] at hv
      | some s1 =>
        simp only [hl, Option.map_some, Option.some.injEq] at hv
        subst hv
        obtain ⟨W', h1, h2⟩ := store_sound hE h hl p (hρ x (by simp))
        exact ⟨ι, _, W', ru (by simp [hA, Instr.storeAt, Instr.sureAddr, Result.andThen, h1]), h2, .ofFlat ι _ rfl⟩
    · cases hv
  case ready g => exact hpl (by simp) hv
  case waits g => exact hpl (by simp) hv
  case nilCheck x =>
    have hx := hρ x (by simp)
    split at hv
    all_goals first | (cases hv; done) | skip
    all_goals
      rename_i he
      rw [he] at hx
      cases hv
      cases hA : A x <;> rw [hA] at hx <;> cases hx
    · exact ⟨ι, _, W, .inl (by simp only [execOp, hA]; rfl), .refl h, .ptr ‹_›⟩
    · rename_i hf ha ha' hb hb'
      cases hf
      exact ⟨ι, _, W, .inl (by simp only [execOp, hA]; rfl), .refl h, .func (.same _) ha ha' hb hb'⟩
    · rename_i hf ha ha' hb hb'
      cases hf with
      | yield q1 q2 q3 => exact ⟨ι, _, W, .inl (by simp only [execOp, hA]; rfl), .refl h, .func (.yield q1 q2 q3) ha ha' hb hb'⟩
    · exact ⟨ι, _, W, .inl (by simp only [execOp, hA]; rfl), .refl h, .sliceNil _ _⟩
    · exact ⟨ι, _, W, .inl (by simp only [execOp, hA]; rfl), .refl h, .slice ‹_›⟩
    · exact ⟨ι, _, W, .inl (by simp only [execOp, hA]; rfl), .refl h, .iface _ ‹_›⟩
  case binOp b xt x y yt =>
    have hx := hρ x (by simp)
    have hy := hρ y (by simp)
    split at hv
    · split at hv
      · rename_i b he
        cases hv
        obtain ⟨h1, h2, h3, h4⟩ := equal_sound hE h he hx hy
        refine ⟨ι, .bool b, W, rv ?_, .refl h, .bool b⟩
        have hb : (binOp .eql xt (A x) (A y)).run P W = .ok (.bool b) W := by rw [h3]; simp [h1, Result.andThen]
        simp [h2, Result.andThen, hb]
      · exact hpl (by simp) hv
    · split at hv
      · rename_i b he
        cases hv
        obtain ⟨h1, h2, h3, h4⟩ := equal_sound hE h he hx hy
        refine ⟨ι, .bool !b, W, rv ?_, .refl h, .bool _⟩
        have hb : (binOp .neq xt (A x) (A y)).run P W = .ok (.bool !b) W := by rw [h4]; simp [h1, Result.andThen]
        simp [h2, Result.andThen, hb]
      · exact hpl (by simp) hv
    · exact hpl (by simp) hv
  case unOp => exact hpl (by simp) hv
  case convert a b x =>
    split at hv
    · rename_i r' hc
      cases hv
      obtain ⟨v, s1⟩ := r
      obtain ⟨ι', v', W', h1, h2, h3⟩ := convert_sound (ok := ok) hE h hc (hρ x (by simp))
      exact ⟨ι', v', W', rv h1, h2, h3⟩
    · exact hpl (by simp) hv
  case sliceToArrayPointer => exact hpl (by simp) hv
  case makeInterface xt x =>
    split at hv
    · cases hv
    · cases hv
    · rename_i d hd hn
      cases hv
      refine ⟨ι, .iface xt (A x), W, rv ?_, .refl h, .iface xt (hρ x (by simp))⟩
      unfold Instr.makeInterface
      simp only [Sem.run_bind, rund (hE.und hn), Result.andThen]
      cases d <;> first | rfl | exact absurd rfl (hd _)
  case makeFunc f first cap =>
    split at hv
    · rename_i g
      cases hv
      have hf := arr_map (ι := ι) (ρ := ρ) (A := A) first (fun x hx => hρ x (by simp [hx]))
      have hc := arr_map (ι := ι) (ρ := ρ) (A := A) cap (fun x hx => hρ x (by simp [hx]))
      exact ⟨ι, _, W, .inl rfl, .refl h, func_rel (.same _) hf hc⟩
    · cases hv
  case makeMap ty rs =>
    split at hv
    · cases hv
      obtain ⟨ι', v', W', h1, h2, h3⟩ := makeMap_sound (ok := ok) h ty
      exact ⟨ι', v', W', rv h1, h2, h3⟩
    · cases hv
  case makeChan => exact hpl (by simp) hv
  case makeSlice ty l c =>
    obtain ⟨v, s1⟩ := r
    obtain ⟨ι', v', W', h1, h2, h3⟩ := makeSlice_sound (ok := ok) hE h hv (hρ l (by simp)) (hρ c (by simp))
    exact ⟨ι', v', W', rv h1, h2, h3⟩
  case slice ty x lo hi mx =>
    split at hv
    · cases hv
    rename_i hno
    split at hv
    · rename_i v hs
      cases hv
      have q1 := opt_rel (ι := ι) (ρ := ρ) (A := A) lo (fun y hy => hρ y (by simp [hy]))
      have q2 := opt_rel (ι := ι) (ρ := ρ) (A := A) hi (fun y hy => hρ y (by simp [hy]))
      have q3 := opt_rel (ι := ι) (ρ := ρ) (A := A) mx (fun y hy => hρ y (by simp [hy]))
      have hhm : hi.map ρ = none → mx.map ρ = none := by
        cases hi <;> cases mx <;> simp at hno ⊢
      obtain ⟨v', h1, h2⟩ := slice_sound hE h hs (hρ x (by simp)) q1 q2 q3 hhm
      exact ⟨ι, v', W, rv h1, .refl h, h2⟩
    · exact hpl (by simp) hv
  case fieldAddr ty x f =>
    cases hf : afieldAddr E ty (ρ x) f with
    | none => simp [hf] at hv
    | some v =>
      simp only [hf, Option.map_some, Option.some.injEq] at hv
      subst hv
      obtain ⟨v', h1, h2⟩ := fieldAddr_sound (P := P) hE hf (hρ x (by simp)) W
      exact ⟨ι, v', W, rv h1, .refl h, h2⟩
  case field ty x f =>
    have hx := hρ x (by simp)
    split at hv
    case h_2 => cases hv
    rename_i cs hcs
    split at hv
    case h_2 => cases hv
    rename_i fields hu
    split at hv
    case h_2 => cases hv
    rename_i fd hfd
    cases hp : AE.apart E fd.type cs.toList fd.offset with
    | none => simp [hp] at hv
    | some v =>
      simp only [hp, Option.map_some, Option.some.injEq] at hv
      subst hv
      rw [hcs] at hx
      cases hA : A x <;> rw [hA] at hx <;> cases hx
      rename_i cs' hs hv'
      obtain ⟨v', h1, h2⟩ := part_sound (P := P) hE hp (VRel.cells hs hv') W
      refine ⟨ι, v', W, rv ?_, .refl h, h2⟩
      simp [hA, Instr.field, rund (hE.und hu), Result.andThen, hfd, asAgg, h1]
  case indexAddr ty x ix =>
    cases hf : aindexAddr E ty (ρ x) (ρ ix) with
    | none => simp [hf] at hv
    | some v =>
      simp only [hf, Option.map_some, Option.some.injEq] at hv
      subst hv
      obtain ⟨v', h1, h2⟩ := indexAddr_sound (P := P) hE hf (hρ x (by simp)) (hρ ix (by simp)) W
      exact ⟨ι, v', W, rv h1, .refl h, h2⟩
  case index ty x ix =>
    have hx := hρ x (by simp)
    have hix := hρ ix (by simp)
    split at hv
    · rename_i cs k i hcs hii
      split at hv
      case h_2 => cases hv
      rename_i len elem hu
      split at hv
      case h_2 => cases hv
      rename_i n hn
      obtain ⟨hc, hv⟩ := ite_some hv
      cases hp : AE.apart E elem cs.toList (i.toNat * n) with
      | none => simp [hp] at hv
      | some v =>
        simp only [hp, Option.map_some, Option.some.injEq] at hv
        subst hv
        rw [hcs] at hx
        rw [hii] at hix
        cases hA : A x <;> rw [hA] at hx <;> cases hx
        rename_i cs' hs hv'
        cases hB : A ix <;> rw [hB] at hix <;> cases hix
        obtain ⟨v', h1, h2⟩ := part_sound (P := P) hE hp (VRel.cells hs hv') W
        refine ⟨ι, v', W, rv ?_, .refl h, h2⟩
        simp [hA, hB, Instr.index, asInt_run, rund (hE.und hu), Result.andThen, hc.1, hc.2, rsize (hE.size hn), h1]
    · exact hpl (by simp) hv
  case lookup ty x ix okk =>
    cases hf : alookup E s ty (ρ x) (ρ ix) okk with
    | none => simp [hf] at hv
    | some v =>
      simp only [hf, Option.map_some, Option.some.injEq] at hv
      subst hv
      obtain ⟨v', h1, h2⟩ := lookup_sound hE h hf (hρ x (by simp)) (hρ ix (by simp))
      exact ⟨ι, v', W, rv h1, .refl h, h2⟩
  case mapUpdate ty m k x =>
    cases hf : aupdate E s ty (ρ m) (ρ k) (ρ x) with
    | none => simp [hf] at hv
    | some s1 =>
      simp only [hf, Option.map_some, Option.some.injEq] at hv
      subst hv
      obtain ⟨W', h1, h2⟩ := update_sound hE h hf (hρ m (by simp)) (hρ k (by simp)) (hρ x (by simp))
      exact ⟨ι, _, W', ru h1, h2, .ofFlat ι _ rfl⟩
  case insert ty m k x =>
    cases hf : aupdate E s ty (ρ m) (ρ k) (ρ x) with
    | none => simp [hf] at hv
    | some s1 =>
      simp only [hf, Option.map_some, Option.some.injEq] at hv
      subst hv
      obtain ⟨W', h1, h2⟩ := update_sound hE h hf (hρ m (by simp)) (hρ k (by simp)) (hρ x (by simp))
      exact ⟨ι, _, W', ru h1, h2, .ofFlat ι _ rfl⟩
  case mapEntry ty m k =>
    obtain ⟨v, s1⟩ := r
    obtain ⟨v', W', h1, h2, h3⟩ := mapEntry_sound hE h hv (hρ m (by simp)) (hρ k (by simp))
    exact ⟨ι, v', W', rv h1, h2, h3⟩
  case entryStore ty m st x =>
    cases hf : aentryStore s (ρ m) (ρ st) (ρ x) with
    | none => simp [hf] at hv
    | some s1 =>
      simp only [hf, Option.map_some, Option.some.injEq] at hv
      subst hv
      obtain ⟨W', h1, h2⟩ := entryStore_sound h (t := ty) hf (hρ m (by simp)) (hρ st (by simp)) (hρ x (by simp))
      exact ⟨ι, _, W', ru h1, h2, .ofFlat ι _ rfl⟩
  case range ty x =>
    have hx := hρ x (by simp)
    split at hv
    · rename_i b hu hb
      cases hv
      rw [hb] at hx
      cases hA : A x <;> rw [hA] at hx <;> cases hx
      obtain ⟨ι', v', W', h1, h2, h3⟩ := range_sound (ok := ok) hE h hu b
      exact ⟨ι', v', W', rv (by rw [hA]; exact h1), h2, h3⟩
    · cases hv
  case next it b =>
    split at hv
    · rename_i hb
      subst hb
      obtain ⟨v, s1⟩ := r
      obtain ⟨v', W', h1, h2, h3⟩ := next_sound h hv (hρ it (by simp)) type
      exact ⟨ι, v', W', rv h1, h2, h3⟩
    · cases hv
  case entry => exact hpl (by simp) hv
  case typeAssert x xt u okk =>
    have hx := hρ x (by simp)
    split at hv
    · exact hpl (by simp) hv
    · rename_i ud d v hni hu hxv
      rw [hxv] at hx
      cases hA : A x <;> rw [hA] at hx <;> cases hx
      rename_i v' hvv
      have hni' : ∀ m, ud ≠ .interface m := fun m e => hni m (by rw [e])
      have hrun : ∀ K : Sem Value, (Instr.typeAssert (.iface d v') xt u okk).run P W =
          (if d = u then (pure (if okk then .tuple #[v', .bool true] else v') : Sem Value) else (if okk then (do pure (.tuple #[← zeroValue u, .bool false])) else runtimePanic (.typeAssertion (some xt) (some d) u ""))).run P W := fun _ => by
        unfold Instr.typeAssert
        simp only [Sem.run_bind, rund (hE.und hu), Result.andThen]
      have hrun := hrun (pure undef)
      split at hv
      · rename_i hdu
        cases hv
        refine ⟨ι, _, W, rv (by rw [hA, hrun, if_pos hdu]; rfl), .refl h, ?_⟩
        cases okk
        · exact hvv
        · exact (LRel.cons hvv (.cons (.bool _) (.nil ι))).tuple
      · rename_i hdu
        split at hv
        case isFalse => cases hv
        rename_i hok
        cases hz : E.zero u with
        | none => simp [hz] at hv
        | some z =>
          obtain ⟨⟨i, hi, hiz⟩, hzf⟩ := hE.zero hz
          simp only [hz, Option.map_some, Option.some.injEq] at hv
          subst hv
          refine ⟨ι, .tuple #[z, .bool false], W, rv (by rw [hA, hrun, if_neg hdu, if_pos hok]; simp [rzero hi hiz, Result.andThen]), .refl h, (LRel.cons (.ofFlat ι z hzf) (.cons (.bool _) (.nil ι))).tuple⟩
    · exact hpl (by simp) hv
  case extract x i =>
    have hx := hρ x (by simp)
    split at hv
    · rename_i vs hxv
      rw [hxv] at hx
      cases hA : A x <;> rw [hA] at hx <;> cases hx
      rename_i vs' hs hv'
      cases hi : vs.toList[i]? with
      | none => simp [hi] at hv
      | some v =>
        simp only [hi, Option.map_some, Option.some.injEq] at hv
        subst hv
        obtain ⟨v', h1, h2⟩ := (VRel.cells hs hv').get hi
        have h1' : vs'[i]? = some v' := by simpa using h1
        exact ⟨ι, v', W, rv (by simp [hA, Instr.extract, h1']), .refl h, h2⟩
    · cases hv
  case call c =>
    split at hv
    case h_2 => cases hv
    rename_i b hb
    split at hv
    · rename_i r' hab
      cases hv
      have ha := arr_map (ι := ι) (ρ := ρ) (A := A) c.args (fun x hx => hρ x (by simp [Call.operands, hx]))
      have key := abuiltin_sound (ok := ok) hE h hab ha type (c.args.map fun | .const _ => true | _ => false)
      have he : (execOp A ⟨dst, .call c, type, pos, after, guard⟩) = builtin b c.argTypes type (c.args.map fun | .const _ => true | _ => false) (c.args.map A) := by
        simp only [execOp, resolve, hb]
        rfl
      rw [he]
      exact key
    · exact hpl (by simp) hv
  case go => exact hpl (by simp) hv
  case defer => exact hpl (by simp) hv
  case panic => exact hpl (by simp) hv
  case send => exact hpl (by simp) hv
  case recv => exact hpl (by simp) hv
  case select => cases hv
end Go.AE
