import Derived.Test.YtgakphbkknfmdaaDoorAESound7
import Derived.Room.MakeNoZero
import Derived.Laws.Externs
import Derived.Lib.Bytealg
set_option linter.all false
set_option linter.unusedSimpArgs false
set_option linter.unusedVariables false
set_option autoImplicit false
namespace Go.AE
variable {P : Program}

/-! ### Functions without code -/
/-- Kinds: the argument itself; the first place of a byte; how often a byte; bytes that nobody knows. -/
inductive XK where
  | same
  | indexByte
  | count
  | noZero (t e : TypeId)

def idxL (c : Nat) : List UInt8 → Nat → Option Nat
  | [], _ => none
  | x :: l, i => match Nat.beq x.toNat c with
    | true => some i
    | false => idxL c l (i + 1)
def cntL (c : Nat) : List UInt8 → Nat → Nat
  | [], n => n
  | x :: l, n => match Nat.beq x.toNat c with
    | true => cntL c l (n + 1)
    | false => cntL c l n

noncomputable def extF (kind : Nat → Option XK) (f : FuncId) (args : List Value) (s : AS) : Option (Value × AS) :=
  match kind f with
  | none => none
  | some k => match k with
    | .same => match args with
      | [x] => some (x, s)
      | _ => none
    | .indexByte => match args with
      | [.string b, .int .u8 c] => match idxL c.toNat.toUInt8.toNat b.data.toList 0 with
        | some i => some (.int .i64 (.ofNat i), s)
        | none => some (.int .i64 (.negSucc 0), s)
      | _ => none
    | .count => match args with
      | [.string b, .int .u8 c] => some (.int .i64 (.ofNat (cntL c.toNat.toUInt8.toNat b.data.toList 0)), s)
      | _ => none
    | .noZero _ e => match args with
      | [.int .i64 n] => match n with
        | .ofNat m => match Nat.blt m 1099511627776 with
          | true => some (.slice (some ⟨s.id, 0, none⟩) m 0, s.new (.row true e [] 0 0))
          | false => none
        | .negSucc _ => none
      | _ => none

/-- What is asked of the table. -/
def XTab (P : Program) (kind : Nat → Option XK) : Prop :=
  ∀ f k, kind f = some k → ∃ fn, P.funcs[f]? = some fn ∧ (fn.name == "runtime.NumGoroutine") = false ∧ fn.body.isNone = true ∧ Extern.findNext fn = none ∧
    (match k with
      | .same => Extern.find fn = some Extern.AbiNoEscape.same
      | .indexByte => Extern.find fn = some Extern.BytealgIndexByte.indexByte
      | .count => Extern.find fn = some Extern.BytealgCount.count
      | .noZero t e => (∃ ps, Extern.find fn = some (Extern.BytealgMakeNoZero.makeNoZero ps #[t])) ∧ P.underlying t = some (.slice e) ∧ (P.info? e).map (·.size) = some 1)

theorem u8_beq (x y : UInt8) : Nat.beq x.toNat y.toNat = (x == y) := by
  rw [Bool.eq_iff_iff]
  simp only [beq_iff_eq]
  constructor
  · intro h
    exact UInt8.toNat_inj.1 (Nat.eq_of_beq_eq_true h)
  · rintro rfl
    exact Nat.beq_refl _

theorem idxL_find (c : UInt8) : ∀ (l : List UInt8) (b : ByteArray) (k : Nat), b.data.toList.drop k = l → (List.range' k l.length).find? (fun i => b[i]! == c) = idxL c.toNat l k
  | [], b, k, _ => rfl
  | x :: l, b, k, h => by
    have hk : b.data.toList[k]? = some x := by
      have : (b.data.toList.drop k)[0]? = some x := by rw [h]; rfl
      simpa using this
    have hb : b[k]! = x := by
      have hlt : k < b.data.toList.length := (List.getElem?_eq_some_iff.1 hk).1
      have hlt' : k < b.size := by simpa using hlt
      have e := (List.getElem?_eq_some_iff.1 hk).2
      rw [getElem!_pos b k hlt']
      rw [← e]
      rfl
    have hd : b.data.toList.drop (k + 1) = l := by
      have : (b.data.toList.drop k).drop 1 = l := by rw [h]; rfl
      rwa [List.drop_drop] at this
    rw [List.length_cons, List.range'_succ, List.find?_cons, hb, idxL, u8_beq]
    cases hx : x == c with
    | true => rfl
    | false => exact idxL_find c l b (k + 1) hd

theorem cntL_fold (c : UInt8) : ∀ (l : List UInt8) (n : Nat), l.foldl (fun (n : Int) x => if x == c then n + 1 else n) (n : Int) = ((cntL c.toNat l n : Nat) : Int)
  | [], _ => rfl
  | x :: l, n => by
    rw [List.foldl_cons, cntL, u8_beq]
    cases x == c with
    | true => exact cntL_fold c l (n + 1)
    | false => exact cntL_fold c l n

theorem ext_ok {E : Env} {kind : Nat → Option XK} (hx : E.ext = extF kind) (hk : XTab P kind) : ExtOk E P := by
  intro f fn args s v s' ι W args' hfn hbody h hr ha
  rw [hx] at h
  unfold extF at h
  cases hkf : kind f with
  | none => simp [hkf] at h
  | some k =>
    simp only [hkf] at h
    obtain ⟨fn', h1, h2, h3, h4, h5⟩ := hk f k hkf
    cases k with
    | same =>
      simp only at h h5
      have run := run_callFunc_extern h1 h2 h3 h4 h5 args' W
      split at h
      · rename_i x
        cases h
        obtain ⟨l'⟩ := args'
        match l', ha with
        | [x'], ha =>
          refine ⟨ι, x', W, .inl ?_, .refl hr, ha.head⟩
          rw [run]
          rfl
        | [], ha => have := ha.1; simp at this
        | _ :: _ :: _, ha => have := ha.1; simp at this
      · cases h
    | indexByte =>
      simp only at h h5
      have run := run_callFunc_extern h1 h2 h3 h4 h5 args' W
      split at h
      · rename_i b c
        obtain ⟨l'⟩ := args'
        match l', ha with
        | [x', y'], ha =>
          have hx' := ha.head
          have hy' := ha.tail.head
          cases hx'
          cases hy'
          have hf := idxL_find c.toNat.toUInt8 b.data.toList b 0 rfl
          have hl : b.data.toList.length = b.size := by simp
          rw [hl, ← List.range_eq_range'] at hf
          refine ⟨ι, v, W, .inl ?_, ?_, ?_⟩
          · rw [run]
            show (Result.andThen ((do
              match (List.range b.size).find? fun i => b[i]! == c.toNat.toUInt8 with
              | some i => pure (goInt i)
              | none => pure (goInt (-1)) : Sem Value).run P W) _) = _
            rw [hf]
            split at h <;> cases h <;> rfl
          · split at h <;> cases h <;> exact .refl hr
          · split at h <;> cases h <;> exact .int _ _
        | [], ha => have := ha.1; simp at this
        | [_], ha => have := ha.1; simp at this
        | _ :: _ :: _ :: _, ha => have := ha.1; simp at this
      · cases h
    | count =>
      simp only at h h5
      have run := run_callFunc_extern h1 h2 h3 h4 h5 args' W
      split at h
      · rename_i b c
        cases h
        obtain ⟨l'⟩ := args'
        match l', ha with
        | [x', y'], ha =>
          have hx' := ha.head
          have hy' := ha.tail.head
          cases hx'
          cases hy'
          refine ⟨ι, _, W, .inl ?_, .refl hr, .int _ _⟩
          rw [run]
          show (Result.andThen ((pure (goInt (b.foldl (fun n x => if x == c.toNat.toUInt8 then n + 1 else n) ((0 : Nat) : Int))) : Sem Value).run P W) _) = _
          rw [Lib.foldl_data, cntL_fold]
          rfl
        | [], ha => have := ha.1; simp at this
        | [_], ha => have := ha.1; simp at this
        | _ :: _ :: _ :: _, ha => have := ha.1; simp at this
      · cases h
    | noZero t e =>
      simp only at h h5
      obtain ⟨⟨ps, hfind⟩, hu, hsz⟩ := h5
      have run := run_callFunc_extern h1 h2 h3 h4 hfind args' W
      split at h
      · rename_i n
        split at h
        · rename_i m
          split at h
          · rename_i hm
            cases h
            have hm' : m < 1099511627776 := by simpa [Nat.blt_eq] using hm
            obtain ⟨l'⟩ := args'
            match l', ha with
            | [x'], ha =>
              have hx' := ha.head
              cases hx'
              obtain ⟨cs, hrun, hle, _, _⟩ := Lib.run_makeNoZero_cap (P := P) W ps t e hu m (by omega)
              have hrel : Rel P (okOf E) E.glob ι s W.drew.drew := hr.drew rfl
              have hp := post_new (ok := okOf E) hrel (.row true e [] 0 0) (.cells cs e) ⟨W.heap.size, 0, cs.size, 1, true, true⟩ rfl rfl
                ⟨rfl, rfl, rfl, Nat.zero_lt_one, hsz, Nat.zero_le _, cs, (0, 0), heap_push_new _ _, Nat.le_refl _, ⟨fun _ => .inl rfl, fun h => absurd h (by simp)⟩, fun i hi => absurd hi (by simp)⟩
              refine ⟨_, _, _, .inl ?_, Post.drew (W1 := W.drew.drew) rfl rfl rfl rfl hp, .slice ⟨rfl, hle, .inr ⟨_, upd_same _ _ _, fun _ => ?_, fun h => absurd rfl h, .inl rfl⟩⟩⟩
              · rw [run]
                show Result.andThen ((Extern.BytealgMakeNoZero.makeNoZero ps #[t] #[.int .i64 (m : Int)]).run P W) _ = _
                rw [hrun]
                rfl
              · show cs.size = (cs.size - 0) / 1
                simp
            | [], ha => have := ha.1; simp at this
            | _ :: _ :: _, ha => have := ha.1; simp at this
          · cases h
        · cases h
      · cases h
end Go.AE
