import Derived.Test.YtgakphbkknfmdaaDoorAEG4
import Derived.Test.YtgakphbkknfmdaaDoorAEExt
set_option linter.all false
set_option linter.unusedSimpArgs false
set_option linter.unusedVariables false
set_option autoImplicit false
namespace Go.AE
variable {P : Program}

/-! ### Contracts as relations -/
open Classical in
noncomputable def Calls.spec (C : Calls) (f : FuncId) (Z : List Value → AS → Value → AS → Prop) : Calls :=
  C.put f fun args s => if h : ∃ r : Value × AS, Z args s r.1 r.2 then some h.choose else none

/-- What a caller may lean on. -/
def Meets (C : Calls) (f : FuncId) (Z : List Value → AS → Value → AS → Prop) : Prop :=
  ∀ (args : List Value) (s : AS) (k : Value → AS → Prop), (∃ v s', Z args s v s') → (∀ v s', Z args s v s' → k v s'.flat) → ofE (C.call f args s) k

theorem Calls.put_other {C : Calls} {f g : FuncId} {p : List Value → AS → Option (Value × AS)} (h : Nat.beq g f = false) : (C.put f p).call g = C.call g := by
  funext args s
  show (match Nat.beq g f with
    | true => p args s
    | false => C.call g args s) = _
  rw [h]
theorem Calls.put_same {C : Calls} {f : FuncId} {p : List Value → AS → Option (Value × AS)} : (C.put f p).call f = p := by
  funext args s
  show (match Nat.beq f f with
    | true => p args s
    | false => C.call f args s) = _
  rw [Nat.beq_refl]
theorem spec_meets (C : Calls) (f : FuncId) (Z : List Value → AS → Value → AS → Prop) : Meets (C.spec f Z) f Z := by
  intro args s k ⟨v, s', hz⟩ hk
  unfold Calls.spec
  rw [Calls.put_same]
  have hex : ∃ r : Value × AS, Z args s r.1 r.2 := ⟨(v, s'), hz⟩
  simp only [dif_pos hex]
  exact hk _ _ hex.choose_spec
theorem Meets.other {C : Calls} {f g : FuncId} {Z Y : List Value → AS → Value → AS → Prop} (h : Meets C g Y) (hne : Nat.beq g f = false) : Meets (C.spec f Z) g Y := by
  intro args s k
  unfold Calls.spec
  rw [Calls.put_other hne]
  exact h args s k
open Classical in
theorem spec_ok {E : Env} (hE : E.Ok P) (hF : FnOk E P) {C : Calls} (hC : CallsOk P (okOf E) E.glob C) {f : FuncId} {Z : List Value → AS → Value → AS → Prop}
    (h : ∀ args s v s', Z args s v s' → s.pick = none ∧ WpF E C f args (fun v1 s1 => Tells P (okOf E) E.glob s v1 s1 v s') s) : CallsOk P (okOf E) E.glob (C.spec f Z) := by
  unfold Calls.spec
  have key : ∀ args s v s', (if h : ∃ r : Value × AS, Z args s r.1 r.2 then some h.choose else none) = some (v, s') → Z args s v s' := by
    intro args s v s' hq
    split at hq
    · rename_i hex
      have h1 := hex.choose_spec
      have h2 : hex.choose = (v, s') := Option.some.inj hq
      rw [h2] at h1
      exact h1
    · cases hq
  exact put_ok hE hF hC (fun args s v s' hq _ => (h args s v s' (key args s v s' hq)).2) fun args s v s' hq => (h args s v s' (key args s v s' hq)).1

theorem WpF.mono {E : Env} {C : Calls} {f : FuncId} {args : List Value} {R R' : Value → AS → Prop} {s : AS} (h : WpF E C f args R s) (hr : R = R') : WpF E C f args R' s := hr ▸ h

/-! ### A call that is closed -/
/-- Nothing is known. -/
def deadI (G : Nat) : Iota := fun k => if k < G then .dead else .free
def s0 (G : Nat) : AS := ⟨G, .leaf, [], none⟩
theorem rel_dead {ok : Nat → Code → Bool} (G : Nat) (W : World) : Rel P ok G (deadI G) (s0 G) W where
  next := fun k hk => by have : ¬ k < G := Nat.not_lt.2 hk; unfold deadI; rw [if_neg this]
  pick := fun k hk => by cases hk
  live := fun k l hk => by unfold deadI at hk; split at hk <;> cases hk
  dead := fun k _ => by show seek k (Tr.get (bits k) .leaf) [] = none; rw [Tr.get_nilLeaf]; rfl
  inj := fun k k' l l' hk => by unfold deadI at hk; split at hk <;> cases hk
  glob := fun g hg => .inl (by unfold deadI; rw [if_pos hg])
  gnext := Nat.le_refl _
def closedZ (v : Value) : List Value → AS → Value → AS → Prop := fun args s u s' => args = [] ∧ u = v ∧ s' = s

def Calls.isIt (r : Option (Value × AS)) (p : Value → Bool) : Bool :=
  match r with
  | some (v, _) => p v
  | none => false
def isTrueV (v : Value) : Bool :=
  match v with
  | .bool true => true
  | _ => false
theorem isIt_true {r : Option (Value × AS)} (h : Calls.isIt r isTrueV = true) : ∃ s', r = some (.bool true, s') := by
  unfold Calls.isIt at h
  split at h
  · rename_i v s'
    unfold isTrueV at h
    split at h
    · exact ⟨_, rfl⟩
    · cases h
  · cases h

/-- A call that is closed, and true: nothing else turns. -/
theorem closed_ok {E : Env} (hE : E.Ok P) (hF : FnOk E P) (hX : ExtOk E P) {n : Nat} {f : FuncId} (h : Calls.isIt ((calls E n).call f [] (s0 E.glob)) isTrueV = true) {C : Calls} (hC : CallsOk P (okOf E) E.glob C) :
    CallsOk P (okOf E) E.glob (C.spec f (closedZ (.bool true))) := by
  obtain ⟨s1, h⟩ := isIt_true h
  have hT := calls_ok hE hF hX n
  refine ⟨fun {g args s v s' ι W args'} hc hr ha => ?_, fun hc hr hl ha => hC.yield hc hr hl ha⟩
  by_cases hg : g = f
  · subst hg
    unfold Calls.spec at hc
    rw [Calls.put_same] at hc
    split at hc
    · rename_i hex
      have h1 := hex.choose_spec
      have h2 : hex.choose = (v, s') := Option.some.inj hc
      rw [h2] at h1
      obtain ⟨rfl, hv, hs⟩ := h1
      have hv : v = .bool true := hv
      have hs : s' = s := hs
      subst hv
      subst hs
      have hcall := hT.call (args' := args') h (rel_dead E.glob W) (show LRel (deadI E.glob) [] args'.toList from ⟨ha.1, fun i hi => by simp at hi⟩)
      have keep : ∀ {ι1 : Iota} {W1 : World}, Post P (okOf E) E.glob (deadI E.glob) W ι1 s1 W1 → Post P (okOf E) E.glob ι W ι s' W1 := by
        intro ι1 W1 hp
        have hb : ∀ b, b < W.heap.size → W1.heap[b]? = W.heap[b]? := fun b hb => hp.frame b hb fun k l hk => by
          unfold deadI at hk; split at hk <;> cases hk
        refine ⟨.refl ι, ⟨hr.next, hr.pick, fun k l hk => ?_, hr.dead, hr.inj, hr.glob, hr.gnext⟩, fun b hlt _ => hb b hlt, hp.grow, hp.os, hp.tape, hp.output, fun k l hk ho => .inl ⟨k, l, hk, ho, rfl⟩⟩
        obtain ⟨o, h1, h2⟩ := hr.live k l hk
        exact ⟨o, h1, h2.mono (.refl ι) (hb _ h2.lt)⟩
      rcases hcall with ⟨h1, h2⟩ | ⟨ι1, v', W1, h1, h2, h3⟩
      · refine .inl ⟨h1, CallsIn.mono h2 fun e W' ⟨v', ι1, e1, e2, e3⟩ => ?_⟩
        cases e3
        exact ⟨_, ι, e1, keep e2, .bool true⟩
      · cases h3
        exact .inr ⟨ι, _, W1, h1, keep h2, .bool true⟩
    · cases hc
  · have hb : Nat.beq g f = false := by rw [Bool.eq_false_iff]; exact fun h => hg (Nat.eq_of_beq_eq_true h)
    unfold Calls.spec at hc
    rw [Calls.put_other hb] at hc
    exact hC.call hc hr ha

/-! ### Rules for proofs -/
@[congr] theorem ofV_congr {r r' : Option Value} {k : Value → Prop} (h : r = r') : ofV r k = ofV r' k := h ▸ rfl
@[congr] theorem ofE_congr {r r' : Option (Value × AS)} {k : Value → AS → Prop} (h : r = r') : ofE r k = ofE r' k := h ▸ rfl
@[congr] theorem ofX_congr {r r' : Option (Value × AS)} {k : Value → AS → Prop} (h : r = r') : ofX r k = ofX r' k := h ▸ rfl
@[congr] theorem gdV_congr {b b' : Value} {w : Bool} {r r' : Option Value} {k : Value → Prop} (hb : b = b') (h : r = r') : gdV b w r k = gdV b' w r' k := by rw [h, hb]
@[congr] theorem gdE_congr {b b' : Value} {w : Bool} {r r' : Option (Value × AS)} {s : AS} {k : Value → AS → Prop} (hb : b = b') (h : r = r') : gdE b w r s k = gdE b' w r' s k := by rw [h, hb]
@[congr] theorem gdF_congr {b b' : Value} {w : Bool} {r r' : Option (Value × AS)} {s : AS} {k : Value → AS → Prop} (hb : b = b') (h : r = r') : gdF b w r s k = gdF b' w r' s k := by rw [h, hb]
@[congr] theorem ifG_congr {b b' : Value} {x y : Prop} (h : b = b') : ifG b x y = ifG b' x y := by rw [h]
@[congr] theorem LoopG_congr {B : (Sl → AS → Prop) → Sl → AS → Prop} {g : Sl} {s s' : AS} (h : s = s') : LoopG B g s = LoopG B g s' := by rw [h]
@[simp] theorem ofV_some (v : Value) (k : Value → Prop) : ofV (some v) k = k v := rfl
@[simp] theorem ofE_some (v : Value) (s : AS) (k : Value → AS → Prop) : ofE (some (v, s)) k = k v s.flat := rfl
@[simp] theorem ofX_some (v : Value) (s : AS) (k : Value → AS → Prop) : ofX (some (v, s)) k = k v s := rfl
@[simp] theorem gdV_tt (r : Option Value) (k : Value → Prop) : gdV (.bool true) true r k = ofV r k := rfl
@[simp] theorem gdV_tf (r : Option Value) (k : Value → Prop) : gdV (.bool true) false r k = k undef := rfl
@[simp] theorem gdV_ft (r : Option Value) (k : Value → Prop) : gdV (.bool false) true r k = k undef := rfl
@[simp] theorem gdV_ff (r : Option Value) (k : Value → Prop) : gdV (.bool false) false r k = ofV r k := rfl
@[simp] theorem gdE_tt (r : Option (Value × AS)) (s : AS) (k : Value → AS → Prop) : gdE (.bool true) true r s k = ofE r k := rfl
@[simp] theorem gdE_tf (r : Option (Value × AS)) (s : AS) (k : Value → AS → Prop) : gdE (.bool true) false r s k = k undef s := rfl
@[simp] theorem gdE_ft (r : Option (Value × AS)) (s : AS) (k : Value → AS → Prop) : gdE (.bool false) true r s k = k undef s := rfl
@[simp] theorem gdE_ff (r : Option (Value × AS)) (s : AS) (k : Value → AS → Prop) : gdE (.bool false) false r s k = ofE r k := rfl
@[simp] theorem gdF_tt (r : Option (Value × AS)) (s : AS) (k : Value → AS → Prop) : gdF (.bool true) true r s k = ofE r k := rfl
@[simp] theorem gdF_tf (r : Option (Value × AS)) (s : AS) (k : Value → AS → Prop) : gdF (.bool true) false r s k = k undef s.flat := rfl
@[simp] theorem gdF_ft (r : Option (Value × AS)) (s : AS) (k : Value → AS → Prop) : gdF (.bool false) true r s k = k undef s.flat := rfl
@[simp] theorem gdF_ff (r : Option (Value × AS)) (s : AS) (k : Value → AS → Prop) : gdF (.bool false) false r s k = ofE r k := rfl
@[simp] theorem gdP_tt (p : Prop) : gdP (.bool true) true p = p := rfl
@[simp] theorem gdP_tf (p : Prop) : gdP (.bool true) false p = True := rfl
@[simp] theorem gdP_ft (p : Prop) : gdP (.bool false) true p = True := rfl
@[simp] theorem gdP_ff (p : Prop) : gdP (.bool false) false p = p := rfl
@[simp] theorem ifG_t (x y : Prop) : ifG (.bool true) x y = x := rfl
@[simp] theorem ifG_f (x y : Prop) : ifG (.bool false) x y = y := rfl
theorem ifG_iff {b : Bool} {x y : Prop} (ht : b = true → x) (hf : b = false → y) : ifG (.bool b) x y := by cases b with
  | true => exact ht rfl
  | false => exact hf rfl
@[simp] theorem pickG_t (a b : Value) : pickG (.bool true) a b = some a := rfl
@[simp] theorem pickG_f (a b : Value) : pickG (.bool false) a b = some b := rfl
@[simp] theorem unG_not (b : Bool) : unG .not (.bool b) = some (.bool (!b)) := rfl
@[simp] theorem binG_int (op : BinOp) (k : IntKind) (a b : Int) : binG op (.int k a) (.int k b) = intG op k a b := by simp [binG]
@[simp] theorem eqG_int {E : Env} {s : AS} {op : BinOp} {t : TypeId} {k : IntKind} {a b : Int} : eqG E s op t (.int k a) (.int k b) = intG op k a b := by
  have : aequal E s t (.int k a) (.int k b) = none := by unfold aequal; split <;> simp_all
  unfold eqG
  rw [this]
  simp [binG]
@[simp] theorem eqG_str {E : Env} {s : AS} {op : BinOp} {t : TypeId} {a b : ByteArray} : eqG E s op t (.string a) (.string b) = strG op a b := by
  have : aequal E s t (.string a) (.string b) = none := by unfold aequal; split <;> simp_all
  unfold eqG
  rw [this]
  rfl
@[simp] theorem lenG_slice (a : Option Addr) (n c : Nat) : lenG (.slice a n c) = some (.int .i64 (n : Int)) := rfl
@[simp] theorem extG_tuple (l : List Value) (i : Nat) : extG (.tuple ⟨l⟩) i = l[i]? := rfl
theorem newRow_of {E : Env} {s : AS} {e n : Nat} {cells : List Value} (h : E.size e = some (n + 1)) (hp : s.pick = none) : newRow E s e cells = some (.pointer (some ⟨s.next, 0, none⟩), s.new (.row true e cells 0 0)) := by
  unfold newRow
  rw [h]
  unfold AS.id
  rw [hp]
theorem ldS_at {s : AS} {b o : Nat} {own : Bool} {e : TypeId} {cells : List Value} {lo hi : Nat} (h : s.get b = some (.row own e cells lo hi)) : ldS (.pointer (some ⟨b, o, none⟩)) s = cells[o]? := by
  unfold ldS
  simp only [h]
theorem ldA_at {E : Env} {s : AS} {t b o n : Nat} {d : TypeDesc} {own : Bool} {e : TypeId} {cells : List Value} {lo hi : Nat} (hd : E.und t = some d) (ha : isAggD d = true) (hn : E.size t = some n) (h : s.get b = some (.row own e cells lo hi)) (hl : o + n ≤ cells.length) :
    ldA E t (.pointer (some ⟨b, o, none⟩)) s = some (.agg ⟨(cells.drop o).take n⟩) := by
  unfold ldA aload cut
  simp only [h, hd, hn, ha, Option.bind_eq_bind, Option.bind_some, if_true]
  have : ((cells.drop o).take n).length = n := by simp; omega
  rw [if_pos this]
  rfl
@[simp] theorem pick_flat (s : AS) : s.flat.pick = s.pick := rfl
theorem get_new' {s : AS} (hp : s.pick = none) (k : Nat) (o : AObj) : (s.new o).get k = if k = s.next then some o else s.get k := by
  rw [AS.get_new]
  unfold AS.id
  rw [hp]
theorem next_new' {s : AS} (hp : s.pick = none) (o : AObj) : (s.new o).next = s.next + 1 := (AS.next_new s o).2 hp
@[simp] theorem pick_set (s : AS) (k : Nat) (o : Option AObj) : (s.set k o).pick = s.pick := rfl
attribute [simp] su_at
theorem su_same (g : Sl) (v : Value) (d : Nat) : su g v d d = v := by rw [su_at, if_pos rfl]
theorem su_other (g : Sl) (v : Value) {d j : Nat} (h : j ≠ d) : su g v d j = g j := by rw [su_at, if_neg h]

/-- Numbers in a slice. -/
def IntsAt (s : AS) (v : Value) (zs : List Int) : Prop :=
  ((v = .slice none 0 0 ∨ ∃ b c, v = .slice (some ⟨b, 0, none⟩) 0 c) ∧ zs = []) ∨ ∃ b o c own e cells lo hi, v = .slice (some ⟨b, o, none⟩) zs.length c ∧ s.get b = some (.row own e cells lo hi) ∧ ∀ (i : Nat) (z : Int), zs[i]? = some z → cells[o + i]? = some (.int .i64 z)
theorem IntsAt.mono {s s' : AS} {v : Value} {zs : List Int} (h : IntsAt s v zs) (hg : ∀ k o, s.get k = some o → s'.get k = some o) : IntsAt s' v zs := by
  rcases h with h | ⟨b, o, c, own, e, cells, lo, hi, h1, h2, h3⟩
  · exact .inl h
  · exact .inr ⟨b, o, c, own, e, cells, lo, hi, h1, hg _ _ h2, h3⟩
theorem IntsAt.len {s : AS} {v : Value} {zs : List Int} (h : IntsAt s v zs) : lenG v = some (.int .i64 (zs.length : Int)) := by
  rcases h with ⟨rfl | ⟨b, c, rfl⟩, rfl⟩ | ⟨b, o, c, own, e, cells, lo, hi, rfl, _, _⟩ <;> rfl

/-- What lies in a cell of an object. -/
def cellAt (ob : Option AObj) (o : Nat) : Option Value :=
  match ob with
  | some (.row _ _ cells _ _) => cells[o]?
  | _ => none
@[simp] theorem cellAt_row (own : Bool) (e : TypeId) (cells : List Value) (lo hi o : Nat) : cellAt (some (.row own e cells lo hi)) o = cells[o]? := rfl
@[simp] theorem ldS_ptr (b o : Nat) (s : AS) : ldS (.pointer (some ⟨b, o, none⟩)) s = cellAt (s.get b) o := by
  simp only [ldS]
  unfold cellAt
  cases s.get b with
  | none => rfl
  | some ob => cases ob <;> rfl
def aggAt (ob : Option AObj) (o n : Nat) : Option Value :=
  match ob with
  | some (.row _ _ cells _ _) => match cut cells o n with
    | some c => some (.agg ⟨c⟩)
    | none => none
  | _ => none
@[simp] theorem aggAt_row (own : Bool) (e : TypeId) (cells : List Value) (lo hi o n : Nat) : aggAt (some (.row own e cells lo hi)) o n = match cut cells o n with
    | some c => some (.agg ⟨c⟩)
    | none => none := rfl
theorem ldA_ptr {E : Env} {t n : Nat} {d : TypeDesc} (hd : E.und t = some d) (ha : isAggD d = true) (hn : E.size t = some n) (b o : Nat) (s : AS) : ldA E t (.pointer (some ⟨b, o, none⟩)) s = aggAt (s.get b) o n := by
  unfold ldA aload aggAt
  simp only [hd, hn, ha, Option.bind_eq_bind, Option.bind_some, if_true]
  cases s.get b with
  | none => rfl
  | some ob =>
    cases ob with
    | row own e cells lo hi =>
      simp only []
      cases cut cells o n <;> rfl
    | _ => rfl

/-- A state as it stands between two operations: nothing is still to be written out, no loop over a function is under way. -/
structure Std (s : AS) : Prop where
  pick : s.pick = none
  log : s.log = []
  calm : s.calm
  low : ∀ k, s.next ≤ k → s.get k = none
theorem Std.lt {s : AS} (h : Std s) {k : Nat} {o : AObj} (hk : s.get k = some o) : k < s.next := Nat.lt_of_not_le fun hle => by rw [h.low k hle] at hk; cases hk
theorem Std.flat {s : AS} (h : Std s) : s.flat = s := by
  obtain ⟨n, hp, l, p⟩ := s
  have := h.log
  simp only at this
  subst this
  rfl
@[simp] theorem log_flat (s : AS) : s.flat.log = [] := rfl
theorem flat_flat (s : AS) : s.flat.flat = s.flat := rfl
theorem Std.new {s : AS} (h : Std s) {o : AObj} (ho : calmO o) : Std (s.new o).flat where
  pick := by rw [pick_flat, AS.pick_new]
  log := rfl
  calm := fun k o' hk => by
    rw [AS.get_flat, get_new' h.pick] at hk
    split at hk
    · cases hk; exact ho
    · exact h.calm k o' hk
  low := fun k hk => by
    rw [AS.next_flat, next_new' h.pick] at hk
    rw [AS.get_flat, get_new' h.pick, if_neg (by omega)]
    exact h.low k (by omega)
theorem Std.set {s : AS} (h : Std s) {k : Nat} {o : AObj} (ho : calmO o) (hlt : k < s.next) : Std (s.set k (some o)).flat where
  pick := h.pick
  log := rfl
  calm := fun j o' hk => by
    rw [AS.get_flat, AS.get_set] at hk
    split at hk
    · cases hk; exact ho
    · exact h.calm j o' hk
  low := fun j hj => by
    have hj : s.next ≤ j := hj
    rw [AS.get_flat, AS.get_set, if_neg (by omega)]
    exact h.low j hj
/-- A number is given up. -/
theorem Std.drop {s : AS} (h : Std s) (k : Nat) : Std (s.set k none).flat where
  pick := h.pick
  log := rfl
  calm := fun j o' hk => by
    rw [AS.get_flat, AS.get_set] at hk
    split at hk
    · cases hk
    · exact h.calm j o' hk
  low := fun j hj => by
    have hj : s.next ≤ j := hj
    rw [AS.get_flat, AS.get_set]
    split
    · rfl
    · exact h.low j hj
theorem Std.old {s : AS} (h : Std s) (o : AObj) {k : Nat} (hk : k < s.next) : (s.new o).flat.get k = s.get k := by
  rw [AS.get_flat, get_new' h.pick, if_neg (by omega)]
@[simp] theorem get_newF {s : AS} (h : s.pick = none) (k : Nat) (o : AObj) : (s.new o).flat.get k = if k = s.next then some o else s.get k := by rw [AS.get_flat, get_new' h]
@[simp] theorem next_newF {s : AS} (h : s.pick = none) (o : AObj) : (s.new o).flat.next = s.next + 1 := by rw [AS.next_flat, next_new' h]
@[simp] theorem pick_newF (s : AS) (o : AObj) : (s.new o).flat.pick = none := by rw [pick_flat, AS.pick_new]
@[simp] theorem get_setF {s : AS} (k j : Nat) (o : Option AObj) : (s.set k o).flat.get j = if j = k then o else s.get j := by rw [AS.get_flat, AS.get_set]
@[simp] theorem next_setF {s : AS} (k : Nat) (o : Option AObj) : (s.set k o).flat.next = s.next := rfl
theorem IntsAt.new {s : AS} {v : Value} {zs : List Int} (h : IntsAt s v zs) (hs : Std s) (o : AObj) : IntsAt (s.new o).flat v zs :=
  h.mono fun k o' hk => by rw [hs.old o (hs.lt hk)]; exact hk
theorem index_at {E : Env} {t el n b o c len : Nat} {k : IntKind} {i : Int} (hd : E.und t = some (.slice el)) (hn : E.size el = some (n + 1)) (h0 : 0 ≤ i) (hi : i < len) :
    aindexAddr E t (.slice (some ⟨b, o, none⟩) len c) (.int k i) = some (.pointer (some ⟨b, o + i.toNat * (n + 1), none⟩)) := by
  unfold aindexAddr intOf64
  simp only [hd, hn, Option.bind_eq_bind, Option.bind_some]
  simp [h0, hi]
end Go.AE
