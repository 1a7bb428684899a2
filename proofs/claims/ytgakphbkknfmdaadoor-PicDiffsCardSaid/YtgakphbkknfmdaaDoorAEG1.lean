import Derived.Test.YtgakphbkknfmdaaDoorAESound7
set_option linter.all false
set_option linter.unusedSimpArgs false
set_option linter.unusedVariables false
set_option autoImplicit false
namespace Go.AE
variable {P : Program}

/-! ### Operations, in words that proofs can use -/
inductive RO where
  | now (v : Value)
  | val (r : Option Value)
  | eff (r : Option (Value × AS))

noncomputable def ldS (a : Value) (s : AS) : Option Value :=
  match a with
  | .pointer (some ⟨b, off, none⟩) => match s.get b with
    | some (.row _ _ cells _ _) => cells[off]?
    | _ => none
  | _ => none
noncomputable def ldA (E : Env) (ty : TypeId) (a : Value) (s : AS) : Option Value :=
  match a with
  | .pointer (some a) => aload E s ty a
  | _ => none
noncomputable def stG (E : Env) (ty : TypeId) (a x : Value) (s : AS) : Option (Value × AS) :=
  match a with
  | .pointer (some a) => skipF (astore E s ty a x)
  | _ => none
def pickG (c a b : Value) : Option Value :=
  match c with
  | .bool true => some a
  | .bool false => some b
  | _ => none
def extG (x : Value) (i : Nat) : Option Value :=
  match x with
  | .tuple vs => vs.toList[i]?
  | _ => none
def nilG (x : Value) : Option Value :=
  match x with
  | .pointer (some a) => some (.pointer (some a))
  | .func (.func f) first cap => some (.func (.func f) first cap)
  | .func (.yield f) first cap => some (.func (.yield f) first cap)
  | .slice a n c => some (.slice a n c)
  | .iface u v => some (.iface u v)
  | _ => none
def convG (k : IntKind) (x : Value) : Option Value :=
  match x with
  | .int _ n => some (.int k (k.wrap n))
  | _ => none
def lenG (x : Value) : Option Value :=
  match x with
  | .slice _ n _ => some (.int .i64 (n : Int))
  | _ => none
def lenS (x : Value) : Option Value :=
  match x with
  | .string b => some (.int .i64 (b.size : Int))
  | _ => none
def bitsG (op : BinOp) (k : IntKind) (a b : Int) : Option Value :=
  match op with
  | .and => some (.int k (k.wrap (BitVec.ofInt k.bits a &&& BitVec.ofInt k.bits b).toNat))
  | .or => some (.int k (k.wrap (BitVec.ofInt k.bits a ||| BitVec.ofInt k.bits b).toNat))
  | _ => none
def intG (op : BinOp) (k : IntKind) (a b : Int) : Option Value :=
  match op with
  | .add => some (.int k (k.wrap (a + b)))
  | .sub => some (.int k (k.wrap (a - b)))
  | .mul => some (.int k (k.wrap (a * b)))
  | .quo => if b = 0 then none else some (.int k (k.wrap (a.tdiv b)))
  | .rem => if b = 0 then none else some (.int k (a.tmod b))
  | .eql => some (.bool (a == b))
  | .neq => some (.bool (!(a == b)))
  | .lss => some (.bool (decide (a < b)))
  | .gtr => some (.bool (decide (b < a)))
  | .leq => some (.bool (decide (a ≤ b)))
  | .geq => some (.bool (decide (b ≤ a)))
  | op => bitsG op k a b
def strG (op : BinOp) (a b : ByteArray) : Option Value :=
  match op with
  | .add => if a.size + b.size ≤ 9223372036854775807 then some (.string (a ++ b)) else none
  | .eql => some (.bool (a.toList == b.toList))
  | .neq => some (.bool (!(a.toList == b.toList)))
  | _ => none
def boolG (op : BinOp) (a b : Bool) : Option Value :=
  match op with
  | .eql => some (.bool (a == b))
  | .neq => some (.bool (!(a == b)))
  | _ => none
def binG (op : BinOp) (x y : Value) : Option Value :=
  match x, y with
  | .int k a, .int k' b => if k = k' then intG op k a b else none
  | .string a, .string b => strG op a b
  | _, _ => none
def plainV (P : Program) (S : Sem Value) : Option Value :=
  match pureVal P S with
  | some v => if flatV v = true then some v else none
  | none => none
/-- == of aggregates. -/
def aggG (E : Env) (op : BinOp) (xt : TypeId) (x y : Value) : Option Value :=
  match x, y with
  | .agg a, .agg b => if flatV (.agg a) = true ∧ flatV (.agg b) = true then plainV E.P (do eqGuard op xt (.tmp 0) (.tmp 0) (.agg a) (.agg b); Go.binOp op xt (.agg a) (.agg b)) else none
  | _, _ => none
noncomputable def eqG (E : Env) (s : AS) (op : BinOp) (xt : TypeId) (x y : Value) : Option Value :=
  match aequal E s xt x y with
  | some b => some (.bool (match op with
    | .eql => b
    | _ => !b))
  | none => match x, y with
    | .agg a, .agg b => aggG E op xt (.agg a) (.agg b)
    | .bool a, .bool b => match E.und xt with
      | some .bool => boolG op a b
      | _ => none
    | x, y => binG op x y
def unG (op : UnOp) (x : Value) : Option Value :=
  match op, x with
  | .not, .bool b => some (.bool (!b))
  | .neg, .int k n => some (.int k (k.wrap (0 - n)))
  | _, _ => none
def idxG (x ix : Value) : Option Value :=
  match x, ix with
  | .string b, .int _ i => if 0 ≤ i then (match b[i.toNat]? with
    | some c => some (.int .u8 (c.toNat : Int))
    | none => none) else none
  | _, _ => none
def boundG (x : Option Value) (d : Nat) : Option Nat :=
  match x with
  | none => some d
  | some (.int _ i) => if 0 ≤ i then some i.toNat else none
  | _ => none
def sliceS (x : Value) (lo hi mx : Option Value) : Option Value :=
  match x with
  | .string b => match mx with
    | some _ => none
    | none => match boundG lo 0, boundG hi b.size with
      | some l, some h => if l ≤ h ∧ h ≤ b.size then some (.string (b.extract l h)) else none
      | _, _ => none
  | _ => none
noncomputable def sliceG (E : Env) (s : AS) (ty : TypeId) (x : Value) (lo hi mx : Option Value) : Option Value :=
  if hi.isNone && mx.isSome then none else aslice E s ty x lo hi mx
noncomputable def idxA (E : Env) (len : Nat) (elem : TypeId) (x ix : Value) : Option Value :=
  match x, ix with
  | .agg cs, .int _ i => match E.size elem with
    | some n => if 0 ≤ i ∧ i < len then apart E elem cs.toList (i.toNat * n) else none
    | none => none
  | _, _ => none
def minG (x y : Value) : Option Value :=
  match x, y with
  | .int k a, .int _ b => some (.int k (if b < a then b else a))
  | _, _ => none
def maxG (x y : Value) : Option Value :=
  match x, y with
  | .int k a, .int _ b => some (.int k (if a < b then b else a))
  | _, _ => none
noncomputable def fieldG (E : Env) (ty : TypeId) (x : Value) (f : Nat) : Option Value :=
  match x with
  | .agg cs => match E.und ty with
    | some (.struct fields) => match fields[f]? with
      | some fd => apart E fd.type cs.toList fd.offset
      | none => none
    | _ => none
  | _ => none
noncomputable def quietG (E : Env) (s : AS) (b : Builtin) (ts : List TypeId) (args : List Value) : Option Value :=
  match b, args with
  | .min, [x, y] => minG x y
  | .max, [x, y] => maxG x y
  | b, args => valOf (abuiltin E s b ts args)
def invokeG (E : Env) (C : Calls) (r : Value) (name : String) (args : List Value) (s : AS) : Option (Value × AS) :=
  match r with
  | .iface u v => match methodF E u v name with
    | some f => C.call f (v :: args) s
    | none => none
  | _ => none
noncomputable def rangeG (x : Value) (s : AS) : Option (Value × AS) :=
  match x with
  | .string b => some (.pointer (some ⟨s.id, 0, none⟩), s.new (.iter b 0))
  | _ => none

noncomputable def opR (E : Env) (o : Oper) (C : Calls) (ρ : Operand → Value) (s : AS) : RO :=
  match o.op with
  | .move x | .assign x => .now (ρ x)
  | .pick c a b => .val (pickG (ρ c) (ρ a) (ρ b))
  | .alloc e => match E.zero e with
    | none => .val none
    | some z => .eff (newRow E s e (vcells z))
  | .box e x => .eff (newRow E s e (vcells (ρ x)))
  | .build ty parts => .val (abuild E ty (parts.toList.map fun p => (p.1, ρ p.2)))
  | .buildSlice ty len parts => .eff (abuildSlice E s ty len (parts.toList.map fun p => (p.1, ρ p.2)))
  | .load ty a => match E.und ty with
    | none => .val none
    | some d => match isAggD d with
      | true => .val (ldA E ty (ρ a) s)
      | false => .val (ldS (ρ a) s)
  | .store ty a x => .eff (stG E ty (ρ a) (ρ x) s)
  | .nilCheck x => .val (nilG (ρ x))
  | .binOp op xt x y _ => match op with
    | .eql | .neq => .val (eqG E s op xt (ρ x) (ρ y))
    | op => .val (binG op (ρ x) (ρ y))
  | .unOp op _ x => .val (unG op (ρ x))
  | .convert src dst x => match E.und src, E.und dst with
    | some _, some (.int k) => .val (convG k (ρ x))
    | some (.slice _), some .string => .val (valOf (aconvert E s src dst (ρ x)))
    | _, _ => .eff (aconvert E s src dst (ρ x))
  | .fieldAddr ty x f => .val (afieldAddr E ty (ρ x) f)
  | .indexAddr ty x ix => .val (aindexAddr E ty (ρ x) (ρ ix))
  | .extract x i => .val (extG (ρ x) i)
  | .makeInterface xt x => match E.und xt with
    | some (.interface _) | none => .val none
    | some _ => .now (.iface xt (ρ x))
  | .makeFunc fn first cap => match fn with
    | .func f => .now (.func (.func f) ⟨first.toList.map ρ⟩ ⟨cap.toList.map ρ⟩)
    | _ => .val none
  | .makeMap _ rs => match rs with
    | none => .eff (some (.map (some s.id), s.new (.map [] 0)))
    | some _ => .eff none
  | .makeSlice ty l c => .eff (amakeSlice E s ty (ρ l) (ρ c))
  | .slice ty x lo hi mx => match E.und ty with
    | some .string => .val (sliceS (ρ x) (lo.map ρ) (hi.map ρ) (mx.map ρ))
    | _ => .val (sliceG E s ty (ρ x) (lo.map ρ) (hi.map ρ) (mx.map ρ))
  | .field ty x f => .val (fieldG E ty (ρ x) f)
  | .index xt x ix => match E.und xt with
    | some .string => .val (idxG (ρ x) (ρ ix))
    | some (.array len elem) => .val (idxA E len elem (ρ x) (ρ ix))
    | _ => .val none
  | .lookup ty x ix ok => .val (alookup E s ty (ρ x) (ρ ix) ok)
  | .mapUpdate ty m k x => .eff (skipF (aupdate E s ty (ρ m) (ρ k) (ρ x)))
  | .range ty x => match E.und ty with
    | some .string => .eff (rangeG (ρ x) s)
    | _ => .eff none
  | .next it b => match b with
    | true => .eff (anext s (ρ it))
    | false => .eff none
  | .call c => match c.callee with
    | .value f => .eff (invokeF C (ρ f) (c.args.toList.map ρ) s)
    | .invoke r name => .eff (invokeG E C (ρ r) name (c.args.toList.map ρ) s)
    | .builtin b => match b with
      | .len => match c.argTypes.toList, c.args.toList with
        | t :: _, [x] => match E.und t with
          | some (.slice _) => .val (lenG (ρ x))
          | some .string => .val (lenS (ρ x))
          | _ => .val none
        | _, _ => .val none
      | .append => match c.argTypes.toList, c.args.toList with
        | [t, u], [x, y] => .eff (aappend E s t u (ρ x) (ρ y))
        | _, _ => .eff none
      | b => match quietB b with
        | true => .val (quietG E s b c.argTypes.toList (c.args.toList.map ρ))
        | false => .eff (abuiltin E s b c.argTypes.toList (c.args.toList.map ρ))
  | _ => .val none

/-! ### They are what the evaluator gives -/
def Fits (E : Env) (o : Oper) (C : Calls) (t : T) (s : AS) : RO → Prop
  | .now v => (opFn E o).run C t s = some (v, s) ∧ isEff (opFn E o) = false
  | .val (some v) => (opFn E o).run C t s = some (v, s) ∧ isEff (opFn E o) = false
  | .eff (some (v, s')) => (opFn E o).run C t s = some (v, s') ∧ isEff (opFn E o) = true
  | _ => True

theorem pureVal_bind {α β : Type} : ∀ {S : Sem α} {a : α} {f : α → Sem β}, pureVal P S = some a → pureVal P (S >>= f) = pureVal P (f a)
  | .pure x, a, f, h => by simp [pureVal] at h; subst h; rfl
  | .program k, a, f, h => by
    simp only [pureVal] at h
    exact pureVal_bind (S := k P) h
  | .load .., a, f, h => by simp [pureVal] at h
  | .store .., a, f, h => by simp [pureVal] at h
  | .new .., a, f, h => by simp [pureVal] at h
  | .shape .., a, f, h => by simp [pureVal] at h
  | .freeze .., a, f, h => by simp [pureVal] at h
  | .frozen .., a, f, h => by simp [pureVal] at h
  | .getObj .., a, f, h => by simp [pureVal] at h
  | .setObj .., a, f, h => by simp [pureVal] at h
  | .choose .., a, f, h => by simp [pureVal] at h
  | .sys .., a, f, h => by simp [pureVal] at h
  | .mark .., a, f, h => by simp [pureVal] at h
  | .halt .., a, f, h => by simp [pureVal] at h

theorem plain_ok {c : Bool} {x : Option Next} {s : AS} {v : Value} (h1 : c = true) (h2 : x = some (.value v)) (h3 : flatV v = true) :
    (if c = true then (match x with
      | some (.value v) => if flatV v = true then some (v, s) else none
      | _ => none) else none) = some (v, s) := by
  subst h1
  subst h2
  simp [h3]

theorem intG_run {op : BinOp} {k : IntKind} {a b : Int} {v : Value} (h : intG op k a b = some v) (ty : TypeId) (x y : Operand) :
    pureVal P (do eqGuard op ty x y (.int k a) (.int k b); binOp op ty (.int k a) (.int k b)) = some v ∧ flatV v = true := by
  have hg : ∀ op, pureVal P (eqGuard op ty x y (.int k a) (.int k b)) = some () := fun op => by cases op <;> rfl
  rw [pureVal_bind (hg op)]
  cases op <;> simp only [intG, bitsG, Option.some.injEq, reduceCtorEq] at h
  case quo =>
    split at h
    · cases h
    · cases h
      rename_i hb
      exact ⟨by simp [binOp, Op.intDiv, hb]; rfl, rfl⟩
  case rem =>
    split at h
    · cases h
    · cases h
      rename_i hb
      exact ⟨by simp [binOp, Op.intDiv, hb]; rfl, rfl⟩
  all_goals (subst h; exact ⟨by simp [binOp, Op.intArith, Op.intCmp, Op.intBits]; rfl, rfl⟩)
theorem strG_run {op : BinOp} {a b : ByteArray} {v : Value} (h : strG op a b = some v) (ty : TypeId) (x y : Operand) :
    pureVal P (do eqGuard op ty x y (.string a) (.string b); binOp op ty (.string a) (.string b)) = some v ∧ flatV v = true := by
  have hg : ∀ op, pureVal P (eqGuard op ty x y (.string a) (.string b)) = some () := fun op => by cases op <;> rfl
  rw [pureVal_bind (hg op)]
  cases op <;> simp only [strG, Option.some.injEq, reduceCtorEq] at h
  case add =>
    split at h
    · cases h
      rename_i hb
      refine ⟨?_, rfl⟩
      have : ¬ (((a.size + b.size : Nat) : Int) > IntKind.i64.max) := by
        show ¬ ((9223372036854775807 : Int) < _)
        omega
      show pureVal P (Op.stringOp .add a b) = _
      unfold Op.stringOp
      simp only [if_neg this]
      rfl
    · cases h
  all_goals (subst h; exact ⟨rfl, rfl⟩)
theorem pureVal_und {t : TypeId} {d : TypeDesc} (h : P.underlying t = some d) : pureVal P (underlying t) = some d := by
  unfold underlying
  show pureVal P (Sem.bind (Sem.program Sem.pure) _) = _
  simp only [Sem.bind, pureVal, h]
  rfl
theorem boolG_run {op : BinOp} {a b : Bool} {v : Value} (h : boolG op a b = some v) {ty : TypeId} (hu : P.underlying ty = some .bool) (x y : Operand) :
    pureVal P (do eqGuard op ty x y (.bool a) (.bool b); binOp op ty (.bool a) (.bool b)) = some v ∧ flatV v = true := by
  have hg : ∀ op, pureVal P (eqGuard op ty x y (.bool a) (.bool b)) = some () := fun op => by cases op <;> rfl
  have he : pureVal P (Op.equal ty (.bool a) (.bool b)) = some (a == b) := by
    have key : ∀ d, pureVal P (Op.equalIn (d + 1) ty (.bool a) (.bool b)) = some (a == b) := fun d => by
      unfold Op.equalIn
      rw [pureVal_bind (pureVal_und hu)]
      rfl
    exact key 9999
  rw [pureVal_bind (hg op)]
  cases op <;> simp only [boolG, Option.some.injEq, reduceCtorEq] at h
  · subst h
    refine ⟨?_, rfl⟩
    show pureVal P (Op.equal ty (.bool a) (.bool b) >>= fun r => pure (Value.bool r)) = _
    rw [pureVal_bind he]
    rfl
  · subst h
    refine ⟨?_, rfl⟩
    show pureVal P (Op.equal ty (.bool a) (.bool b) >>= fun r => pure (Value.bool (!r))) = _
    rw [pureVal_bind he]
    rfl

theorem binG_run {op : BinOp} {x y v : Value} (h : binG op x y = some v) (ty : TypeId) (ox oy : Operand) :
    pureVal P (do eqGuard op ty ox oy x y; binOp op ty x y) = some v ∧ flatV v = true ∧ flatV x = true ∧ flatV y = true := by
  unfold binG at h
  split at h
  · split at h
    · rename_i hk
      subst hk
      obtain ⟨h1, h2⟩ := intG_run (P := P) h ty ox oy
      exact ⟨h1, h2, rfl, rfl⟩
    · cases h
  · obtain ⟨h1, h2⟩ := strG_run (P := P) h ty ox oy
    exact ⟨h1, h2, rfl, rfl⟩
  · cases h

theorem aequal_num {E : Env} {s : AS} {xt : TypeId} {x y : Value} (h : binG .add x y ≠ none ∨ ∃ op, binG op x y ≠ none) : aequal E s xt x y = none := by
  have : ∃ op, binG op x y ≠ none := by rcases h with h | h; exact ⟨_, h⟩; exact h
  obtain ⟨op, h⟩ := this
  unfold aequal
  cases x <;> cases y <;> first | (exact absurd rfl h) | (split <;> simp_all)

theorem val_fit {E : Env} {C : Calls} {t : T} {s : AS} {o : Oper} {f : T → AS → Option Value} (ho : opFn E o = .val f) {r : Option Value} (h : ∀ v, r = some v → f t s = some v) : Fits E o C t s (.val r) := by
  cases r with
  | none => trivial
  | some v => exact ⟨by rw [ho]; simp [OFn.run, h v rfl], by rw [ho]; rfl⟩
theorem eff_fit {E : Env} {C : Calls} {t : T} {s : AS} {o : Oper} {f : Calls → T → AS → Option (Value × AS)} (ho : opFn E o = .eff f) {r : Option (Value × AS)} (h : ∀ x, r = some x → f C t s = some x) : Fits E o C t s (.eff r) := by
  cases r with
  | none => trivial
  | some x => exact ⟨by rw [ho]; exact h x rfl, by rw [ho]; rfl⟩
theorem here_val {x : Option Value} {s : AS} {v : Value} (h : x = some v) : valOf (x.map fun v => (v, s)) = some v := by subst h; rfl
theorem flat_ops {ρ : Operand → Value} {op : Op} (h : ∀ x ∈ op.operands, flatV (ρ x) = true) : operandsFlat ρ op = true := by
  simp only [operandsFlat, List.all_eq_true]
  exact fun x hx => h x (by simpa using hx)
theorem exec_bin {ρ : Operand → Value} {dst : Option Tmp} {type : TypeId} {pos : String} {after : Array Edge} {guard : Option (Nat × Bool)} {op : BinOp} {xt yt : TypeId} {x y : Operand} {v : Value}
    (h : pureVal P (do eqGuard op xt x y (ρ x) (ρ y); Go.binOp op xt (ρ x) (ρ y)) = some v) : pureVal P (execOp ρ ⟨dst, .binOp op xt x y yt, type, pos, after, guard⟩) = some (.value v) := by
  show pureVal P ((do eqGuard op xt x y (ρ x) (ρ y); Go.binOp op xt (ρ x) (ρ y)) >>= fun v => pure (Next.value v)) = _
  rw [pureVal_bind h]
  rfl
theorem eqGuard_agg (op : BinOp) (xt : TypeId) (x y x' y' : Operand) (a b : Array Value) : eqGuard op xt x y (.agg a) (.agg b) = eqGuard op xt x' y' (.agg a) (.agg b) := by
  unfold eqGuard
  rfl

theorem intG_fn {op : BinOp} {f : IFn} (hf : intFn op = some f) {k : IntKind} {a b : Int} : intG op k a b = some (f.run k a b) := by
  have hle : ∀ x y : Int, (!decide (y < x)) = decide (x ≤ y) := fun x y => by
    by_cases h : y < x
    · simp [h]
    · simp [h, Int.not_lt.1 h]
  cases op <;> simp only [intFn, Option.some.injEq, reduceCtorEq] at hf <;> subst hf <;> simp only [intG, wrapF_eq, ltF_eq, eqF_eq, hle]
theorem bounds_str {L H : Option Value} {n l h : Nat} (hl : boundG L 0 = some l) (hh : boundG H n = some h) (hle : l ≤ h ∧ h ≤ n) : pureVal P (Instr.sliceBounds false n n L H none) = some (l, h, n) := by
  have one : ∀ {v : Value} {y m : Nat} (code : BoundsCode), boundG (some v) 0 = some m → m ≤ y → pureVal P (Instr.sliceBound v y code) = some m := by
    intro v y m code hb hm
    simp only [boundG] at hb
    split at hb
    · rename_i hq; cases hq
    · rename_i k i hq
      cases hq
      split at hb
      · rename_i hi
        cases hb
        unfold Instr.sliceBound
        show pureVal P (if 0 ≤ i ∧ i ≤ (y : Int) then pure i.toNat else boundsPanic k i y code) = _
        rw [if_pos ⟨hi, by omega⟩]
        rfl
      · cases hb
    · cases hb
  have hbd : ∀ (v : Value) (d : Nat), boundG (some v) d = boundG (some v) 0 := fun v d => by cases v <;> rfl
  cases L with
  | none =>
    cases hl
    cases H with
    | none => cases hh; rfl
    | some v =>
      have h1 := one .sliceAlen ((hbd v n).symm.trans hh) hle.2
      show pureVal P (Instr.sliceBound v n .sliceAlen >>= fun h => pure (0, h, n)) = _
      rw [pureVal_bind h1]
      rfl
  | some u =>
    have h2 := one .sliceB hl hle.1
    cases H with
    | none =>
      cases hh
      show pureVal P (Instr.sliceBound u n .sliceB >>= fun l => pure (l, n, n)) = _
      rw [pureVal_bind h2]
      rfl
    | some v =>
      have h1 := one .sliceAlen ((hbd v n).symm.trans hh) hle.2
      show pureVal P (Instr.sliceBound v n .sliceAlen >>= fun h => Instr.sliceBound u h .sliceB >>= fun l => pure (l, h, n)) = _
      rw [pureVal_bind h1, pureVal_bind h2]
      rfl
theorem opR_fn {E : Env} (hE : E.Ok P) {o : Oper} {C : Calls} {ρ : Operand → Value} {t : T} {s : AS} (hρ : ∀ x ∈ o.op.operands, rho t x = ρ x) : Fits E o C t s (opR E o C ρ s) := by
  obtain ⟨dst, op, type, pos, after, guard⟩ := o
  have hEP := hE.prog
  cases op
  case move x =>
    have hx := hρ x (by simp [Op.operands])
    show Fits E _ C t s (.now (ρ x))
    rw [← hx]
    cases x <;> exact ⟨rfl, rfl⟩
  case assign x =>
    have hx := hρ x (by simp [Op.operands])
    show Fits E _ C t s (.now (ρ x))
    rw [← hx]
    cases x <;> exact ⟨rfl, rfl⟩
  case pick c a b =>
    have h1 := hρ c (by simp [Op.operands])
    have h2 := hρ a (by simp [Op.operands])
    have h3 := hρ b (by simp [Op.operands])
    refine val_fit rfl fun v hv => ?_
    show valOf (match rho t c with
      | .bool true => some (rho t a, s)
      | .bool false => some (rho t b, s)
      | _ => none) = some v
    rw [h1, h2, h3]
    revert hv
    cases ρ c <;> try (intro hv; cases hv; done)
    rename_i q
    cases q <;> (intro hv; cases hv; rfl)
  case alloc e =>
    show Fits E _ C t s (match E.zero e with
      | none => .val none
      | some z => .eff (newRow E s e (vcells z)))
    cases hz : E.zero e with
    | none => trivial
    | some z =>
      refine eff_fit (f := fun _ _ s => newRow E s e (vcells z)) ?_ fun x hx => hx
      unfold opFn
      simp only [hz]
  case box e x =>
    have hx := hρ x (by simp [Op.operands])
    refine eff_fit rfl fun r hr => ?_
    rw [← hx] at hr
    exact hr
  case build ty parts =>
    have hp : (parts.toList.map fun p => (p.1, ρ p.2)) = parts.toList.map fun p => (p.1, rho t p.2) := List.map_congr_left fun p hp => by
      rw [hρ p.2 (by simp only [Op.operands]; simp; exact ⟨p.1, by simpa using hp⟩)]
    refine val_fit rfl fun v hv => ?_
    rw [hp] at hv
    exact here_val hv
  case buildSlice ty len parts =>
    have hp : (parts.toList.map fun p => (p.1, ρ p.2)) = parts.toList.map fun p => (p.1, rho t p.2) := List.map_congr_left fun p hp => by
      rw [hρ p.2 (by simp only [Op.operands]; simp; exact ⟨p.1, by simpa using hp⟩)]
    refine eff_fit rfl fun r hr => ?_
    rw [hp] at hr
    exact hr
  case load ty a =>
    have hx := hρ a (by simp [Op.operands])
    show Fits E _ C t s (match E.und ty with
      | none => .val none
      | some d => match isAggD d with
        | true => .val (ldA E ty (ρ a) s)
        | false => .val (ldS (ρ a) s))
    cases hd : E.und ty with
    | none => trivial
    | some d =>
      simp only []
      cases hg : isAggD d with
      | true =>
        refine val_fit (f := fun t s => ldA E ty (rho t a) s) ?_ fun v hv => by rw [hx]; exact hv
        unfold opFn
        simp only [hd, hg]
        rfl
      | false =>
        refine val_fit (f := fun t s => ldS (rho t a) s) ?_ fun v hv => by rw [hx]; exact hv
        unfold opFn
        simp only [hd, hg]
        rfl
  case store ty a x =>
    have h1 := hρ a (by simp [Op.operands])
    have h2 := hρ x (by simp [Op.operands])
    refine eff_fit rfl fun r hr => ?_
    rw [← h1, ← h2] at hr
    exact hr
  case nilCheck x =>
    have hx := hρ x (by simp [Op.operands])
    refine val_fit rfl fun v hv => ?_
    rw [← hx] at hv
    exact hv
  case binOp op xt x y yt =>
    have h1 := hρ x (by simp [Op.operands])
    have h2 := hρ y (by simp [Op.operands])
    -- the way of what asks nothing but the program
    have plain : ∀ v, flatV (ρ x) = true → flatV (ρ y) = true → pureVal P (do eqGuard op xt x y (ρ x) (ρ y); Go.binOp op xt (ρ x) (ρ y)) = some v → flatV v = true → (op ≠ .eql ∧ op ≠ .neq ∨ aequal E s xt (ρ x) (ρ y) = none) →
        valOf (aop E (rho t) ⟨dst, .binOp op xt x y yt, type, pos, after, guard⟩ s) = some v := by
      intro v f1 f2 hp f3 hop
      have hpl := plain_ok (s := s) (c := operandsFlat (rho t) (.binOp op xt x y yt)) (x := pureVal E.P (execOp (rho t) ⟨dst, .binOp op xt x y yt, type, pos, after, guard⟩)) (v := v)
        (flat_ops fun z hz => by
          simp only [Op.operands, List.mem_toArray, List.mem_cons, List.not_mem_nil, or_false] at hz
          rcases hz with rfl | rfl
          · rw [h1]; exact f1
          · rw [h2]; exact f2) (by rw [hEP]; exact exec_bin (by rw [h1, h2]; exact hp)) f3
      unfold aop
      simp only []
      rw [h1, h2]
      cases op <;> simp only [] <;> first
        | (rcases hop with hop | hop
           · simp at hop
           · simp only [hop]; exact congrArg valOf hpl)
        | exact congrArg valOf hpl
    have num : ∀ v, binG op (ρ x) (ρ y) = some v → valOf (aop E (rho t) ⟨dst, .binOp op xt x y yt, type, pos, after, guard⟩ s) = some v := fun v hv => by
      obtain ⟨a1, a2, a3, a4⟩ := binG_run (P := P) hv xt x y
      exact plain v a3 a4 a1 a2 (.inr (aequal_num (.inr ⟨op, by rw [hv]; simp⟩)))
    -- what the evaluator does at numbers
    have fn : ∀ v, binG op (ρ x) (ρ y) = some v → ∀ f, opFn E ⟨dst, .binOp op xt x y yt, type, pos, after, guard⟩ = .val f → f t s = some v := by
      intro v hv f hf
      unfold opFn at hf
      simp only [] at hf
      cases hi : intFn op with
      | none =>
        simp only [hi, OFn.val.injEq] at hf
        rw [← hf]
        exact num v hv
      | some g =>
        simp only [hi, OFn.val.injEq] at hf
        rw [← hf]
        show (match rho t x, rho t y with
          | .int k a, .int k' b => match Nat.beq (kindNo k) (kindNo k') with
            | true => some (g.run k a b)
            | false => none
          | _, _ => valOf (aop E (rho t) ⟨dst, .binOp op xt x y yt, type, pos, after, guard⟩ s)) = some v
        have hn := num v hv
        rw [h1, h2]
        split
        · rename_i k a k' b hx hy
          rw [hx, hy] at hv
          simp only [binG] at hv
          split at hv
          · rename_i hk
            subst hk
            rw [Nat.beq_refl]
            rw [intG_fn hi] at hv
            exact hv
          · cases hv
        · exact hn
    have isval : ∃ f, opFn E ⟨dst, .binOp op xt x y yt, type, pos, after, guard⟩ = .val f := by
      unfold opFn
      simp only []
      cases intFn op <;> exact ⟨_, rfl⟩
    obtain ⟨f, hf⟩ := isval
    by_cases heq : op = .eql ∨ op = .neq
    · have hR : opR E ⟨dst, .binOp op xt x y yt, type, pos, after, guard⟩ C ρ s = .val (eqG E s op xt (ρ x) (ρ y)) := by rcases heq with rfl | rfl <;> rfl
      rw [hR]
      refine val_fit hf fun v hv => ?_
      -- not two numbers: the evaluator's own way
      have slow : (∀ k a k' b, ¬ (ρ x = .int k a ∧ ρ y = .int k' b)) → f t s = valOf (aop E (rho t) ⟨dst, .binOp op xt x y yt, type, pos, after, guard⟩ s) := by
        intro hno
        unfold opFn at hf
        simp only [] at hf
        cases hi : intFn op with
        | none =>
          simp only [hi, OFn.val.injEq] at hf
          rw [← hf]
        | some g =>
          simp only [hi, OFn.val.injEq] at hf
          rw [← hf]
          show (match rho t x, rho t y with
            | .int k a, .int k' b => match Nat.beq (kindNo k) (kindNo k') with
              | true => some (g.run k a b)
              | false => none
            | _, _ => valOf (aop E (rho t) ⟨dst, .binOp op xt x y yt, type, pos, after, guard⟩ s)) = _
          rw [h1, h2]
          split
          · rename_i k a k' b hx hy
            exact absurd ⟨hx, hy⟩ (hno k a k' b)
          · rfl
      unfold eqG at hv
      cases ha : aequal E s xt (ρ x) (ρ y) with
      | some b =>
        rw [ha] at hv
        simp only [Option.some.injEq] at hv
        subst hv
        have hno : ∀ k a k' b, ¬ (ρ x = .int k a ∧ ρ y = .int k' b) := fun k a k' b ⟨e1, e2⟩ => by
          rw [e1, e2] at ha
          unfold aequal at ha
          split at ha <;> simp_all
        rw [slow hno]
        unfold aop
        simp only []
        rw [h1, h2]
        rcases heq with rfl | rfl <;> simp only [ha] <;> rfl
      | none =>
        rw [ha] at hv
        simp only [] at hv
        split at hv
        · rename_i a b hx hy
          have hno : ∀ k a k' b, ¬ (ρ x = .int k a ∧ ρ y = .int k' b) := fun k a k' b ⟨e1, e2⟩ => by rw [hx] at e1; cases e1
          rw [slow hno]
          unfold aggG at hv
          simp only [] at hv
          split at hv
          · rename_i hfl
            unfold plainV at hv
            split at hv
            · rename_i u hu
              split at hv
              · rename_i hfu
                cases hv
                refine plain v (by rw [hx]; exact hfl.1) (by rw [hy]; exact hfl.2) ?_ hfu (.inr ha)
                rw [hx, hy, eqGuard_agg op xt x y (.tmp 0) (.tmp 0), ← hEP]
                exact hu
              · cases hv
            · cases hv
          · cases hv
        · rename_i a b hx hy
          have hno : ∀ k a k' b, ¬ (ρ x = .int k a ∧ ρ y = .int k' b) := fun k a k' b ⟨e1, e2⟩ => by rw [hx] at e1; cases e1
          rw [slow hno]
          split at hv
          · rename_i hd
            obtain ⟨a1, a2⟩ := boolG_run (P := P) hv (hE.und hd) x y
            exact plain v (by rw [hx]; rfl) (by rw [hy]; rfl) (by rw [hx, hy]; exact a1) a2 (.inr ha)
          · cases hv
        · exact fn v hv f hf
    · have hR : opR E ⟨dst, .binOp op xt x y yt, type, pos, after, guard⟩ C ρ s = .val (binG op (ρ x) (ρ y)) := by
        cases op <;> first | rfl | (exact absurd (by simp) heq)
      rw [hR]
      exact val_fit hf fun v hv => fn v hv f hf
  case unOp op xt x =>
    have h1 := hρ x (by simp [Op.operands])
    refine val_fit rfl fun v hv => ?_
    have key : flatV (ρ x) = true ∧ pureVal P (Op.unary op (ρ x)) = some v ∧ flatV v = true := by
      unfold unG at hv
      split at hv
      · cases hv; rename_i b hx; rw [hx]; exact ⟨rfl, rfl, rfl⟩
      · cases hv; rename_i k n hx; rw [hx]; exact ⟨rfl, rfl, rfl⟩
      · cases hv
    exact congrArg valOf (plain_ok (s := s) (flat_ops (ρ := rho t) fun z hz => by
      simp only [Op.operands, List.mem_toArray, List.mem_cons, List.not_mem_nil, or_false] at hz
      subst hz
      rw [h1]; exact key.1) (by
        rw [hEP]
        show pureVal P (Op.unary op (rho t x) >>= fun v => pure (Next.value v)) = _
        rw [h1, pureVal_bind key.2.1]
        rfl) key.2.2)
  case convert src dst' x =>
    have h1 := hρ x (by simp [Op.operands])
    show Fits E _ C t s (match E.und src, E.und dst' with
      | some _, some (.int k) => .val (convG k (ρ x))
      | some (.slice _), some .string => .val (valOf (aconvert E s src dst' (ρ x)))
      | _, _ => .eff (aconvert E s src dst' (ρ x)))
    split
    · rename_i d k e1 e2
      refine val_fit (f := fun t s => match rho t x with
        | .int _ n => some (.int k (wrapF k n))
        | _ => none) ?_ fun v hv => ?_
      · unfold opFn
        simp only [e1, e2]
        rfl
      · rw [← h1] at hv
        unfold convG at hv
        split at hv
        · rw [← hv]
          simp only [wrapF_eq]
        · cases hv
    · rename_i e1 e2
      refine val_fit (f := fun t s => valOf (aconvert E s src dst' (rho t x))) ?_ fun v hv => ?_
      · unfold opFn
        simp only [e1, e2]
        rfl
      · rw [← h1] at hv
        exact hv
    · rename_i hno1 hno
      refine eff_fit (f := fun _ t s => aop E (rho t) ⟨dst, .convert src dst' x, type, pos, after, guard⟩ s) ?_ fun r hr => ?_
      · unfold opFn
        try simp only []
        try (split
             · rename_i e1 e2
               exact absurd e2 (hno _ _ e1)
             · rfl)
      · rw [← h1] at hr
        unfold aop
        simp only [hr]
  case fieldAddr ty x f =>
    have h1 := hρ x (by simp [Op.operands])
    refine val_fit rfl fun v hv => ?_
    rw [← h1] at hv
    exact hv
  case indexAddr ty x ix =>
    have h1 := hρ x (by simp [Op.operands])
    have h2 := hρ ix (by simp [Op.operands])
    refine val_fit rfl fun v hv => ?_
    rw [← h1, ← h2] at hv
    exact hv
  case extract x i =>
    have h1 := hρ x (by simp [Op.operands])
    refine val_fit rfl fun v hv => ?_
    rw [← h1] at hv
    exact hv
  case makeInterface xt x =>
    have h1 := hρ x (by simp [Op.operands])
    show Fits E _ C t s (match E.und xt with
      | some (.interface _) | none => .val none
      | some _ => .now (.iface xt (ρ x)))
    split
    · trivial
    · trivial
    · rename_i d hno hd
      refine ⟨?_, rfl⟩
      show (match valOf (match E.und xt with
        | some (.interface _) | none => none
        | some _ => some (.iface xt (rho t x), s)) with
        | some v => some (v, s)
        | none => none) = _
      rw [hd, h1]
      cases d <;> first | rfl | exact absurd rfl (hno _)
  case makeFunc fn first cap =>
    cases fn with
    | func f =>
      have e1 : first.toList.map ρ = first.toList.map (rho t) := List.map_congr_left fun z hz => (hρ z (by simp only [Op.operands]; simp; exact .inl (by simpa using hz))).symm
      have e2 : cap.toList.map ρ = cap.toList.map (rho t) := List.map_congr_left fun z hz => (hρ z (by simp only [Op.operands]; simp; exact .inr (by simpa using hz))).symm
      show Fits E _ C t s (.now (.func (.func f) ⟨first.toList.map ρ⟩ ⟨cap.toList.map ρ⟩))
      rw [e1, e2]
      exact ⟨rfl, rfl⟩
    | _ => trivial
  case makeMap ty rs =>
    cases rs with
    | none => exact eff_fit rfl fun r hr => hr
    | some x => trivial
  case makeSlice ty l c =>
    have h1 := hρ l (by simp [Op.operands])
    have h2 := hρ c (by simp [Op.operands])
    refine eff_fit rfl fun r hr => ?_
    rw [← h1, ← h2] at hr
    exact hr
  case slice ty x lo hi mx =>
    have h1 := hρ x (by simp [Op.operands])
    have h2 : lo.map ρ = lo.map (rho t) := by cases lo with
      | none => rfl
      | some z => simp [hρ z (by simp [Op.operands])]
    have h3 : hi.map ρ = hi.map (rho t) := by cases hi with
      | none => rfl
      | some z => simp [hρ z (by simp [Op.operands])]
    have h4 : mx.map ρ = mx.map (rho t) := by cases mx with
      | none => rfl
      | some z => simp [hρ z (by simp [Op.operands])]
    show Fits E _ C t s (match E.und ty with
      | some .string => .val (sliceS (ρ x) (lo.map ρ) (hi.map ρ) (mx.map ρ))
      | _ => .val (sliceG E s ty (ρ x) (lo.map ρ) (hi.map ρ) (mx.map ρ)))
    split
    · rename_i hd
      refine val_fit rfl fun v hv => ?_
      unfold sliceS at hv
      split at hv
      case h_2 => cases hv
      rename_i b hx
      split at hv
      · cases hv
      · rename_i hmx
        split at hv
        case h_2 => cases hv
        rename_i l h hl hh
        split at hv
        case isFalse => cases hv
        rename_i hle
        cases hv
        have hmx' : mx = none := by
          cases mx with
          | none => rfl
          | some z => cases hmx
        subst hmx'
        have hu := hE.und hd
        have hrun : pureVal P (Instr.sliceAt ty (.string b) (lo.map ρ) (hi.map ρ) none) = some (.string (b.extract l h)) := by
          unfold Instr.sliceAt
          rw [pureVal_bind (pureVal_und hu)]
          show pureVal P (Instr.slice ty (.string b) (lo.map ρ) (hi.map ρ) none) = _
          unfold Instr.slice
          rw [pureVal_bind (pureVal_und hu)]
          have hb : pureVal P (Instr.sliceBounds false b.size b.size (lo.map ρ) (hi.map ρ) none) = some (l, h, b.size) := by
            exact bounds_str hl hh hle
          show pureVal P (Instr.sliceBounds false b.size b.size (lo.map ρ) (hi.map ρ) none >>= fun (x : Nat × Nat × Nat) => pure (Value.string (b.extract x.1 x.2.1))) = _
          rw [pureVal_bind hb]
          rfl
        have hL : ∀ v, lo.map ρ = some v → flatV v = true := fun v hv => by
          rw [hv] at hl
          simp only [boundG] at hl
          split at hl
          · rename_i hq; cases hq
          · rename_i hq; cases hq; rfl
          · cases hl
        have hH : ∀ v, hi.map ρ = some v → flatV v = true := fun v hv => by
          rw [hv] at hh
          simp only [boundG] at hh
          split at hh
          · rename_i hq; cases hq
          · rename_i hq; cases hq; rfl
          · cases hh
        have hpl := plain_ok (s := s) (c := operandsFlat (rho t) (.slice ty x lo hi none)) (x := pureVal E.P (execOp (rho t) ⟨dst, .slice ty x lo hi none, type, pos, after, guard⟩)) (v := .string (b.extract l h))
          (flat_ops fun z hz => by
            have hz' : z = x ∨ lo = some z ∨ hi = some z := by
              cases lo <;> cases hi <;> simp [Op.operands] at hz ⊢ <;> grind
            rcases hz' with rfl | rfl | rfl
            · rw [h1, hx]; rfl
            · have := hρ z (by cases hi <;> simp [Op.operands])
              rw [this]
              exact hL _ rfl
            · have := hρ z (by cases lo <;> simp [Op.operands])
              rw [this]
              exact hH _ rfl) (by
            rw [hEP]
            show pureVal P (Instr.sliceAt ty (rho t x) (lo.map (rho t)) (hi.map (rho t)) none >>= fun v => pure (Next.value v)) = _
            rw [h1, ← h2, ← h3, hx, pureVal_bind hrun]
            rfl) rfl
        have hs : aslice E s ty (.string b) (lo.map (rho t)) (hi.map (rho t)) none = none := by
          unfold aslice
          simp only [hd, Option.bind_eq_bind, Option.bind_some]
        unfold aop
        simp only []
        rw [h1, hx]
        simp only [Option.isSome_none, Bool.and_false, Bool.false_eq_true, if_false, Option.map_none, hs]
        exact congrArg valOf hpl
    · refine val_fit rfl fun v hv => ?_
      unfold sliceG at hv
      show valOf (if hi.isNone && mx.isSome then none else match aslice E s ty (rho t x) (lo.map (rho t)) (hi.map (rho t)) (mx.map (rho t)) with
        | some r => some (r, s)
        | none => _) = _
      rw [h1, ← h2, ← h3, ← h4]
      have e : (Option.map ρ hi).isNone = hi.isNone := by cases hi <;> rfl
      have e' : (Option.map ρ mx).isSome = mx.isSome := by cases mx <;> rfl
      rw [e, e'] at hv
      split at hv
      · cases hv
      · rename_i hc
        rw [if_neg hc, hv]
        rfl
  case field ty x f =>
    have h1 := hρ x (by simp [Op.operands])
    refine val_fit rfl fun v hv => ?_
    show valOf (match rho t x with
      | .agg cs => match E.und ty with
        | some (.struct fields) => match fields[f]? with
          | some fd => (apart E fd.type cs.toList fd.offset).map fun v => (v, s)
          | none => none
        | _ => none
      | _ => none) = _
    rw [h1]
    unfold fieldG at hv
    split at hv
    · rename_i hx
      try rw [hx]
      split at hv
      · rename_i hd
        try simp only [hd]
        split at hv
        · rename_i hf
          try simp only [hf]
          exact here_val hv
        · cases hv
      · cases hv
    · cases hv
  case index xt x ix =>
    have h1 := hρ x (by simp [Op.operands])
    have h2 := hρ ix (by simp [Op.operands])
    show Fits E _ C t s (match E.und xt with
      | some .string => .val (idxG (ρ x) (ρ ix))
      | some (.array len elem) => .val (idxA E len elem (ρ x) (ρ ix))
      | _ => .val none)
    split
    · rename_i hd
      refine val_fit rfl fun v hv => ?_
      unfold idxG at hv
      split at hv
      case h_2 => cases hv
      rename_i b k i hx hix
      split at hv
      case isFalse => cases hv
      rename_i hi
      split at hv
      case h_2 => cases hv
      rename_i c hc
      cases hv
      have hrun : pureVal P (Instr.index xt (.string b) (.int k i)) = some (.int .u8 (c.toNat : Int)) := by
        show pureVal P (underlying xt >>= _) = _
        rw [pureVal_bind (pureVal_und (hE.und hd))]
        simp only [if_pos hi, hc]
        rfl
      have hpl := plain_ok (s := s) (c := operandsFlat (rho t) (.index xt x ix)) (x := pureVal E.P (execOp (rho t) ⟨dst, .index xt x ix, type, pos, after, guard⟩)) (v := .int .u8 (c.toNat : Int))
        (flat_ops fun z hz => by
          simp only [Op.operands, List.mem_toArray, List.mem_cons, List.not_mem_nil, or_false] at hz
          rcases hz with rfl | rfl
          · rw [h1, hx]; rfl
          · rw [h2, hix]; rfl) (by
          rw [hEP]
          show pureVal P (Instr.index xt (rho t x) (rho t ix) >>= fun v => pure (Next.value v)) = _
          rw [h1, h2, hx, hix, pureVal_bind hrun]
          rfl) rfl
      unfold aop
      simp only []
      rw [h1, h2, hx, hix]
      exact congrArg valOf hpl
    · rename_i len elem hd
      refine val_fit rfl fun v hv => ?_
      unfold idxA at hv
      split at hv
      case h_2 => cases hv
      rename_i cs k i hx hix
      unfold aop
      simp only []
      rw [h1, h2, hx, hix]
      simp only [hd]
      split at hv
      · rename_i n hn
        simp only [hn]
        split at hv
        · rename_i hc
          rw [if_pos hc]
          exact here_val hv
        · cases hv
      · cases hv
    · trivial
  case lookup ty x ix okb =>
    have h1 := hρ x (by simp [Op.operands])
    have h2 := hρ ix (by simp [Op.operands])
    refine val_fit rfl fun v hv => ?_
    rw [← h1, ← h2] at hv
    exact here_val hv
  case mapUpdate ty m k x =>
    have h1 := hρ m (by simp [Op.operands])
    have h2 := hρ k (by simp [Op.operands])
    have h3 := hρ x (by simp [Op.operands])
    refine eff_fit rfl fun r hr => ?_
    rw [← h1, ← h2, ← h3] at hr
    show (aupdate E s ty (rho t m) (rho t k) (rho t x)).map (fun s => (undef, s)) = _
    unfold skipF at hr
    cases hq : aupdate E s ty (rho t m) (rho t k) (rho t x) with
    | none => rw [hq] at hr; cases hr
    | some s1 => rw [hq] at hr; exact hr
  case range ty x =>
    have h1 := hρ x (by simp [Op.operands])
    show Fits E _ C t s (match E.und ty with
      | some .string => .eff (rangeG (ρ x) s)
      | _ => .eff none)
    split
    · rename_i hd
      refine eff_fit rfl fun r hr => ?_
      rw [← h1] at hr
      unfold rangeG at hr
      show (match E.und ty, rho t x with
        | some .string, .string b => some (Value.pointer (some ⟨s.id, 0, none⟩), s.new (.iter b 0))
        | _, _ => none) = _
      rw [hd]
      split at hr
      · rename_i hx
        rw [hx]
        exact hr
      · cases hr
    · trivial
  case next it b =>
    have h1 := hρ it (by simp [Op.operands])
    cases b with
    | false => trivial
    | true =>
      refine eff_fit rfl fun r hr => ?_
      rw [← h1] at hr
      exact hr
  case call c =>
    obtain ⟨callee, args, argTypes⟩ := c
    have hmem : ∀ z ∈ args, rho t z = ρ z := fun z hz => hρ z (by
      simp only [Op.operands, Call.operands]
      cases callee <;> simp [hz])
    have ha : args.toList.map ρ = args.toList.map (rho t) := List.map_congr_left fun z hz => (hmem z (by simpa using hz)).symm
    have hg : (getsOf args.toList).map (fun g => g.of t) = args.toList.map (rho t) := by
      unfold getsOf
      rw [List.map_map]
      rfl
    cases callee with
    | value f =>
      have h1 := hρ f (by simp [Op.operands, Call.operands])
      refine eff_fit (f := fun C t s => invokeF C ((getOf f).of t) ((getsOf args.toList).map fun g => g.of t) s) rfl fun r hr => ?_
      rw [hg, ← ha]
      show invokeF C (rho t f) _ s = _
      rw [h1]
      exact hr
    | invoke r name =>
      have h1 := hρ r (by simp [Op.operands, Call.operands])
      refine eff_fit (f := fun C t s => invokeG E C ((getOf r).of t) name ((getsOf args.toList).map fun g => g.of t) s) rfl fun r' hr => ?_
      rw [hg, ← ha]
      show invokeG E C (rho t r) name _ s = _
      rw [h1]
      exact hr
    | builtin b =>
      obtain ⟨args⟩ := args
      obtain ⟨ats⟩ := argTypes
      -- the general way
      have gen : ∀ (r : Option (Value × AS)), abuiltin E s b ats (args.map ρ) = r → (∀ v s', r = some (v, s') → aop E (rho t) ⟨dst, .call ⟨.builtin b, ⟨args⟩, ⟨ats⟩⟩, type, pos, after, guard⟩ s = some (v, s')) := by
        intro r hr v s' h
        subst h
        unfold aop
        simp only []
        rw [← (show args.map ρ = args.map (rho t) from ha), hr]
      have genV : ∀ v, valOf (abuiltin E s b ats (args.map ρ)) = some v → valOf (aop E (rho t) ⟨dst, .call ⟨.builtin b, ⟨args⟩, ⟨ats⟩⟩, type, pos, after, guard⟩ s) = some v := by
        intro v h
        cases hr : abuiltin E s b ats (args.map ρ) with
        | none => rw [hr] at h; cases h
        | some r =>
          obtain ⟨u, s'⟩ := r
          rw [hr] at h
          cases h
          rw [gen _ hr v s' rfl]
          rfl
      -- what asks nothing but the program
      have plain : ∀ v, abuiltin E s b ats (args.map (rho t)) = none → (∀ z ∈ args, flatV (ρ z) = true) → pureVal P (builtin b ⟨ats⟩ type ((⟨args⟩ : Array Operand).map fun | .const _ => true | _ => false) ⟨args.map (rho t)⟩) = some (.value v) → flatV v = true →
          valOf (aop E (rho t) ⟨dst, .call ⟨.builtin b, ⟨args⟩, ⟨ats⟩⟩, type, pos, after, guard⟩ s) = some v := by
        intro v hn hfl hp hfv
        have hpl := plain_ok (s := s) (c := operandsFlat (rho t) (.call ⟨.builtin b, ⟨args⟩, ⟨ats⟩⟩)) (x := pureVal E.P (execOp (rho t) ⟨dst, .call ⟨.builtin b, ⟨args⟩, ⟨ats⟩⟩, type, pos, after, guard⟩)) (v := v)
          (flat_ops fun z hz => by
            have hz' : z ∈ args := by simpa [Op.operands, Call.operands] using hz
            rw [hmem z (by simpa using hz')]
            exact hfl z hz') (by
            have e : (⟨args⟩ : Array Operand).map (rho t) = ⟨args.map (rho t)⟩ := by simp
            rw [hEP, ← hp]
            show pureVal P (builtin b ⟨ats⟩ type _ ((⟨args⟩ : Array Operand).map (rho t))) = _
            rw [e]
            rfl) hfv
        unfold aop
        simp only []
        rw [hn]
        exact congrArg valOf hpl
      have minmax : ∀ v, (b = .min ∨ b = .max) → quietG E s b ats (args.map ρ) = some v → valOf (aop E (rho t) ⟨dst, .call ⟨.builtin b, ⟨args⟩, ⟨ats⟩⟩, type, pos, after, guard⟩ s) = some v := by
        intro v hb hv
        match args, hb, hv, genV, plain, hmem with
        | [x, y], hb, hv, genV, plain, hmem =>
          have hx := hmem x (by simp)
          have hy := hmem y (by simp)
          have hq : ∃ k a k' c, ρ x = .int k a ∧ ρ y = .int k' c := by
            rcases hb with rfl | rfl
            · have hv' : minG (ρ x) (ρ y) = some v := hv
              unfold minG at hv'
              split at hv'
              · rename_i h1 h2; exact ⟨_, _, _, _, h1, h2⟩
              · cases hv'
            · have hv' : maxG (ρ x) (ρ y) = some v := hv
              unfold maxG at hv'
              split at hv'
              · rename_i h1 h2; exact ⟨_, _, _, _, h1, h2⟩
              · cases hv'
          obtain ⟨k, a, k', c, hx', hy'⟩ := hq
          have hvi : flatV v = true ∧ pureVal P (builtin b ⟨ats⟩ type ((⟨[x, y]⟩ : Array Operand).map fun | .const _ => true | _ => false) ⟨[x, y].map (rho t)⟩) = some (.value v) := by
            rcases hb with rfl | rfl
            · have hv' : minG (ρ x) (ρ y) = some v := hv
              rw [hx', hy'] at hv'
              cases hv'
              refine ⟨rfl, ?_⟩
              simp only [List.map_cons, List.map_nil, hx, hy, hx', hy']
              rfl
            · have hv' : maxG (ρ x) (ρ y) = some v := hv
              rw [hx', hy'] at hv'
              cases hv'
              refine ⟨rfl, ?_⟩
              simp only [List.map_cons, List.map_nil, hx, hy, hx', hy']
              rfl
          refine plain v (by rcases hb with rfl | rfl <;> (unfold abuiltin; simp)) (fun z hz => ?_) hvi.2 hvi.1
          simp only [List.mem_cons, List.not_mem_nil, or_false] at hz
          rcases hz with rfl | rfl
          · rw [hx']; rfl
          · rw [hy']; rfl
        | [], hb, hv, genV, plain, hmem => rcases hb with rfl | rfl <;> exact genV v hv
        | [_], hb, hv, genV, plain, hmem => rcases hb with rfl | rfl <;> exact genV v hv
        | _ :: _ :: _ :: _, hb, hv, genV, plain, hmem => rcases hb with rfl | rfl <;> exact genV v hv
      cases b
      case len =>
        match ats, args, genV, plain, hmem, ha with
        | u :: us, [x], genV, plain, hmem, ha =>
          have hx := hmem x (by simp)
          show Fits E _ C t s (match E.und u with
            | some (.slice _) => .val (lenG (ρ x))
            | some .string => .val (lenS (ρ x))
            | _ => .val none)
          split
          · rename_i el hd
            refine val_fit (f := fun t s => match rho t x with
              | .slice _ n _ => some (.int .i64 (.ofNat n))
              | _ => none) ?_ fun v hv => ?_
            · show (match E.und u with
                | some (.slice _) => _
                | _ => _) = _
              rw [hd]
              rfl
            · show (match rho t x with
                | .slice _ n _ => some (Value.int .i64 (.ofNat n))
                | _ => none) = some v
              rw [hx]
              unfold lenG at hv
              split at hv
              · rename_i hq; exact hv
              · cases hv
          · rename_i hd
            refine val_fit (f := fun t s => valOf (aop E (rho t) ⟨dst, .call ⟨.builtin .len, ⟨[x]⟩, ⟨u :: us⟩⟩, type, pos, after, guard⟩ s)) ?_ fun v hv => ?_
            · show (match E.und u with
                | some (.slice _) => _
                | _ => _) = _
              rw [hd]
            · unfold lenS at hv
              split at hv
              case h_2 => cases hv
              rename_i b' hb'
              cases hv
              refine plain _ ?_ (fun z hz => ?_) ?_ rfl
              · show abuiltin E s .len (u :: us) [rho t x] = none
                rw [hx, hb']
                rfl
              · simp only [List.mem_cons, List.not_mem_nil, or_false] at hz
                subst hz
                rw [hb']; rfl
              · show pureVal P (Builtin.len_ ⟨u :: us⟩ type ⟨[rho t x]⟩ >>= fun v => pure (Next.value v)) = _
                rw [hx, hb']
                have hl : pureVal P (Builtin.len_ ⟨u :: us⟩ type ⟨[.string b']⟩) = some (.int .i64 (b'.size : Int)) := by
                  show pureVal P (underlying u >>= _) = _
                  rw [pureVal_bind (pureVal_und (hE.und hd))]
                  rfl
                rw [pureVal_bind hl]
                rfl
          · trivial
        | [], _, genV, plain, hmem, ha => trivial
        | _ :: _, [], genV, plain, hmem, ha => trivial
        | _ :: _, _ :: _ :: _, genV, plain, hmem, ha => trivial
      case append =>
        match ats, args, gen, hmem, ha with
        | [u, w], [x, y], gen, hmem, ha =>
          have hx := hmem x (by simp)
          have hy := hmem y (by simp)
          refine eff_fit rfl fun r hr => ?_
          rw [← hx, ← hy] at hr
          exact hr
        | [], _, gen, hmem, ha => trivial
        | [_], _, gen, hmem, ha => trivial
        | _ :: _ :: _ :: _, _, gen, hmem, ha => trivial
        | [_, _], [], gen, hmem, ha => trivial
        | [_, _], [_], gen, hmem, ha => trivial
        | [_, _], _ :: _ :: _ :: _, gen, hmem, ha => trivial
      case min => exact val_fit rfl fun v hv => minmax v (.inl rfl) hv
      case max => exact val_fit rfl fun v hv => minmax v (.inr rfl) hv
      case cap => exact val_fit rfl fun v hv => genV v hv
      all_goals exact eff_fit rfl fun r hr => gen _ hr r.1 r.2 rfl
  all_goals trivial
end Go.AE
