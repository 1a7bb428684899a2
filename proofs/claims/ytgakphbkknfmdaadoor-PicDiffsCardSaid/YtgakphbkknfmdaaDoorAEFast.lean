import Derived.Test.YtgakphbkknfmdaaDoorAEState
set_option linter.all false
set_option linter.unusedSimpArgs false
set_option linter.unusedVariables false
set_option autoImplicit false
namespace Go.AE

/-! The evaluator, by closures: each operation of the program's text is turned, once, into a function. -/
abbrev T := Tr Value
inductive Get where
  | slot (p : List D8)
  | const (v : Value)

noncomputable def getOf : Operand → Get
  | .tmp i => .slot (bits i)
  | .const v => .const v
  | .global g => .const (.pointer (some ⟨g, 0, none⟩))
  | .func f => .const (.func (.func f) #[] #[])
noncomputable def Get.of (t : T) (g : Get) : Value := Get.rec (motive := fun _ => Value) (fun p => T.at t p) (fun v => v) g
noncomputable def rho (t : T) (x : Operand) : Value := (getOf x).of t

section force
variable {R : Type}
def forceI (i : Int) (k : Int → R) : R :=
  match i with
  | .ofNat m => forceN m fun m => k (.ofNat m)
  | .negSucc m => forceN m fun m => k (.negSucc m)
noncomputable def forceL {α : Type} (l : List α) : (List α → R) → R :=
  List.rec (motive := fun _ => (List α → R) → R) (fun k => k []) (fun x _ ih k => ih fun l => k (x :: l)) l
def forceVs (f : Value → (Value → R) → R) : List Value → (List Value → R) → R
  | [], k => k []
  | x :: l, k => f x fun x => forceVs f l fun l => k (x :: l)
def forceA (a : Addr) (k : Addr → R) : R :=
  match a with
  | ⟨b, o, s⟩ => forceN b fun b => forceN o fun o => match s with
    | none => k ⟨b, o, none⟩
    | some x => k ⟨b, o, some x⟩
def forceV : Nat → Value → (Value → R) → R
  | 0, v, k => k v
  | d + 1, v, k =>
    match v with
    | .int kd n => forceI n fun n => k (.int kd n)
    | .bool b => match b with
      | true => k (.bool true)
      | false => k (.bool false)
    | .pointer (some a) => forceA a fun a => k (.pointer (some a))
    | .slice none l c => forceN l fun l => forceN c fun c => k (.slice none l c)
    | .slice (some a) l c => forceA a fun a => forceN l fun l => forceN c fun c => k (.slice (some a) l c)
    | .map (some r) => forceN r fun r => k (.map (some r))
    | .agg ⟨l⟩ => forceVs (forceV d) l fun l => k (.agg ⟨l⟩)
    | .tuple ⟨l⟩ => forceVs (forceV d) l fun l => k (.tuple ⟨l⟩)
    | .iface t v => forceN t fun t => forceV d v fun v => k (.iface t v)
    | .func f ⟨a⟩ ⟨b⟩ => match f with
      | .func f => forceN f fun f => forceVs (forceV d) a fun a => forceVs (forceV d) b fun b => k (.func (.func f) ⟨a⟩ ⟨b⟩)
      | .yield f => forceN f fun f => forceVs (forceV d) a fun a => forceVs (forceV d) b fun b => k (.func (.yield f) ⟨a⟩ ⟨b⟩)
      | f => k (.func f ⟨a⟩ ⟨b⟩)
    | v => k v
/-- The same, for the plain shapes first. -/
noncomputable def forceT (v : Value) (k : Value → R) : R :=
  @Value.casesOn (fun _ => R) v
    (fun b => Bool.rec (motive := fun _ => R) (k (.bool false)) (k (.bool true)) b)
    (fun kd n => Int.rec (motive := fun _ => R) (fun m => forceN m fun m => k (.int kd (.ofNat m))) (fun m => forceN m fun m => k (.int kd (.negSucc m))) n)
    (fun kd b => k (.float kd b))
    (fun kd a b => k (.complex kd a b))
    (fun s => k (.string s))
    (fun a => forceV 1 (.pointer a) k)
    (fun a l c => forceV 1 (.slice a l c) k)
    (fun a => forceV 1 (.map a) k)
    (fun a => k (.chan a))
    (fun f a b => forceV 4 (.func f a b) k)
    (k .nilFunc)
    (fun t v => forceV 4 (.iface t v) k)
    (k .nilIface)
    (fun l => forceV 4 (.agg l) k)
    (fun l => forceV 4 (.tuple l) k)
noncomputable def forceO (o : Option AObj) (k : Option AObj → R) : R :=
  match o with
  | none => k none
  | some o => match o with
    | .row own e cells lo hi => match own with
      | true => forceN e fun e => forceL cells fun cells => forceN lo fun lo => forceN hi fun hi => k (some (.row true e cells lo hi))
      | false => k (some (.row false e cells lo hi))
    | .map es clock => forceL es fun es => forceN clock fun clock => k (some (.map es clock))
    | .iter s pos => forceN pos fun pos => k (some (.iter s pos))
    | o => k (some o)
noncomputable def putLog : List (Nat × Option AObj) → Tr AObj → (Tr AObj → R) → R
  | [], h, k => k h
  | (j, o) :: r, h, k => putLog r h fun h => forceO o fun o => Tr.setK o (bits j) h k
noncomputable def AS.commit (s : AS) (k : AS → R) : R :=
  match s with
  | ⟨n, h, log, p⟩ => match log with
    | [] => k ⟨n, h, [], p⟩
    | x :: l => forceN n fun n => putLog (x :: l) h fun h => match p with
      | none => k ⟨n, h, [], none⟩
      | some p => forceN p fun p => k ⟨n, h, [], some p⟩
end force

/-- What comes of code: how it is left; the temporaries; the marks; the state. -/
inductive Out where
  | bad
  | ok (x : AX) (t : T) (ms : List Nat) (s : AS)

structure Calls where
  call : FuncId → List Value → AS → Option (Value × AS)
  yield : Nat → List Value → AS → Option (Value × AS)

def invokeF (C : Calls) (f : Value) (args : List Value) (s : AS) : Option (Value × AS) :=
  match f with
  | .func (.func g) ⟨first⟩ ⟨cap⟩ => C.call g (first ++ args ++ cap) s
  | .func (.yield l) ⟨first⟩ _ => match first with
    | [] => C.yield l args s
    | _ => none
  | _ => none

def methodF (E : Env) (u : TypeId) (v : Value) (name : String) : Option FuncId := do
  let i ← E.ti u
  let m ← i.methods.toList.find? (·.name == name)
  if m.path.size ≠ 0 then none else
  match m.func, ← E.und u with
  | some (f, true), .pointer _ => some f
  | some (f, false), .pointer _ => none
  | some (f, false), _ => some f
  | _, _ => none

/-- One operation, turned into a function. -/
inductive OFn where
  /-- What lies in a slot. -/
  | copy (p : List D8)
  /-- A value; the state stays. -/
  | val (f : T → AS → Option Value)
  | eff (f : Calls → T → AS → Option (Value × AS))
noncomputable def OFn.run (f : OFn) (C : Calls) (t : T) (s : AS) : Option (Value × AS) :=
  match f with
  | .copy p => some (T.at t p, s)
  | .val f => match f t s with
    | some v => some (v, s)
    | none => none
  | .eff f => f C t s

noncomputable def getsOf (l : List Operand) : List Get := l.map getOf

/-- The number of a kind. -/
def kindNo : IntKind → Nat
  | .i8 => 0 | .i16 => 1 | .i32 => 2 | .i64 => 3 | .u8 => 4 | .u16 => 5 | .u32 => 6 | .u64 => 7
/-- Up to where a kind's numbers go: nonnegative ones, and -1 - m. -/
def kindTop : IntKind → Nat
  | .i8 => 128 | .i16 => 32768 | .i32 => 2147483648 | .i64 => 9223372036854775808
  | .u8 => 256 | .u16 => 65536 | .u32 => 4294967296 | .u64 => 18446744073709551616
def kindLow : IntKind → Nat
  | .i8 => 128 | .i16 => 32768 | .i32 => 2147483648 | .i64 => 9223372036854775808
  | _ => 0
def wrapF (k : IntKind) (n : Int) : Int :=
  match n with
  | .ofNat m => match Nat.blt m (kindTop k) with
    | true => .ofNat m
    | false => k.wrap (.ofNat m)
  | .negSucc m => match Nat.blt m (kindLow k) with
    | true => .negSucc m
    | false => k.wrap (.negSucc m)
def ltF (a b : Int) : Bool :=
  match a, b with
  | .ofNat m, .ofNat n => Nat.blt m n
  | .ofNat _, .negSucc _ => false
  | .negSucc _, .ofNat _ => true
  | .negSucc m, .negSucc n => Nat.blt n m
def eqF (a b : Int) : Bool :=
  match a, b with
  | .ofNat m, .ofNat n => Nat.beq m n
  | .ofNat _, .negSucc _ => false
  | .negSucc _, .ofNat _ => false
  | .negSucc m, .negSucc n => Nat.beq m n

/-- Numbers of one kind. -/
structure IFn where
  run : IntKind → Int → Int → Value
def intFn : BinOp → Option IFn
  | .add => some ⟨fun k a b => .int k (wrapF k (a + b))⟩
  | .sub => some ⟨fun k a b => .int k (wrapF k (a - b))⟩
  | .mul => some ⟨fun k a b => .int k (wrapF k (a * b))⟩
  | .eql => some ⟨fun _ a b => .bool (eqF a b)⟩
  | .neq => some ⟨fun _ a b => .bool (!eqF a b)⟩
  | .lss => some ⟨fun _ a b => .bool (ltF a b)⟩
  | .gtr => some ⟨fun _ a b => .bool (ltF b a)⟩
  | .leq => some ⟨fun _ a b => .bool (!ltF b a)⟩
  | .geq => some ⟨fun _ a b => .bool (!ltF a b)⟩
  | _ => none

def skipF (s : Option AS) : Option (Value × AS) :=
  match s with
  | some s => some (undef, s)
  | none => none
def hereF (v : Option Value) (s : AS) : Option (Value × AS) :=
  match v with
  | some v => some (v, s)
  | none => none

def valOf (r : Option (Value × AS)) : Option Value :=
  match r with
  | some (v, _) => some v
  | none => none
def quietB : Builtin → Bool
  | .len | .cap | .min | .max => true
  | _ => false
/-- Does an operation leave the state as it is? -/
def quietOp : Op → Bool
  | .pick _ _ _ | .build _ _ | .unOp _ _ _ | .binOp _ _ _ _ _ | .makeInterface _ _ | .makeFunc _ _ _ | .slice _ _ _ _ _ | .field _ _ _ | .index _ _ _ | .lookup _ _ _ _ | .typeAssert _ _ _ _ => true
  | .call c => match c.callee with
    | .builtin b => quietB b
    | _ => false
  | _ => false

noncomputable def opFn (E : Env) (o : Oper) : OFn :=
  match o.op with
  | .move x | .assign x => match getOf x with
    | .slot p => .copy p
    | .const v => .val fun _ _ => some v
  | .alloc e => match E.zero e with
    | none => .val fun _ _ => none
    | some z => .eff fun _ _ s => newRow E s e (vcells z)
  | .box e x => .eff fun _ t s => newRow E s e (vcells ((getOf x).of t))
  | .load ty a => match E.und ty with
    | none => .val fun _ _ => none
    | some d => match isAggD d with
      | true => .val fun t s => match (getOf a).of t with
        | .pointer (some a) => aload E s ty a
        | _ => none
      | false => .val fun t s => match (getOf a).of t with
        | .pointer (some ⟨b, off, none⟩) => match s.get b with
          | some (.row _ _ cells _ _) => cells[off]?
          | _ => none
        | _ => none
  | .store ty a x => .eff fun _ t s => match (getOf a).of t with
    | .pointer (some a) => skipF (astore E s ty a ((getOf x).of t))
    | _ => none
  | .nilCheck x => .val fun t _ => match (getOf x).of t with
    | .pointer (some a) => some (.pointer (some a))
    | .func (.func f) first cap => some (.func (.func f) first cap)
    | .func (.yield f) first cap => some (.func (.yield f) first cap)
    | .slice a n c => some (.slice a n c)
    | .iface u v => some (.iface u v)
    | _ => none
  | .binOp op _ x y _ => match intFn op with
    | some f => .val fun t s => match (getOf x).of t, (getOf y).of t with
      | .int k a, .int k' b => match Nat.beq (kindNo k) (kindNo k') with
        | true => some (f.run k a b)
        | false => none
      | _, _ => valOf (aop E (rho t) o s)
    | none => .val fun t s => valOf (aop E (rho t) o s)
  | .convert src dst x => match E.und src, E.und dst with
    | some _, some (.int k) => .val fun t s => match (getOf x).of t with
      | .int _ n => some (.int k (wrapF k n))
      | _ => none
    | some (.slice _), some .string => .val fun t s => valOf (aconvert E s src dst ((getOf x).of t))
    | _, _ => .eff fun _ t s => aop E (rho t) o s
  | .fieldAddr ty x f => .val fun t _ => afieldAddr E ty ((getOf x).of t) f
  | .indexAddr ty x ix => .val fun t _ => aindexAddr E ty ((getOf x).of t) ((getOf ix).of t)
  | .extract x i => .val fun t _ => match (getOf x).of t with
    | .tuple vs => vs.toList[i]?
    | _ => none
  | .call c => match c.callee with
    | .value f => .eff fun C t s => invokeF C ((getOf f).of t) ((getsOf c.args.toList).map fun g => g.of t) s
    | .invoke r name => .eff fun C t s => match (getOf r).of t with
      | .iface u v => match methodF E u v name with
        | some f => C.call f (v :: (getsOf c.args.toList).map fun g => g.of t) s
        | none => none
      | _ => none
    | .builtin b => match b, c.argTypes.toList, c.args.toList with
      | .len, t :: _, [x] => match E.und t with
        | some (.slice _) => .val fun t _ => match (getOf x).of t with
          | .slice _ n _ => some (.int .i64 (.ofNat n))
          | _ => none
        | _ => .val fun t s => valOf (aop E (rho t) o s)
      | .append, [t, u], [x, y] => .eff fun _ r s => aappend E s t u ((getOf x).of r) ((getOf y).of r)
      | _, _, _ => match quietB b with
        | true => .val fun t s => valOf (aop E (rho t) o s)
        | false => .eff fun _ t s => aop E (rho t) o s
  | op => match quietOp op with
    | true => .val fun t s => valOf (aop E (rho t) o s)
    | false => .eff fun _ t s => aop E (rho t) o s

structure Step where
  run : Calls → T → AS → (T → AS → Out) → Out

noncomputable def guardOf (ops : List Oper) (o : Oper) : Option (Option (List D8) × Bool) :=
  match o.guard with
  | none => none
  | some (j, want) => match (ops[j]?).bind (·.dst) with
    | some d => some (some (bits d), want)
    | none => some (none, want)

noncomputable def wantsF (g : Option (Option (List D8) × Bool)) (t : T) : Bool :=
  match g with
  | none => true
  | some (some p, want) => match T.at t p with
    | .bool b => match b with
      | true => want
      | false => !want
    | _ => false
  | some (none, _) => false

/-- The value is kept; on. -/
noncomputable def keep (d : Option Tmp) (v : Value) (t : T) (s : AS) (k : T → AS → Out) : Out :=
  match d with
  | some d => forceT v fun v => Tr.setK (some v) (bits d) t fun t => k t s
  | none => k t s
noncomputable def doFn (f : OFn) (d : Option Tmp) : Step :=
  match f with
  | .copy p => match d with
    | some d => ⟨fun _ t s k => Option.rec (motive := fun _ => Out) (Tr.setK (some undef) (bits d) t fun t => k t s) (fun v => Tr.setK (some v) (bits d) t fun t => k t s) (Tr.get p t)⟩
    | none => ⟨fun _ t s k => k t s⟩
  | .val f => match d with
    | some d => ⟨fun _ t s k => Option.rec (motive := fun _ => Out) .bad (fun v => forceT v fun v => Tr.setK (some v) (bits d) t fun t => k t s) (f t s)⟩
    | none => ⟨fun _ t s k => Option.rec (motive := fun _ => Out) .bad (fun _ => k t s) (f t s)⟩
  | .eff f => match d with
    | some d => ⟨fun C t s k => Option.rec (motive := fun _ => Out) .bad (fun r => Prod.rec (motive := fun _ => Out) (fun v s1 => forceT v fun v => s1.commit fun s1 => Tr.setK (some v) (bits d) t fun t => k t s1) r) (f C t s)⟩
    | none => ⟨fun C t s k => Option.rec (motive := fun _ => Out) .bad (fun r => Prod.rec (motive := fun _ => Out) (fun _ s1 => s1.commit fun s1 => k t s1) r) (f C t s)⟩
noncomputable def stepFn (E : Env) (ops : List Oper) (o : Oper) : Step :=
  match guardOf ops o with
  | none => doFn (opFn E o) o.dst
  | some g => ⟨fun C t s k => match wantsF (some g) t with
    | true => (doFn (opFn E o) o.dst).run C t s k
    | false => keep o.dst undef t s k⟩

noncomputable def regionFn (E : Env) (ops : List Oper) (l : List Oper) : Step :=
  List.rec (motive := fun _ => Step) ⟨fun _ t s k => k t s⟩ (fun o _ ih => ⟨fun C t s k => (stepFn E ops o).run C t s fun t s => ih.run C t s k⟩) l

/-- Is an operand's slot among the first N; its constant without an address? -/
def okOperand (N G : Nat) : Operand → Bool
  | .tmp i => Nat.blt i N
  | .const v => flatV v
  | .global g => Nat.blt g G
  | .func _ => true
def isDefer : Op → Bool
  | .defer _ => true
  | _ => false
/-- Are the slots among the first N? -/
def okOper (N G : Nat) (o : Oper) : Bool :=
  (match o.dst with
    | none => true
    | some d => Nat.blt d N) && o.op.operands.toList.all (okOperand N G) && !isDefer o.op

/-! ### A region that draws its order -/
def isEff : OFn → Bool
  | .eff _ => true
  | _ => false
/-- An operation's value, and the state behind it; one that is not wanted: none. -/
noncomputable def stepV (E : Env) (ops : List Oper) (o : Oper) (C : Calls) (t : T) (s : AS) : Option (Value × AS) :=
  match guardOf ops o with
  | none => (opFn E o).run C t s
  | some g => match wantsF (some g) t with
    | true => (opFn E o).run C t s
    | false => some (undef, s)

def sameL (f : Value → Value → Bool) : List Value → List Value → Bool
  | [], [] => true
  | x :: l, y :: r => f x y && sameL f l r
  | _, _ => false
def sameA (a b : Addr) : Bool :=
  match a, b with
  | ⟨b1, o1, none⟩, ⟨b2, o2, none⟩ => Nat.beq b1 b2 && Nat.beq o1 o2
  | _, _ => false
def sameV : Nat → Value → Value → Bool
  | 0, _, _ => false
  | d + 1, x, y => match x, y with
    | .bool a, .bool b => match a, b with
      | true, true => true
      | false, false => true
      | _, _ => false
    | .int k a, .int k' b => Nat.beq (kindNo k) (kindNo k') && eqF a b
    | .string a, .string b => decide (a = b)
    | .pointer none, .pointer none => true
    | .pointer (some a), .pointer (some b) => sameA a b
    | .slice none l c, .slice none l' c' => Nat.beq l l' && Nat.beq c c'
    | .slice (some a) l c, .slice (some a') l' c' => sameA a a' && (Nat.beq l l' && Nat.beq c c')
    | .map none, .map none => true
    | .map (some a), .map (some b) => Nat.beq a b
    | .func (.func f) ⟨a⟩ ⟨b⟩, .func (.func f') ⟨a'⟩ ⟨b'⟩ => Nat.beq f f' && (sameL (sameV d) a a' && sameL (sameV d) b b')
    | .nilFunc, .nilFunc => true
    | .iface t v, .iface t' v' => Nat.beq t t' && sameV d v v'
    | .nilIface, .nilIface => true
    | .agg ⟨a⟩, .agg ⟨b⟩ => sameL (sameV d) a b
    | .tuple ⟨a⟩, .tuple ⟨b⟩ => sameL (sameV d) a b
    | _, _ => false

/-- The operations that are before one, as a mask. -/
def maskOf (acc : List Nat) : List Edge → Nat
  | [] => 0
  | e :: es => match Region.binds .any e with
    | true => (2 ^ e.on ||| acc.getD e.on 0) ||| maskOf acc es
    | false => maskOf acc es
def masksGo : List Oper → List Nat → List Nat
  | [], acc => acc
  | o :: l, acc => masksGo l (acc ++ [maskOf acc o.after.toList])
def masks (ops : List Oper) : List Nat := masksGo ops []
def edgesBack (i : Nat) : List Edge → Bool
  | [] => true
  | e :: es => (match Region.binds .any e with
    | true => Nat.blt e.on i
    | false => true) && edgesBack i es
def tmpsOf : List Operand → List Tmp
  | [] => []
  | .tmp i :: l => i :: tmpsOf l
  | _ :: l => tmpsOf l
/-- The slots that an operation reads. -/
def readsOf (ops : List Oper) (o : Oper) : List Tmp :=
  tmpsOf o.op.operands.toList ++ (match o.guard with
    | none => []
    | some (j, _) => match (ops[j]?).bind (·.dst) with
      | some d => [d]
      | none => [])
def dstIn (d : Option Tmp) (l : List Tmp) : Bool :=
  match d with
  | some d => l.any fun x => Nat.beq d x
  | none => false
/-- Does an operation lay one new object, and no more? -/
def isFloat : Op → Bool
  | .alloc _ | .box _ _ | .buildSlice _ _ _ | .makeSlice _ _ _ => true
  | _ => false
/-- May an operation change what was there? -/
noncomputable def isChain (E : Env) (o : Oper) : Bool := isEff (opFn E o) && !isFloat o.op
/-- Must one of two operations come before the other? -/
noncomputable def related (E : Env) (ops : List Oper) (o q : Oper) : Bool :=
  (isChain E o && isChain E q) || (dstIn q.dst (readsOf ops o) || dstIn o.dst (readsOf ops q))
def sameDst (a b : Option Tmp) : Bool :=
  match a, b with
  | some a, some b => Nat.beq a b
  | _, _ => false
/-- An operation at its place in the text, with the mask of those before it. -/
structure Item where
  i : Nat
  o : Oper
  m : Nat
def itemsGo : Nat → List (Oper × Nat) → List Item
  | _, [] => []
  | i, (o, m) :: l => ⟨i, o, m⟩ :: itemsGo (i + 1) l
def backAll : Nat → List Oper → Bool
  | _, [] => true
  | i, o :: l => edgesBack i o.after.toList && backAll (i + 1) l
def isReady (done : List Nat) : List Edge → Bool
  | [] => true
  | e :: es => (match Region.binds .any e with
    | true => done.any fun d => Nat.beq d e.on
    | false => true) && isReady done es
/-- The first item that is ready and of the wished kind, and the rest. -/
noncomputable def takeOne (E : Env) (chain : Bool) (done : List Nat) : List Item → Option (Item × List Item)
  | [] => none
  | x :: l => match (isChain E x.o == chain) && isReady done x.o.after.toList with
    | true => some (x, l)
    | false => match takeOne E chain done l with
      | some (y, r) => some (y, x :: r)
      | none => none
/-- The order 'as soon as possible'. -/
noncomputable def asap (E : Env) : Nat → List Nat → List Item → List Item
  | 0, _, _ => []
  | n + 1, done, l => match takeOne E false done l with
    | some (x, r) => x :: asap E n (x.i :: done) r
    | none => match takeOne E true done l with
      | some (x, r) => x :: asap E n (x.i :: done) r
      | none => []
noncomputable def canon (E : Env) (ops : List Oper) : List Item := asap E ops.length [] (itemsGo 0 (ops.zip (masks ops)))
/-- An item against those behind it. -/
noncomputable def pairsOk (E : Env) (ops : List Oper) (x : Item) : List Item → Bool
  | [] => true
  | y :: l => (!Nat.beq x.i y.i && (!sameDst x.o.dst y.o.dst && (!Nat.testBit x.m y.i && ((!(related E ops x.o y.o || (isChain E x.o && !isChain E y.o))) || Nat.testBit y.m x.i)))) && pairsOk E ops x l
noncomputable def allPairs (E : Env) (ops : List Oper) : List Item → Bool
  | [] => true
  | x :: l => pairsOk E ops x l && allPairs E ops l
/-- May the operations of a region be taken in whatever order? -/
noncomputable def drawOk (E : Env) (ops : List Oper) : Bool := backAll 0 ops && ((List.range ops.length).all (fun p => (canon E ops).any fun x => Nat.beq x.i p) && allPairs E ops (canon E ops))

/-- The operations that may change the state. -/
noncomputable def chainOf (E : Env) : List Item → List Item
  | [] => []
  | x :: l => match isChain E x.o with
    | true => x :: chainOf E l
    | false => chainOf E l
/-- Operations that look at no state. -/
def pureOp : Op → Bool
  | .move _ | .assign _ | .nilCheck _ | .fieldAddr _ _ _ | .indexAddr _ _ _ | .extract _ _ | .pick _ _ _ | .build _ _ | .makeInterface _ _ | .makeFunc _ _ _ | .field _ _ _ | .index _ _ _ | .unOp _ _ _ => true
  | .binOp op _ _ _ _ => match op with
    | .eql | .neq => false
    | _ => true
  | _ => false
def pureO (E : Env) (op : Op) : Bool :=
  match op with
  | .convert _ dst _ => match E.und dst with
    | some (.int _) => true
    | _ => false
  | op => pureOp op
/-- Is a new object laid ahead of the next chain operation? -/
noncomputable def floatsAhead (E : Env) : List Item → Bool
  | [] => false
  | x :: l => match isChain E x.o with
    | true => false
    | false => isFloat x.o.op || floatsAhead E l
/-- At which states each operation is to be tried. -/
noncomputable def infoGo (E : Env) (ks : List Item) : Nat → List Item → List (List Nat)
  | _, [] => []
  | own, x :: l => match isChain E x.o with
    | true => [] :: infoGo E ks (own + 1) l
    | false => (match !isEff (opFn E x.o) && pureO E x.o.op with
      | true => []
      | false => (List.range (ks.length + 1)).filter fun j => Nat.ble own j && ((Nat.blt own j || (!isFloat x.o.op && floatsAhead E l)) && (ks.take j).all fun k => !Nat.testBit k.m x.i)) :: infoGo E ks own l
noncomputable def drawInfo (E : Env) (ops : List Oper) : List (List Nat) := infoGo E (chainOf E (canon E ops)) 0 (canon E ops)

noncomputable def putF {R : Type} (d : Option Tmp) (v : Value) (t : T) (k : T → R) : R :=
  match d with
  | some d => Tr.setK (some v) (bits d) t k
  | none => k t
/-- What is kept of an operation of the text: the slots before it, its value, the number that its object has. -/
structure DRec where
  t : T
  v : Value
  id : Nat
/-- The region in that order; the states before each operation that may change something, and the last. -/
noncomputable def drawText (E : Env) (ops : List Oper) (C : Calls) : List Item → T → AS → List DRec → List AS → Option (T × List DRec × List AS × AS)
  | [], t, s, rs, ss => some (t, rs.reverse, (s :: ss).reverse, s)
  | x :: l, t, s, rs, ss => match stepV E ops x.o C t s with
    | none => none
    | some (v, s1) => forceT v fun v => match isEff (opFn E x.o) with
      | true => s1.commit fun s1 => match s1.pick with
        | some _ => none
        | none => putF x.o.dst v t fun t1 => drawText E ops C l t1 s1 (⟨t, v, s.next⟩ :: rs) (match isFloat x.o.op with
          | true => ss
          | false => s :: ss)
      | false => putF x.o.dst v t fun t1 => drawText E ops C l t1 s (⟨t, v, s.next⟩ :: rs) ss
def sameObj (a b : Option AObj) : Bool :=
  match a, b with
  | some (.row true e cells lo hi), some (.row true e' cells' lo' hi') => Nat.beq e e' && (sameL (sameV 6) cells cells' && (Nat.beq lo lo' && Nat.beq hi hi'))
  | _, _ => false
noncomputable def retry (E : Env) (ops : List Oper) (C : Calls) (o : Oper) (r : DRec) (s : AS) : Bool :=
  match wantsF (guardOf ops o) r.t with
  | false => true
  | true => match isFloat o.op with
    | true => match (opFn E o).run C r.t ⟨s.next, s.heap, s.log, some r.id⟩ with
      | none => false
      | some (u, s1) => sameV 6 u r.v && sameObj (s1.get r.id) (s.get r.id)
    | false => match (opFn E o).run C r.t s with
      | none => false
      | some (u, _) => sameV 6 u r.v
noncomputable def recheck (E : Env) (ops : List Oper) (C : Calls) (o : Oper) (r : DRec) (ss : List AS) : List Nat → Bool
  | [] => true
  | j :: js => match ss[j]? with
    | none => false
    | some s => match retry E ops C o r s with
      | true => recheck E ops C o r ss js
      | false => false
noncomputable def recheckAll (E : Env) (ops : List Oper) (C : Calls) (ss : List AS) : List Item → List DRec → List (List Nat) → Bool
  | [], [], [] => true
  | x :: l, r :: rs, js :: is => match recheck E ops C x.o r ss js with
    | true => recheckAll E ops C ss l rs is
    | false => false
  | _, _, _ => false
noncomputable def drawFn (E : Env) (ops : List Oper) : Step := ⟨fun C t s k =>
  match s.pick with
  | some _ => .bad
  | none => match drawText E ops C (canon E ops) t s [] [] with
    | none => .bad
    | some (t1, rs, ss, s1) => match recheckAll E ops C ss (canon E ops) rs (drawInfo E ops) with
      | true => k t1 s1
      | false => .bad⟩

def okOpt (N : Nat) (d : Tmp) : Bool := Nat.blt d N
/-- Is the code's every slot among the first N? -/
noncomputable def okCode (E : Env) (N : Nat) (c : Code) : Bool :=
  Code.rec (motive := fun _ => Bool)
    true
    (fun _ ops draw => match draw with
      | true => ops.toList.all (okOper N E.glob) && drawOk E ops.toList
      | false => ops.toList.all (okOper N E.glob))
    (fun _ _ x y => x && y)
    (fun c _ _ x y => okOperand N E.glob c && (x && y))
    (fun _ _ x => x)
    (fun _ x => x)
    (fun f params _ _ x y => okOperand N E.glob f && (params.toList.all (okOpt N) && (x && y)))
    (fun _ => true)
    (fun _ _ => true)
    (fun _ => true)
    (fun _ => true)
    true
    (fun _ => true)
    c

structure CFn where
  run : Nat → Calls → Option Nat → T → List Nat → AS → Out

def loopF (f : T → List Nat → AS → Out) (n : Nat) : T → List Nat → AS → Out :=
  Nat.rec (fun _ _ _ => .bad) (fun _ ih t ms s => match f t ms s with
    | .ok .normal t ms s => ih t ms s
    | r => r) n

def jumpOf : AX → Option Code
  | .normal => none
  | .exit id => some (.exit id)
  | .ret => some .ret

def hasBody (E : Env) (f : Value) : Bool :=
  match f with
  | .func (.func g) _ _ => match E.fn g with
    | some fn => match fn.body with
      | some _ => true
      | none => false
    | none => false
  | _ => false

/-- The block for the rounds' deferred calls: the outer loop's, or a new one with its mark. -/
noncomputable def around (r : Option Nat) (ms : List Nat) (s : AS) : Option (Nat × List Nat × AS) :=
  match r with
  | some l => match s.get l with
    | some (.loop _ _ _ _ _ _ d) => some (d, ms, s)
    | _ => none
  | none => some (s.id, s.id :: ms, s.new (.deferred true))

noncomputable def rangeF (E : Env) (f : Get) (params : Array Tmp) (assign body : Code) (C : Calls) (round : Option Nat) (t : T) (ms : List Nat) (s : AS) : Out :=
  match around round ms s with
  | none => .bad
  | some (d, ms, s1) =>
    let l := s1.id
    forceN l fun l =>
    (s1.new (.loop .ready none t params assign body d)).commit fun s2 =>
    match hasBody E (f.of t) with
    | false => .bad
    | true =>
    match invokeF C (f.of t) [.func (.yield l) #[] #[]] s2 with
    | none => .bad
    | some (_, s3) =>
      match s3.get l with
      | some (.loop st pending t0 ps as b dd) =>
        match st with
        | .busy => .bad
        | _ =>
          (s3.set l (some (.loop .exhausted pending t0 ps as b dd))).commit fun s4 =>
          match pending with
          | none => .ok .normal t ms s4
          | some .ret => .ok .ret t ms s4
          | some (.exit id) => .ok (.exit id) t ms s4
          | _ => .bad
      | _ => .bad

noncomputable def codeFn (E : Env) (c : Code) : CFn :=
  Code.rec (motive := fun _ => CFn)
    ⟨fun _ _ _ t ms s => .ok .normal t ms s⟩
    (fun _ ops draw => match draw with
      | true => ⟨fun _ C _ t ms s => (drawFn E ops.toList).run C t s fun t s => .ok .normal t ms s⟩
      | false => ⟨fun _ C _ t ms s => (regionFn E ops.toList ops.toList).run C t s fun t s => .ok .normal t ms s⟩)
    (fun _ _ x y => ⟨fun n C r t ms s => match x.run n C r t ms s with
      | .ok .normal t ms s => y.run n C r t ms s
      | r => r⟩)
    (fun c _ _ x y => ⟨fun n C r t ms s => match (getOf c).of t with
      | .bool true => x.run n C r t ms s
      | .bool false => y.run n C r t ms s
      | _ => .bad⟩)
    (fun id _ x => ⟨fun n C r t ms s => match x.run n C r t ms s with
      | .ok (.exit j) t ms s => match Nat.beq j id with
        | true => .ok .normal t ms s
        | false => .ok (.exit j) t ms s
      | r => r⟩)
    (fun _ x => ⟨fun n C r t ms s => loopF (x.run n C r) n t ms s⟩)
    (fun f params assign body _ _ => ⟨fun _ C r t ms s => rangeF E (getOf f) params assign body C r t ms s⟩)
    (fun id => ⟨fun _ _ _ t ms s => .ok (.exit id) t ms s⟩)
    (fun _ _ => ⟨fun _ _ _ _ _ _ => .bad⟩)
    (fun _ => ⟨fun _ _ _ t ms s => .ok .normal t ms s⟩)
    (fun _ => ⟨fun _ _ _ _ _ _ => .bad⟩)
    ⟨fun _ _ _ t ms s => .ok .ret t ms s⟩
    (fun _ => ⟨fun _ _ _ _ _ _ => .bad⟩)
    c

section
variable {R : Type}
noncomputable def putArgs : Nat → List Value → T → (T → R) → R
  | _, [], t, k => k t
  | i, v :: l, t, k => forceT v fun v => Tr.setK (some v) (bits i) t fun t => putArgs (i + 1) l t k
noncomputable def putParams : List Tmp → List Value → T → (Option T → R) → R
  | [], [], t, k => k (some t)
  | i :: is, v :: l, t, k => forceT v fun v => Tr.setK (some v) (bits i) t fun t => putParams is l t k
  | _, _, _, k => k none
end

noncomputable def resultsF (E : Env) (t : T) (s : AS) : List ResultVar → Option (List Value)
  | [] => some []
  | .tmp i :: r => match resultsF E t s r with
    | some l => some (T.at t (bits i) :: l)
    | none => none
  | .cell p ty :: r => match T.at t (bits p) with
    | .pointer (some q) => match aload E s ty q with
      | some v => match resultsF E t s r with
        | some l => some (v :: l)
        | none => none
      | none => none
    | _ => none

def resultOf : List Value → Value
  | [v] => v
  | l => .tuple ⟨l⟩

/-- The deferred calls of the loops are taken over: there are none. -/
noncomputable def shut : List Nat → AS → Option AS
  | [], s => some s
  | m :: l, s => match s.get m with
    | some (.deferred true) => shut l (s.set m (some (.deferred false)))
    | _ => none

def okResult (N : Nat) : ResultVar → Bool
  | .tmp i => Nat.blt i N
  | .cell p _ => Nat.blt p N

noncomputable def callF (E : Env) (n : Nat) (C : Calls) (f : FuncId) (args : List Value) (s : AS) : Option (Value × AS) :=
  match E.fn f with
  | none => none
  | some fn => match fn.body with
    | none => E.ext f args s
    | some c => match okCode E fn.ntmps c && Nat.ble args.length fn.ntmps && fn.results.toList.all (okResult fn.ntmps) with
      | false => none
      | true => putArgs 0 args .leaf fun t => match (codeFn E c).run n C none t [] s with
      | .ok x t ms s1 => match x with
        | .exit _ => none
        | _ => match shut ms s1 with
          | none => none
          | some s2 => match resultsF E t s2 fn.results.toList with
            | some l => some (resultOf l, s2)
            | none => none
      | _ => none

noncomputable def yieldF (E : Env) (n : Nat) (C : Calls) (l : Nat) (args : List Value) (s : AS) : Option (Value × AS) :=
  match s.get l with
  | some (.loop .ready _ t params assign body _) =>
    putParams params.toList args t fun t => match t with
    | none => none
    | some t => match (codeFn E assign).run n C (some l) t [] s with
      | .ok .normal t ms s1 => match s1.get l with
        | some (.loop .ready p1 t1 ps1 as1 b1 d1) =>
          (s1.set l (some (.loop .busy p1 t1 ps1 as1 b1 d1))).commit fun s2 =>
          match (codeFn E body).run n C (some l) t ms s2 with
          | .ok x _ _ s3 => match s3.get l with
            | some (.loop _ _ t3 ps3 as3 b3 d3) =>
              match x with
              | .normal => some (.bool true, s3.set l (some (.loop .ready none t3 ps3 as3 b3 d3)))
              | x => some (.bool false, s3.set l (some (.loop .done (jumpOf x) t3 ps3 as3 b3 d3)))
            | _ => none
          | _ => none
        | _ => none
      | _ => none
  | _ => none

noncomputable def calls (E : Env) (n : Nat) : Calls :=
  Nat.rec ⟨fun _ _ _ => none, fun _ _ _ => none⟩ (fun n ih => ⟨callF E n ih, yieldF E n ih⟩) n

end Go.AE
