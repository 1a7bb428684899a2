import Derived.RangeFuncIn
import Derived.OrdersIn
set_option linter.all false
set_option linter.unusedSimpArgs false
set_option linter.unusedVariables false
set_option autoImplicit false
namespace Go.AE

/-! The abstract state: objects by number. -/
/-- A digit. -/
inductive D8 where
  | d0 | d1 | d2 | d3 | d4 | d5 | d6 | d7
  deriving DecidableEq
inductive Tr (α : Type) where
  | leaf
  | node (v : Option α) (c0 c1 c2 c3 c4 c5 c6 c7 : Tr α)

inductive AObj where
  | row (own : Bool) (elem : TypeId) (cells : List Value) (lo hi : Nat)
  | map (es : List MapEntry) (clock : Nat)
  | iter (s : ByteArray) (pos : Nat)
  | loop (st : LoopState) (pending : Option Code) (tmps : Tr Value) (params : Array Tmp) (assign body : Code) (defers : Nat)
  | deferred (isOpen : Bool)

noncomputable def Tr.get {α : Type} (p : List D8) : Tr α → Option α :=
  List.rec (motive := fun _ => Tr α → Option α)
    (fun t => Tr.rec (motive := fun _ => Option α) none (fun v _ _ _ _ _ _ _ _ _ _ _ _ _ _ _ _ => v) t)
    (fun d _ ih t => Tr.rec (motive := fun _ => Option α) none (fun _ c0 c1 c2 c3 c4 c5 c6 c7 _ _ _ _ _ _ _ _ => D8.rec (motive := fun _ => Option α) (ih c0) (ih c1) (ih c2) (ih c3) (ih c4) (ih c5) (ih c6) (ih c7) d) t) p

noncomputable def Tr.setK {α R : Type} (o : Option α) (p : List D8) : Tr α → (Tr α → R) → R :=
  List.rec (motive := fun _ => Tr α → (Tr α → R) → R)
    (fun t k => Tr.rec (motive := fun _ => R) (k (.node o .leaf .leaf .leaf .leaf .leaf .leaf .leaf .leaf)) (fun _ c0 c1 c2 c3 c4 c5 c6 c7 _ _ _ _ _ _ _ _ => k (.node o c0 c1 c2 c3 c4 c5 c6 c7)) t)
    (fun d _ ih t k => Tr.rec (motive := fun _ => R)
      (D8.rec (motive := fun _ => R) (ih .leaf fun x => k (.node none x .leaf .leaf .leaf .leaf .leaf .leaf .leaf)) (ih .leaf fun x => k (.node none .leaf x .leaf .leaf .leaf .leaf .leaf .leaf)) (ih .leaf fun x => k (.node none .leaf .leaf x .leaf .leaf .leaf .leaf .leaf)) (ih .leaf fun x => k (.node none .leaf .leaf .leaf x .leaf .leaf .leaf .leaf)) (ih .leaf fun x => k (.node none .leaf .leaf .leaf .leaf x .leaf .leaf .leaf)) (ih .leaf fun x => k (.node none .leaf .leaf .leaf .leaf .leaf x .leaf .leaf)) (ih .leaf fun x => k (.node none .leaf .leaf .leaf .leaf .leaf .leaf x .leaf)) (ih .leaf fun x => k (.node none .leaf .leaf .leaf .leaf .leaf .leaf .leaf x)) d)
      (fun v c0 c1 c2 c3 c4 c5 c6 c7 _ _ _ _ _ _ _ _ => D8.rec (motive := fun _ => R) (ih c0 fun x => k (.node v x c1 c2 c3 c4 c5 c6 c7)) (ih c1 fun x => k (.node v c0 x c2 c3 c4 c5 c6 c7)) (ih c2 fun x => k (.node v c0 c1 x c3 c4 c5 c6 c7)) (ih c3 fun x => k (.node v c0 c1 c2 x c4 c5 c6 c7)) (ih c4 fun x => k (.node v c0 c1 c2 c3 x c5 c6 c7)) (ih c5 fun x => k (.node v c0 c1 c2 c3 c4 x c6 c7)) (ih c6 fun x => k (.node v c0 c1 c2 c3 c4 c5 x c7)) (ih c7 fun x => k (.node v c0 c1 c2 c3 c4 c5 c6 x)) d) t) p

/-- k of a number that has been reckoned out. -/
def forceN {R : Type} (m : Nat) (k : Nat → R) : R := Nat.rec (k 0) (fun n _ => k n) (Nat.add m 1)
noncomputable def digit (m : Nat) : D8 :=
  Bool.rec (motive := fun _ => D8)
    (Bool.rec (motive := fun _ => D8)
      (Bool.rec (motive := fun _ => D8) (Bool.rec (motive := fun _ => D8) .d7 .d6 (Nat.beq m 6)) (Bool.rec (motive := fun _ => D8) .d5 .d4 (Nat.beq m 4)) (Nat.blt m 6))
      (Bool.rec (motive := fun _ => D8) .d3 .d2 (Nat.beq m 2)) (Nat.blt m 4))
    (Bool.rec (motive := fun _ => D8) .d1 .d0 (Nat.beq m 0)) (Nat.blt m 2)
/-- The digits of a number, the lowest first. -/
noncomputable def bitsF (f : Nat) : Nat → List D8 :=
  Nat.rec (motive := fun _ => Nat → List D8) (fun _ => [])
    (fun _ ih n => Bool.rec (motive := fun _ => List D8) (digit (Nat.mod n 8) :: ih (Nat.div n 8)) [] (Nat.beq n 0)) f
noncomputable def bits (n : Nat) : List D8 := bitsF n n

/-- What the state has noted since it was last written out: newest first. -/
structure AS where
  next : Nat
  heap : Tr AObj
  log : List (Nat × Option AObj)
  /-- The number that the next object is to have, if it is not the next one. -/
  pick : Option Nat

def seek (k : Nat) (d : Option AObj) : List (Nat × Option AObj) → Option AObj
  | [] => d
  | (j, o) :: r => match Nat.beq k j with
    | true => o
    | false => seek k d r
noncomputable def AS.get (s : AS) (k : Nat) : Option AObj := seek k (s.heap.get (bits k)) s.log
def AS.set (s : AS) (k : Nat) (o : Option AObj) : AS := ⟨s.next, s.heap, (k, o) :: s.log, s.pick⟩
/-- The next object's number. -/
def AS.id (s : AS) : Nat :=
  match s.pick with
  | none => s.next
  | some k => k
def AS.new (s : AS) (o : AObj) : AS :=
  match s.pick with
  | none => ⟨s.next + 1, s.heap, (s.next, some o) :: s.log, none⟩
  | some k => ⟨s.next, s.heap, (k, some o) :: s.log, none⟩

/-- A value without an address. -/
def flatV : Value → Bool
  | .pointer (some _) | .slice (some _) _ _ | .map (some _) | .chan (some _) | .func _ _ _ => false
  | .iface _ v => flatV v
  | .agg ⟨l⟩ => flatL l
  | .tuple ⟨l⟩ => flatL l
  | _ => true
where
  flatL : List Value → Bool
  | [] => true
  | v :: l => flatV v && flatL l

/-- What is asked of the program's tables. -/
structure Env where
  P : Program
  ti : Nat → Option TypeInfo
  fn : Nat → Option Func
  ext : FuncId → List Value → AS → Option (Value × AS)
  /-- How many package-level variables there are. -/
  glob : Nat

def Env.und (E : Env) (t : TypeId) : Option TypeDesc :=
  match E.ti t with
  | none => none
  | some i => match i.desc with
    | .named _ u => (E.ti u).map (·.desc)
    | d => some d
def Env.size (E : Env) (t : TypeId) : Option Nat := (E.ti t).map (·.size)
def Env.zero (E : Env) (t : TypeId) : Option Value :=
  match (E.ti t).bind (·.zero) with
  | some z => if flatV z then some z else none
  | none => none
def Env.bytes (E : Env) (t : TypeId) : Option Nat := (E.ti t).map (·.bytes)
def isAggD : TypeDesc → Bool
  | .struct _ | .array _ _ => true
  | _ => false

/-- A computation that asks nothing but the program. -/
def pureVal {α : Type} (P : Program) : Sem α → Option α
  | .pure a => some a
  | .program k => pureVal P (k P)
  | _ => none

def vcells : Value → List Value
  | .agg cs => cs.toList
  | v => [v]

def one (v : Value) : Bool := match v with | .agg _ | .tuple _ => false | _ => true

/-- The cells of a row from an offset on. -/
def cut (cells : List Value) (off n : Nat) : Option (List Value) :=
  let r := (cells.drop off).take n
  if r.length = n then some r else none
def paste (cells : List Value) (off : Nat) (vs : List Value) : List Value :=
  cells.take off ++ vs ++ cells.drop (off + vs.length)
def clashes (lo hi off n : Nat) : Bool := n != 0 && decide (off < hi) && decide (lo < off + n)

noncomputable def aload (E : Env) (s : AS) (t : TypeId) (a : Addr) : Option Value :=
  match s.get a.block, a.spot with
  | some (.row _ _ cells _ _), none => do
    let d ← E.und t
    if isAggD d then do
      let n ← E.size t
      let c ← cut cells a.off n
      some (.agg ⟨c⟩)
    else cells[a.off]?
  | _, _ => none

noncomputable def aput (s : AS) (k off : Nat) (vs : List Value) : Option AS :=
  match s.get k with
  | some (.row true e cells lo hi) =>
    if off + vs.length ≤ cells.length ∧ clashes lo hi off vs.length = false ∧ vs.all one = true then some (s.set k (some (.row true e (paste cells off vs) lo hi)))
    else none
  | _ => none

noncomputable def astore (E : Env) (s : AS) (t : TypeId) (a : Addr) (v : Value) : Option AS := do
  let n ← E.size t
  if (vcells v).length = n ∧ a.spot = none then aput s a.block a.off (vcells v) else none

def newRow (E : Env) (s : AS) (e : TypeId) (cells : List Value) : Option (Value × AS) :=
  match E.size e with
  | some (_ + 1) => some (.pointer (some ⟨s.id, 0, none⟩), s.new (.row true e cells 0 0))
  | _ => none

/-- Parts laid into cells. -/
def afill (place : Nat → Option (Nat × Nat)) : List (Nat × Value) → List Value → Option (List Value)
  | [], cells => some cells
  | (i, v) :: rest, cells => do
    let (off, size) ← place i
    if (vcells v).length = size ∧ off + size ≤ cells.length then afill place rest (paste cells off (vcells v)) else none

def places (E : Env) : List Field → Option (List (Nat × Nat))
  | [] => some []
  | f :: fs => do
    let n ← E.size f.type
    let r ← places E fs
    some ((f.offset, n) :: r)

def abuild (E : Env) (t : TypeId) (parts : List (Nat × Value)) : Option Value := do
  let z ← E.zero t
  match ← E.und t with
  | .struct fields => do
    let ps ← places E fields.toList
    let cells ← afill (fun i => ps[i]?) parts (vcells z)
    some (.agg ⟨cells⟩)
  | .array _ elem => do
    let n ← E.size elem
    let cells ← afill (fun i => some (i * n, n)) parts (vcells z)
    some (.agg ⟨cells⟩)
  | _ => none

def times (z : List Value) : Nat → List Value
  | 0 => []
  | n + 1 => z ++ times z n

def abuildSlice (E : Env) (s : AS) (t : TypeId) (len : Nat) (parts : List (Nat × Value)) : Option (Value × AS) := do
  match ← E.und t with
  | .slice elem => do
    let n ← E.size elem
    let z ← E.zero elem
    if n = 0 ∨ len * n > 65536 ∨ (vcells z).length ≠ n then none else do
    let cells ← afill (fun i => some (i * n, n)) parts (times (vcells z) len)
    some (.slice (some ⟨s.id, 0, none⟩) len (len + 1), s.new (.row true elem cells 0 0))
  | _ => none

def intOf64 : Value → Option Int
  | .int _ n => some n
  | _ => none

/-- x[i]: the place of an element. -/
def aindexAddr (E : Env) (t : TypeId) (x ix : Value) : Option Value := do
  let i ← intOf64 ix
  match ← E.und t, x with
  | .array len elem, .pointer (some a) => do
    let n ← E.size elem
    if 0 ≤ i ∧ i < len ∧ a.spot = none ∧ n ≠ 0 then some (.pointer (some ⟨a.block, a.off + i.toNat * n, none⟩)) else none
  | .slice elem, .slice (some a) len _ => do
    let n ← E.size elem
    if 0 ≤ i ∧ i < len ∧ a.spot = none ∧ n ≠ 0 then some (.pointer (some ⟨a.block, a.off + i.toNat * n, none⟩)) else none
  | _, _ => none

def afieldAddr (E : Env) (t : TypeId) (x : Value) (f : Nat) : Option Value := do
  match ← E.und t, x with
  | .struct fields, .pointer (some a) => do
    let fd ← fields[f]?
    let n ← E.size fd.type
    if n ≠ 0 ∧ a.spot = none then some (.pointer (some ⟨a.block, a.off + fd.offset, none⟩)) else none
  | _, _ => none

def bound (x : Option Value) (d : Nat) : Option Nat :=
  match x with
  | none => some d
  | some (.int _ i) => if 0 ≤ i then some i.toNat else none
  | _ => none

/-- How many elements are known to lie from an offset on. -/
noncomputable def roomOf (o : Option AObj) (elem : TypeId) (n off cap : Nat) : Option Nat :=
  match o with
  | some (.row _ e cells _ _) => if cap = 0 then (if e = elem then some ((cells.length - off) / n) else none) else some (cap - 1)
  | _ => none

/-- x[lo:hi:mx] of a slice: 0 in the place of the capacity: whatever stands behind; c + 1: c. -/
noncomputable def aslice (E : Env) (s : AS) (t : TypeId) (x : Value) (lo hi mx : Option Value) : Option Value := do
  match ← E.und t, x with
  | .slice elem, .slice none 0 0 => do
    let _ ← E.size elem
    let l ← bound lo 0
    let h ← bound hi 0
    let m ← bound mx 0
    if l = 0 ∧ h = 0 ∧ m = 0 then some (.slice none 0 0) else none
  | .slice elem, .slice (some a) len cap => do
    let n ← E.size elem
    let l ← bound lo 0
    let h ← bound hi len
    if a.spot ≠ none ∨ n = 0 ∨ h < l then none else
    -- what is known to lie there
    let room ← roomOf (s.get a.block) elem n a.off cap
    if len < h ∧ room < h then none else
    match mx with
    | none => some (.slice (some ⟨a.block, a.off + l * n, none⟩) (h - l) (if cap = 0 then 0 else cap - l))
    | some v => do
      let m ← bound (some v) 0
      if (len < m ∧ room < m) ∨ m < h then none else
      some (.slice (some ⟨a.block, a.off + l * n, none⟩) (h - l) (m - l + 1))
  | .array len elem, .pointer (some a) => do
    let n ← E.size elem
    let l ← bound lo 0
    let h ← bound hi len
    let m ← bound mx len
    if a.spot ≠ none ∨ n = 0 ∨ h < l ∨ m < h ∨ len < m then none else
    some (.slice (some ⟨a.block, a.off + l * n, none⟩) (h - l) (m - l + 1))
  | _, _ => none

def lenOfA : Value → Option Nat
  | .slice _ n _ => some n
  | .string x => some x.size
  | _ => none

def bytesV : List Value → Option (List UInt8)
  | [] => some []
  | .int .u8 n :: r => if 0 ≤ n ∧ n < 256 then (bytesV r).map (UInt8.ofNat n.toNat :: ·) else none
  | _ => none
def byteVals (x : ByteArray) : List Value := x.data.toList.map fun b => .int .u8 b.toNat

/-- The first n elements of what is appended or copied. -/
noncomputable def firstA (s : AS) (size n : Nat) : Value → Option (List Value)
  | .slice none _ _ => if n = 0 then some [] else none
  | .slice (some a) len _ =>
    if n = 0 then some [] else
    match s.get a.block, a.spot with
    | some (.row _ _ cells _ _), none => if n ≤ len then cut cells a.off (n * size) else none
    | _, _ => none
  | .string x => if size = 1 ∧ n ≤ x.size then some ((byteVals x).take n) else none
  | _ => none

def room : Nat := 2 ^ 44

/-- May a value of this type be appended, element by element? -/
def isSeq : TypeDesc → Bool
  | .slice _ | .string => true
  | _ => false

noncomputable def aappend (E : Env) (s : AS) (t u : TypeId) (x y : Value) : Option (Value × AS) := do
  let du ← E.und u
  if isSeq du = false then none else
  match ← E.und t with
  | .slice elem => do
    let size ← E.size elem
    let bytes ← E.bytes elem
    let z ← E.zero elem
    let m ← lenOfA y
    if size = 0 ∨ bytes = 0 ∨ (vcells z).length ≠ size then none else do
    let new ← firstA s size m y
    if new.all one = false then none else
    match x with
    | .slice none 0 0 =>
      if m = 0 then some (x, s) else
      if m * bytes > room then none else
      some (.slice (some ⟨s.id, 0, none⟩) m 0, s.new (.row true elem new 0 0))
    | .slice (some a) len cap =>
      if m = 0 then some (x, s) else
      if a.spot ≠ none ∨ (len + m) * bytes > room then none else
      match s.get a.block with
      | some (.row own e cells lo hi) =>
        if cap = 0 then
          if own = false ∨ e ≠ elem then none else
          if a.off + (len + m) * size ≤ cells.length then do
            let s' ← aput s a.block (a.off + len * size) new
            some (.slice (some a) (len + m) 0, s')
          else if a.off = 0 ∧ len * size = cells.length ∧ hi ≤ cells.length then
            -- in place, or in a new row: the elder row's number is given up
            some (.slice (some ⟨s.id, 0, none⟩) (len + m) 0, (s.set a.block none).new (.row true elem (cells ++ new) lo hi))
          else none
        else if len + m ≤ cap - 1 then do
          let s' ← aput s a.block (a.off + len * size) new
          some (.slice (some a) (len + m) cap, s')
        else do
          let old ← cut cells a.off (len * size)
          some (.slice (some ⟨s.id, 0, none⟩) (len + m) 0, s.new (.row true elem (old ++ new) 0 0))
      | _ => none
    | _ => none
  | _ => none

noncomputable def acopy (E : Env) (s : AS) (t : TypeId) (x y : Value) : Option (Value × AS) := do
  match ← E.und t with
  | .slice elem => do
    let size ← E.size elem
    let m ← lenOfA y
    match x with
    | .slice none n _ => if n = 0 then some (.int .i64 0, s) else none
    | .slice (some a) n _ => do
      let k := Nat.min m n
      let new ← firstA s size k y
      if k = 0 then some (.int .i64 0, s) else
      if a.spot ≠ none ∨ size = 0 then none else do
      let s' ← aput s a.block a.off new
      some (.int .i64 k, s')
    | _ => none
  | _ => none

noncomputable def aclear (E : Env) (s : AS) (t : TypeId) (x : Value) : Option AS := do
  match ← E.und t with
  | .slice elem => do
    let z ← E.zero elem
    match x with
    | .slice none _ _ => some s
    | .slice (some a) n _ => if n = 0 then some s else if a.spot ≠ none ∨ (vcells z).length = 0 then none else aput s a.block a.off (times (vcells z) n)
    | _ => none
  | _ => none

/-- unsafe.String: the bytes are frozen from now on. -/
noncomputable def aunsafeString (E : Env) (s : AS) (t : TypeId) (x n : Value) : Option (Value × AS) := do
  match x, n with
  | .pointer none, .int .i64 0 => some (.string .empty, s)
  | .pointer (some a), .int .i64 n =>
    if n < 0 ∨ 9223372036854775807 < n then none else
    if n = 0 then some (.string .empty, s) else
    match ← E.und t with
    | .pointer u =>
      match s.get a.block with
      | some (.row true e cells lo hi) =>
        if a.spot = none ∧ a.off = 0 ∧ e = u ∧ E.size u = some 1 ∧ lo ≤ hi then do
          let c ← cut cells 0 n.toNat
          let bs ← bytesV c
          some (.string ⟨⟨bs⟩⟩, s.set a.block (some (if lo = hi then .row true e cells 0 n.toNat else .row true e cells 0 (max hi n.toNat))))
        else none
      | _ => none
    | _ => none
  | _, _ => none

def amakeSlice (E : Env) (s : AS) (t : TypeId) (l c : Value) : Option (Value × AS) := do
  match ← E.und t, l, c with
  | .slice elem, .int .i64 n, .int .i64 m => do
    let size ← E.size elem
    let bytes ← E.bytes elem
    let z ← E.zero elem
    if n < 0 ∨ m < n ∨ size = 0 ∨ m * bytes > room ∨ m > 1048576 ∨ (vcells z).length ≠ size then none else
    some (.slice (some ⟨s.id, 0, none⟩) n.toNat (m.toNat + 1), s.new (.row true elem (times (vcells z) m.toNat) 0 0))
  | _, _, _ => none

noncomputable def aconvert (E : Env) (s : AS) (src dst : TypeId) (x : Value) : Option (Value × AS) := do
  match ← E.und src, ← E.und dst, x with
  | .string, .slice e, .string b =>
    match ← E.und e with
    | .int .u8 => if E.size e = some 1 then some (.slice (some ⟨s.id, 0, none⟩) b.size 0, s.new (.row true e (byteVals b) 1 0)) else none
    | _ => none
  | .slice e, .string, .slice (some a) len _ =>
    match ← E.und e with
    | .int .u8 => do
      let c ← firstA s 1 len x
      let bs ← bytesV c
      some (.string ⟨⟨bs⟩⟩, s)
    | _ => none
  | .pointer u, .unsafePointer, .pointer (some a) => do
    let n ← E.size u
    match s.get a.block with
    | some (.row true _ cells _ _) => if a.spot = none ∧ n ≠ 0 ∧ a.off < cells.length then some (x, s) else none
    | _ => none
  | .unsafePointer, .pointer u, .pointer (some a) => do
    let n ← E.size u
    match s.get a.block with
    | some (.row true e cells _ _) => if a.spot = none ∧ n ≠ 0 ∧ a.off = 0 ∧ e = u ∧ n ≤ cells.length then some (x, s) else none
    | _ => none
  | _, _, _ => none

/-- A key of a map: a number or a string. -/
def sameKey : Value → Value → Option Bool
  | .int k a, .int k' b => if k = k' then some (a == b) else none
  | .string a, .string b => some (a == b)
  | _, _ => none
def findA (k : Value) : List MapEntry → Nat → Option (Option (Nat × Value))
  | [], _ => some none
  | e :: es, i => do
    if ← sameKey k e.key then some (some (i, e.val)) else findA k es (i + 1)
def plainKey : TypeDesc → Value → Bool
  | .int _, .int _ _ => true
  | .string, .string _ => true
  | _, _ => false

noncomputable def afind (s : AS) (m k : Value) : Option (Option (Nat × Value)) :=
  match m with
  | .map none => some none
  | .map (some r) => match s.get r with
    | some (.map es _) => findA k es 0
    | _ => none
  | _ => none

noncomputable def alookup (E : Env) (s : AS) (t : TypeId) (m k : Value) (ok : Bool) : Option Value := do
  match ← E.und t with
  | .map kt et => do
    if plainKey (← E.und kt) k = false then none else do
    match ← afind s m k with
    | some (_, v) => some (if ok then .tuple #[v, .bool true] else v)
    | none => do
      let z ← E.zero et
      some (if ok then .tuple #[z, .bool false] else z)
  | _ => none

noncomputable def aupdate (E : Env) (s : AS) (t : TypeId) (m k v : Value) : Option AS := do
  match ← E.und t, m with
  | .map kt _, .map (some r) => do
    if plainKey (← E.und kt) k = false then none else
    match s.get r with
    | some (.map es clock) => do
      match ← findA k es 0 with
      | some (i, _) => some (s.set r (some (.map (es.modify i fun e => { e with key := k, val := v }) clock)))
      | none => some (s.set r (some (.map (es ++ [{ key := k, val := v, born := clock }]) (clock + 1))))
    | _ => none
  | _, _ => none

noncomputable def amapEntry (E : Env) (s : AS) (t : TypeId) (m k : Value) : Option (Value × AS) := do
  match ← E.und t, m with
  | .map kt et, .map (some r) => do
    if plainKey (← E.und kt) k = false then none else
    match s.get r with
    | some (.map es clock) => do
      match ← findA k es 0 with
      | some (i, v) => some (.tuple #[v, .int .i64 (((es[i]?).map (·.born)).getD 0)], s.set r (some (.map (es.modify i fun e => { e with key := k }) clock)))
      | none => do
        let z ← E.zero et
        some (.tuple #[z, .int .i64 clock], s.set r (some (.map (es ++ [{ key := k, val := z, born := clock }]) (clock + 1))))
    | _ => none
  | _, _ => none

noncomputable def aentryStore (s : AS) (m st v : Value) : Option AS := do
  match m, st with
  | .map (some r), .int _ b => do
    match s.get r with
    | some (.map es clock) => do
      let i ← es.findIdx? (fun e => (e.born : Int) == b)
      some (s.set r (some (.map (es.modify i fun e => { e with val := v }) clock)))
    | _ => none
  | _, _ => none

noncomputable def anext (s : AS) (it : Value) : Option (Value × AS) :=
  match it with
  | .pointer (some ⟨r, 0, none⟩) => match s.get r with
    | some (.iter x pos) =>
      if pos < x.size then
        let (c, width) := Utf8.decode x pos
        some (.tuple #[.bool true, .int .i64 pos, .int .i32 c], s.set r (some (.iter x (pos + width))))
      else some (.tuple #[.bool false], s)
    | _ => none
  | _ => none

def apart (E : Env) (t : TypeId) (cs : List Value) (off : Nat) : Option Value := do
  let d ← E.und t
  if isAggD d then do
    let n ← E.size t
    let c ← cut cs off n
    some (.agg ⟨c⟩)
  else cs[off]?

/-- == of two values of which one is nil, or of two pointers to what the call itself made. -/
noncomputable def aequal (E : Env) (s : AS) (t : TypeId) (x y : Value) : Option Bool :=
  match E.und t, x, y with
  | some (.pointer _), .pointer none, .pointer b => some b.isNone
  | some (.pointer _), .pointer (some _), .pointer none => some false
  | some (.slice _), .slice none _ _, .slice b _ _ => some b.isNone
  | some (.slice _), .slice (some _) _ _, .slice none _ _ => some false
  | some (.map _ _), .map none, .map b => some b.isNone
  | some (.map _ _), .map (some _), .map none => some false
  | some (.func _ _ _), .nilFunc, .func _ _ _ => some false
  | some (.func _ _ _), .func _ _ _, .nilFunc => some false
  | some (.interface _), .nilIface, .iface _ _ => some false
  | some (.interface _), .iface _ _, .nilIface => some false
  | some (.pointer e), .pointer (some a), .pointer (some b) =>
    match E.size e, s.get a.block, s.get b.block with
    | some (_ + 1), some (.row true _ _ 0 0), some (.row true _ _ 0 0) => if a.spot = none ∧ b.spot = none then some (a == b) else none
    | _, _, _ => none
  | _, _, _ => none

def isPtr : TypeDesc → Bool
  | .pointer _ => true
  | _ => false

def operandsFlat (ρ : Operand → Value) (op : Op) : Bool := op.operands.toList.all fun x => flatV (ρ x)

/-- The builtins that ask the memory. -/
noncomputable def abuiltin (E : Env) (s : AS) (b : Builtin) (ts : List TypeId) (args : List Value) : Option (Value × AS) :=
  match b, ts, args with
  | .append, [t, u], [x, y] => aappend E s t u x y
  | .copy, t :: _, [x, y] => acopy E s t x y
  | .unsafeString, [t, _], [x, n] => aunsafeString E s t x n
  | .clear, t :: _, [x] => (aclear E s t x).map fun s => (.tuple #[], s)
  | .unsafeSliceData, _, [.slice none _ _] => some (.pointer none, s)
  | .unsafeSliceData, _, [.slice (some a) (_ + 1) _] => some (.pointer (some a), s)
  | .len, t :: _, [.slice _ n _] => match E.und t with
    | some (.slice _) => some (.int .i64 n, s)
    | _ => none
  | .cap, t :: _, [.slice none 0 0] => match E.und t with
    | some (.slice _) => some (.int .i64 0, s)
    | _ => none
  | .cap, t :: _, [.slice (some a) _ (n + 1)] => match E.und t, s.get a.block with
    | some (.slice _), some _ => some (.int .i64 n, s)
    | _, _ => none
  | _, _, _ => none

/-- An operation that is no call: its value, and the state behind it. -/
noncomputable def aop (E : Env) (ρ : Operand → Value) (o : Oper) (s : AS) : Option (Value × AS) :=
  let here (v : Option Value) : Option (Value × AS) := v.map fun v => (v, s)
  let skip (s : Option AS) : Option (Value × AS) := s.map fun s => (undef, s)
  let plain : Option (Value × AS) :=
    if operandsFlat ρ o.op then
      match pureVal E.P (execOp ρ o) with
      | some (.value v) => if flatV v then some (v, s) else none
      | _ => none
    else none
  match o.op with
  | .move x | .assign x => some (ρ x, s)
  | .pick c a b => match ρ c with
    | .bool true => some (ρ a, s)
    | .bool false => some (ρ b, s)
    | _ => none
  | .alloc e => do
    let z ← E.zero e
    newRow E s e (vcells z)
  | .box e x => newRow E s e (vcells (ρ x))
  | .build ty parts => here (abuild E ty (parts.toList.map fun p => (p.1, ρ p.2)))
  | .buildSlice ty len parts => abuildSlice E s ty len (parts.toList.map fun p => (p.1, ρ p.2))
  | .load ty a => match ρ a with
    | .pointer (some a) => here (aload E s ty a)
    | _ => none
  | .store ty a x => match ρ a with
    | .pointer (some a) => skip (astore E s ty a (ρ x))
    | _ => none
  | .nilCheck x => match ρ x with
    | .pointer (some a) => some (.pointer (some a), s)
    | .func (.func f) first cap => some (.func (.func f) first cap, s)
    | .func (.yield f) first cap => some (.func (.yield f) first cap, s)
    | .slice a n c => some (.slice a n c, s)
    | .iface u v => some (.iface u v, s)
    | _ => none
  | .binOp op xt x y _ =>
    match op with
    | .eql => match aequal E s xt (ρ x) (ρ y) with
      | some b => some (.bool b, s)
      | none => plain
    | .neq => match aequal E s xt (ρ x) (ρ y) with
      | some b => some (.bool !b, s)
      | none => plain
    | _ => plain
  | .convert a b x => match aconvert E s a b (ρ x) with
    | some r => some r
    | none => plain
  | .makeInterface xt x => match E.und xt with
    | some (.interface _) | none => none
    | some _ => some (.iface xt (ρ x), s)
  | .makeFunc fn first cap => match fn with
    | .func f => some (.func (.func f) ⟨first.toList.map ρ⟩ ⟨cap.toList.map ρ⟩, s)
    | _ => none
  | .makeMap _ rs => match rs with
    | none => some (.map (some s.id), s.new (.map [] 0))
    | some _ => none
  | .makeSlice ty l c => amakeSlice E s ty (ρ l) (ρ c)
  | .slice ty x lo hi mx =>
    if hi.isNone && mx.isSome then none else
    match aslice E s ty (ρ x) (lo.map ρ) (hi.map ρ) (mx.map ρ) with
    | some r => some (r, s)
    | none => plain
  | .fieldAddr ty x f => here (afieldAddr E ty (ρ x) f)
  | .indexAddr ty x ix => here (aindexAddr E ty (ρ x) (ρ ix))
  | .field ty x f => match ρ x with
    | .agg cs => match E.und ty with
      | some (.struct fields) => match fields[f]? with
        | some fd => here (apart E fd.type cs.toList fd.offset)
        | none => none
      | _ => none
    | _ => none
  | .index ty x ix => match ρ x, ρ ix with
    | .agg cs, .int _ i => match E.und ty with
      | some (.array len elem) => match E.size elem with
        | some n => if 0 ≤ i ∧ i < len then here (apart E elem cs.toList (i.toNat * n)) else none
        | none => none
      | _ => none
    | _, _ => plain
  | .lookup ty x ix ok => here (alookup E s ty (ρ x) (ρ ix) ok)
  | .mapUpdate ty m k x => skip (aupdate E s ty (ρ m) (ρ k) (ρ x))
  | .insert ty m k x => skip (aupdate E s ty (ρ m) (ρ k) (ρ x))
  | .mapEntry ty m k => amapEntry E s ty (ρ m) (ρ k)
  | .entryStore _ m st x => skip (aentryStore s (ρ m) (ρ st) (ρ x))
  | .range ty x => match E.und ty, ρ x with
    | some .string, .string b => some (.pointer (some ⟨s.id, 0, none⟩), s.new (.iter b 0))
    | _, _ => none
  | .next it b => if b then anext s (ρ it) else none
  | .typeAssert x xt u ok => match E.und u, ρ x with
    | some (.interface _), _ => plain
    | some _, .iface d v => if d = u then some (if ok then .tuple #[v, .bool true] else v, s) else if ok then (E.zero u).map fun z => (.tuple #[z, .bool false], s) else none
    | _, _ => plain
  | .extract x i => match ρ x with
    | .tuple vs => here (vs.toList[i]?)
    | _ => none
  | .call c => match c.callee with
    | .builtin b => match abuiltin E s b c.argTypes.toList (c.args.toList.map ρ) with
      | some r => some r
      | none => plain
    | _ => none
  | .select _ _ => none
  | _ => plain

/-- How code is left. -/
inductive AX where
  | normal
  | exit (id : Nat)
  | ret

end Go.AE
