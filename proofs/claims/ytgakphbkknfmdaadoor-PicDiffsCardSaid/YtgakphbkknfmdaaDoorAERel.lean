import Derived.Test.YtgakphbkknfmdaaDoorAEDefs
import Derived.Laws.World
import Derived.Laws.IdiomCopy
import Derived.Laws.Append
import Derived.Laws.Entries
import Derived.Laws.BytesString
import Derived.Lib.UnsafeStr
set_option linter.all false
set_option linter.unusedSimpArgs false
set_option linter.unusedVariables false
set_option autoImplicit false
namespace Go.AE

/-- Where an object of the abstract state lies: the block, the first cell, how many cells belong to it, the cells of an element, whether the call itself made it, whether it is a row. -/
structure Loc where
  block : Nat
  off : Nat
  ext : Nat
  size : Nat
  own : Bool
  row : Bool

inductive Slot where
  | free
  /-- Its object is still to be laid. -/
  | kept
  | live (l : Loc)
  | dead

abbrev Iota := Nat → Slot

def PRel (ι : Iota) (a a' : Addr) : Prop :=
  a.spot = none ∧ (ι a.block = .dead ∨ ∃ l, ι a.block = .live l ∧ a' = ⟨l.block, l.off + a.off, none⟩)

def SRel (ι : Iota) (a : Addr) (len c : Nat) (a' : Addr) (c' : Nat) : Prop :=
  a.spot = none ∧ len ≤ c' ∧ (ι a.block = .dead ∨ ∃ l, ι a.block = .live l ∧ (c = 0 → c' = (l.ext - a.off) / l.size) ∧ (c ≠ 0 → c' = c - 1) ∧
    (a' = ⟨l.block, l.off + a.off, none⟩ ∨ c' = 0))

inductive FnRel (ι : Iota) : Fn → Fn → Prop
  | same (f : FuncId) : FnRel ι (.func f) (.func f)
  | yield {l l' : Nat} {x : Loc} (h : ι l = .live x) (hr : x.row = false) (e : x.block = l') : FnRel ι (.yield l) (.yield l')

inductive VRel (ι : Iota) : Value → Value → Prop
  | bool (b : Bool) : VRel ι (.bool b) (.bool b)
  | int (k : IntKind) (n : Int) : VRel ι (.int k n) (.int k n)
  | float (k : FloatKind) (b : Nat) : VRel ι (.float k b) (.float k b)
  | complex (k : FloatKind) (a b : Nat) : VRel ι (.complex k a b) (.complex k a b)
  | string (s : ByteArray) : VRel ι (.string s) (.string s)
  | ptrNil : VRel ι (.pointer none) (.pointer none)
  | ptr {a a' : Addr} (h : PRel ι a a') : VRel ι (.pointer (some a)) (.pointer (some a'))
  | sliceNil (n c : Nat) : VRel ι (.slice none n c) (.slice none n c)
  | slice {a a' : Addr} {len c c' : Nat} (h : SRel ι a len c a' c') : VRel ι (.slice (some a) len c) (.slice (some a') len c')
  | mapNil : VRel ι (.map none) (.map none)
  | map {r r' : Nat} {x : Loc} (h : ι r = .live x) (hr : x.row = false) (e : x.block = r') : VRel ι (.map (some r)) (.map (some r'))
  | chanNil : VRel ι (.chan none) (.chan none)
  | func {f f' : Fn} {a a' b b' : Array Value} (hf : FnRel ι f f') (ha : a.size = a'.size) (ha' : ∀ i, i < a.size → VRel ι (a.getD i undef) (a'.getD i undef))
      (hb : b.size = b'.size) (hb' : ∀ i, i < b.size → VRel ι (b.getD i undef) (b'.getD i undef)) : VRel ι (.func f a b) (.func f' a' b')
  | nilFunc : VRel ι .nilFunc .nilFunc
  | iface (t : TypeId) {v v' : Value} (h : VRel ι v v') : VRel ι (.iface t v) (.iface t v')
  | nilIface : VRel ι .nilIface .nilIface
  | agg {a a' : Array Value} (ha : a.size = a'.size) (ha' : ∀ i, i < a.size → VRel ι (a.getD i undef) (a'.getD i undef)) : VRel ι (.agg a) (.agg a')
  | tuple {a a' : Array Value} (ha : a.size = a'.size) (ha' : ∀ i, i < a.size → VRel ι (a.getD i undef) (a'.getD i undef)) : VRel ι (.tuple a) (.tuple a')

/-- What may become of a number's place, as far as values go. -/
def LeV (ι ι' : Iota) : Prop := ∀ k, match ι k with
  | .free => True
  | .kept => True
  | .dead => ι' k = .dead
  | .live l => ι' k = .live l ∨ (l.row = true ∧ ι' k = .dead)
/-- What may become of a number's place. -/
def Le (ι ι' : Iota) : Prop := ∀ k, match ι k with
  | .free => True
  | .kept => ι' k = .kept
  | .dead => ι' k = .dead
  | .live l => ι' k = .live l ∨ (l.row = true ∧ ι' k = .dead)
theorem Le.v {ι ι' : Iota} (h : Le ι ι') : LeV ι ι' := fun k => by
  have h1 := h k
  cases hk : ι k with
  | free => trivial
  | kept => trivial
  | dead => rw [hk] at h1; exact h1
  | live l => rw [hk] at h1; exact h1

theorem Le.refl (ι : Iota) : Le ι ι := fun k => by
  cases h : ι k <;> simp
theorem Le.trans {a b c : Iota} (h : Le a b) (h' : Le b c) : Le a c := fun k => by
  have h1 := h k
  have h2 := h' k
  cases ha : a k with
  | free => simp
  | kept => rw [ha] at h1; simp only at h1 ⊢; rw [h1] at h2; exact h2
  | dead => rw [ha] at h1; simp only at h1 ⊢; rw [h1] at h2; exact h2
  | live l =>
    rw [ha] at h1
    simp only at h1 ⊢
    rcases h1 with h1 | ⟨hr, h1⟩ <;> rw [h1] at h2 <;> simp only at h2
    · exact h2
    · exact .inr ⟨hr, h2⟩

theorem LeV.live {ι ι' : Iota} (h : LeV ι ι') {k : Nat} {l : Loc} (e : ι k = .live l) : ι' k = .live l ∨ (l.row = true ∧ ι' k = .dead) := by
  have := h k; rw [e] at this; exact this
theorem LeV.keep {ι ι' : Iota} (h : LeV ι ι') {k : Nat} {l : Loc} (e : ι k = .live l) (hr : l.row = false) : ι' k = .live l := by
  rcases h.live e with h | ⟨h, _⟩
  · exact h
  · rw [hr] at h; cases h
theorem LeV.dead {ι ι' : Iota} (h : LeV ι ι') {k : Nat} (e : ι k = .dead) : ι' k = .dead := by
  have := h k; rw [e] at this; exact this
theorem Le.live {ι ι' : Iota} (h : Le ι ι') {k : Nat} {l : Loc} (e : ι k = .live l) : ι' k = .live l ∨ (l.row = true ∧ ι' k = .dead) := h.v.live e
theorem Le.keep {ι ι' : Iota} (h : Le ι ι') {k : Nat} {l : Loc} (e : ι k = .live l) (hr : l.row = false) : ι' k = .live l := h.v.keep e hr
theorem Le.dead {ι ι' : Iota} (h : Le ι ι') {k : Nat} (e : ι k = .dead) : ι' k = .dead := h.v.dead e
theorem Le.kept {ι ι' : Iota} (h : Le ι ι') {k : Nat} (e : ι k = .kept) : ι' k = .kept := by
  have := h k; rw [e] at this; exact this

theorem PRel.mono {ι ι' : Iota} (h : LeV ι ι') {a a' : Addr} (p : PRel ι a a') : PRel ι' a a' := by
  refine ⟨p.1, ?_⟩
  rcases p.2 with hd | ⟨l, hl, e⟩
  · exact .inl (h.dead hd)
  · rcases h.live hl with h | ⟨_, h⟩
    · exact .inr ⟨l, h, e⟩
    · exact .inl h
theorem SRel.mono {ι ι' : Iota} (h : LeV ι ι') {a a' : Addr} {len c c' : Nat} (p : SRel ι a len c a' c') : SRel ι' a len c a' c' := by
  refine ⟨p.1, p.2.1, ?_⟩
  rcases p.2.2 with hd | ⟨l, hl, e⟩
  · exact .inl (h.dead hd)
  · rcases h.live hl with h | ⟨_, h⟩
    · exact .inr ⟨l, h, e⟩
    · exact .inl h
theorem FnRel.mono {ι ι' : Iota} (h : LeV ι ι') {f f' : Fn} (p : FnRel ι f f') : FnRel ι' f f' := by
  cases p with
  | same f => exact .same f
  | yield hl hr e => exact .yield (h.keep hl hr) hr e
theorem VRel.monoV {ι ι' : Iota} (h : LeV ι ι') {v v' : Value} (p : VRel ι v v') : VRel ι' v v' := by
  induction p with
  | bool b => exact .bool b
  | int k n => exact .int k n
  | float k b => exact .float k b
  | complex k a b => exact .complex k a b
  | string s => exact .string s
  | ptrNil => exact .ptrNil
  | ptr p => exact .ptr (p.mono h)
  | sliceNil n c => exact .sliceNil n c
  | slice p => exact .slice (p.mono h)
  | mapNil => exact .mapNil
  | map hl hr e => exact .map (h.keep hl hr) hr e
  | chanNil => exact .chanNil
  | func hf ha _ hb _ ia ib => exact .func (hf.mono h) ha ia hb ib
  | nilFunc => exact .nilFunc
  | iface t _ ih => exact .iface t ih
  | nilIface => exact .nilIface
  | agg ha _ ia => exact .agg ha ia
  | tuple ha _ ia => exact .tuple ha ia

theorem VRel.mono {ι ι' : Iota} (h : Le ι ι') {v v' : Value} (p : VRel ι v v') : VRel ι' v v' := p.monoV h.v

theorem getD_list (l : List Value) (i : Nat) : (⟨l⟩ : Array Value).getD i undef = l.getD i undef := by
  simp [List.getD_eq_getElem?_getD, Array.getD_eq_getD_getElem?]

theorem flatL_iff (l : List Value) : flatV.flatL l = true ↔ ∀ i, i < l.length → flatV (l.getD i undef) = true := by
  induction l with
  | nil => simp [flatV.flatL]
  | cons v l ih =>
    simp only [flatV.flatL, Bool.and_eq_true, ih, List.length_cons]
    constructor
    · rintro ⟨h1, h2⟩ i hi
      cases i with
      | zero => simpa using h1
      | succ i => simpa using h2 i (by omega)
    · intro h
      exact ⟨by simpa using h 0 (by omega), fun i hi => by simpa using h (i + 1) (by omega)⟩

theorem arr_ext {a a' : Array Value} (hs : a.size = a'.size) (h : ∀ i, i < a.size → a'.getD i undef = a.getD i undef) : a' = a := by
  apply Array.ext hs.symm
  intro i h1 h2
  have := h i h2
  simpa [Array.getD, h1, h2] using this

theorem VRel.flat {ι : Iota} {v v' : Value} (p : VRel ι v v') (hf : flatV v = true) : v' = v := by
  induction p with
  | ptr | slice | map | func => simp [flatV] at hf
  | iface t _ ih => rw [ih (by simpa [flatV] using hf)]
  | @agg a a' ha hp ih =>
    obtain ⟨l⟩ := a
    simp only [flatV, flatL_iff] at hf
    rw [arr_ext ha (fun i hi => ih i hi (by rw [getD_list]; exact hf i (by simpa using hi)))]
  | @tuple a a' ha hp ih =>
    obtain ⟨l⟩ := a
    simp only [flatV, flatL_iff] at hf
    rw [arr_ext ha (fun i hi => ih i hi (by rw [getD_list]; exact hf i (by simpa using hi)))]
  | _ => rfl

mutual
theorem VRel.ofFlat (ι : Iota) : ∀ (v : Value), flatV v = true → VRel ι v v
  | .bool b, _ => .bool b
  | .int k n, _ => .int k n
  | .float k b, _ => .float k b
  | .complex k a b, _ => .complex k a b
  | .string s, _ => .string s
  | .pointer none, _ => .ptrNil
  | .pointer (some _), h => by simp [flatV] at h
  | .slice none n c, _ => .sliceNil n c
  | .slice (some _) _ _, h => by simp [flatV] at h
  | .map none, _ => .mapNil
  | .map (some _), h => by simp [flatV] at h
  | .chan none, _ => .chanNil
  | .chan (some _), h => by simp [flatV] at h
  | .func _ _ _, h => by simp [flatV] at h
  | .nilFunc, _ => .nilFunc
  | .iface t v, h => .iface t (VRel.ofFlat ι v (by simpa [flatV] using h))
  | .nilIface, _ => .nilIface
  | .agg ⟨l⟩, h => .agg rfl (fun i hi => by rw [getD_list]; exact VRel.ofFlats ι l (by simpa [flatV] using h) i (by simpa using hi))
  | .tuple ⟨l⟩, h => .tuple rfl (fun i hi => by rw [getD_list]; exact VRel.ofFlats ι l (by simpa [flatV] using h) i (by simpa using hi))
theorem VRel.ofFlats (ι : Iota) : ∀ (l : List Value), flatV.flatL l = true → ∀ i, i < l.length → VRel ι (l.getD i undef) (l.getD i undef)
  | [], _, i, hi => by simp at hi
  | v :: l, h, 0, _ => by
    simp only [flatV.flatL, Bool.and_eq_true] at h
    exact VRel.ofFlat ι v h.1
  | v :: l, h, i + 1, hi => by
    simp only [flatV.flatL, Bool.and_eq_true] at h
    simpa using VRel.ofFlats ι l h.2 i (by simpa using hi)
end

/-! Rows of values. -/
def LRel (ι : Iota) (l l' : List Value) : Prop := l.length = l'.length ∧ ∀ i, i < l.length → VRel ι (l.getD i undef) (l'.getD i undef)

theorem LRel.nil (ι : Iota) : LRel ι [] [] := ⟨rfl, fun i hi => by simp at hi⟩
theorem LRel.mono {ι ι' : Iota} (h : Le ι ι') {l l' : List Value} (p : LRel ι l l') : LRel ι' l l' := ⟨p.1, fun i hi => (p.2 i hi).mono h⟩
theorem LRel.cons {ι : Iota} {v v' : Value} {l l' : List Value} (h : VRel ι v v') (p : LRel ι l l') : LRel ι (v :: l) (v' :: l') :=
  ⟨by simp [p.1], fun i hi => by
    cases i with
    | zero => simpa using h
    | succ i => simpa using p.2 i (by simpa using hi)⟩
theorem LRel.head {ι : Iota} {v v' : Value} {l l' : List Value} (p : LRel ι (v :: l) (v' :: l')) : VRel ι v v' := by simpa using p.2 0 (by simp)
theorem LRel.tail {ι : Iota} {v v' : Value} {l l' : List Value} (p : LRel ι (v :: l) (v' :: l')) : LRel ι l l' :=
  ⟨by simpa using p.1, fun i hi => by simpa using p.2 (i + 1) (by simpa using hi)⟩
theorem LRel.get {ι : Iota} {l l' : List Value} (p : LRel ι l l') {i : Nat} {v : Value} (h : l[i]? = some v) : ∃ v', l'[i]? = some v' ∧ VRel ι v v' := by
  have hi : i < l.length := (List.getElem?_eq_some_iff.1 h).1
  have hi' : i < l'.length := p.1 ▸ hi
  refine ⟨l'[i], List.getElem?_eq_getElem hi', ?_⟩
  have := p.2 i hi
  simpa [List.getD_eq_getElem?_getD, h, List.getElem?_eq_getElem hi'] using this
theorem LRel.ofGet {ι : Iota} {l l' : List Value} (h : l.length = l'.length) (p : ∀ (i : Nat) (v : Value), l[i]? = some v → ∃ v' : Value, l'[i]? = some v' ∧ VRel ι v v') : LRel ι l l' :=
  ⟨h, fun i hi => by
    obtain ⟨v', h1, h2⟩ := p i l[i] (List.getElem?_eq_getElem hi)
    simpa [List.getD_eq_getElem?_getD, h1, List.getElem?_eq_getElem hi] using h2⟩
theorem LRel.getD {ι : Iota} {l l' : List Value} (p : LRel ι l l') (i : Nat) : VRel ι (l.getD i undef) (l'.getD i undef) := by
  by_cases hi : i < l.length
  · exact p.2 i hi
  · have h1 : l.getD i undef = undef := by simp [List.getD_eq_getElem?_getD, List.getElem?_eq_none (Nat.le_of_not_lt hi)]
    have h2 : l'.getD i undef = undef := by simp [List.getD_eq_getElem?_getD, List.getElem?_eq_none (p.1 ▸ Nat.le_of_not_lt hi)]
    rw [h1, h2]
    exact .ofFlat ι _ rfl
theorem LRel.append {ι : Iota} {a a' b b' : List Value} (h : LRel ι a a') (k : LRel ι b b') : LRel ι (a ++ b) (a' ++ b') := by
  refine .ofGet (by simp [h.1, k.1]) fun i v hv => ?_
  rcases Nat.lt_or_ge i a.length with hi | hi
  · rw [List.getElem?_append_left hi] at hv
    rw [List.getElem?_append_left (h.1 ▸ hi)]
    exact h.get hv
  · rw [List.getElem?_append_right hi] at hv
    rw [List.getElem?_append_right (h.1 ▸ hi), ← h.1]
    exact k.get hv
theorem LRel.drop {ι : Iota} {a a' : List Value} (h : LRel ι a a') (n : Nat) : LRel ι (a.drop n) (a'.drop n) := by
  refine .ofGet (by simp [h.1]) fun i v hv => ?_
  rw [List.getElem?_drop] at hv ⊢
  exact h.get hv
theorem LRel.take {ι : Iota} {a a' : List Value} (h : LRel ι a a') (n : Nat) : LRel ι (a.take n) (a'.take n) := by
  refine .ofGet (by simp [h.1]) fun i v hv => ?_
  rw [List.getElem?_take] at hv ⊢
  split at hv
  · rename_i hi
    rw [if_pos hi]
    exact h.get hv
  · cases hv
theorem LRel.set {ι : Iota} {a a' : List Value} (h : LRel ι a a') (i : Nat) {v v' : Value} (hv : VRel ι v v') : LRel ι (a.set i v) (a'.set i v') := by
  refine .ofGet (by simp [h.1]) fun j u hu => ?_
  rw [List.getElem?_set] at hu ⊢
  split at hu
  · rename_i e
    subst e
    split at hu
    · rename_i hi
      cases hu
      exact ⟨v', by simp [h.1 ▸ hi], hv⟩
    · cases hu
  · rename_i e
    simpa [e] using h.get hu
theorem LRel.ofFlats {ι : Iota} {l : List Value} (h : flatV.flatL l = true) : LRel ι l l := ⟨rfl, VRel.ofFlats ι l h⟩
theorem LRel.agg {ι : Iota} {l l' : List Value} (h : LRel ι l l') : VRel ι (.agg ⟨l⟩) (.agg ⟨l'⟩) :=
  .agg (by simp [h.1]) fun i hi => by rw [getD_list, getD_list]; exact h.2 i (by simpa using hi)
theorem LRel.tuple {ι : Iota} {l l' : List Value} (h : LRel ι l l') : VRel ι (.tuple ⟨l⟩) (.tuple ⟨l'⟩) :=
  .tuple (by simp [h.1]) fun i hi => by rw [getD_list, getD_list]; exact h.2 i (by simpa using hi)
theorem VRel.cells {ι : Iota} {a a' : Array Value} (hs : a.size = a'.size) (h : ∀ i, i < a.size → VRel ι (a.getD i undef) (a'.getD i undef)) : LRel ι a.toList a'.toList := by
  obtain ⟨l⟩ := a
  obtain ⟨l'⟩ := a'
  exact ⟨by simpa using hs, fun i hi => by have := h i (by simpa using hi); rwa [getD_list, getD_list] at this⟩
theorem VRel.vcells {ι : Iota} {v v' : Value} (p : VRel ι v v') : LRel ι (vcells v) v'.cells.toList := by
  have q := p
  cases p with
  | agg ha hp => exact VRel.cells ha hp
  | _ => exact .cons q (.nil ι)
theorem VRel.one {ι : Iota} {v v' : Value} (p : VRel ι v v') : one v = one v' := by cases p <;> rfl
end Go.AE
