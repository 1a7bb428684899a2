import Derived.Test.YtgakphbkknfmdaaDoorAEDefs
set_option linter.all false
set_option linter.unusedSimpArgs false
set_option linter.unusedVariables false
set_option autoImplicit false
namespace Go.AE
/-- A table, halved again and again. -/
inductive BT (α : Type) where
  | leaf (a : α)
  | node (n : Nat) (l r : BT α)
def BT.get {α : Type} : BT α → Nat → Option α
  | .leaf a, k => match k with
    | 0 => some a
    | _ + 1 => none
  | .node n l r, k => match Nat.blt k n with
    | true => l.get k
    | false => r.get (k - n)
def BT.list {α : Type} : BT α → List α
  | .leaf a => [a]
  | .node _ l r => l.list ++ r.list
def BT.size {α : Type} : BT α → Nat
  | .leaf _ => 1
  | .node n _ r => n + r.size
def BT.fine {α : Type} : BT α → Bool
  | .leaf _ => true
  | .node n l r => l.size == n && l.fine && r.fine
theorem BT.size_list {α : Type} : ∀ (t : BT α), t.fine = true → t.list.length = t.size
  | .leaf _, _ => rfl
  | .node n l r, h => by
    simp only [BT.fine, Bool.and_eq_true, beq_iff_eq] at h
    simp [BT.list, BT.size, BT.size_list l h.1.2, BT.size_list r h.2, h.1.1]
theorem BT.get_list {α : Type} : ∀ (t : BT α) (k : Nat), t.fine = true → t.get k = t.list[k]?
  | .leaf _, 0, _ => rfl
  | .leaf _, _ + 1, _ => rfl
  | .node n l r, k, h => by
    simp only [BT.fine, Bool.and_eq_true, beq_iff_eq] at h
    have hl := BT.size_list l h.1.2
    simp only [BT.get, BT.list]
    cases hb : Nat.blt k n with
    | true =>
      have : k < n := by simpa [Nat.blt_eq] using hb
      rw [List.getElem?_append_left (by omega)]
      exact BT.get_list l k h.1.2
    | false =>
      have : ¬ k < n := fun hk => by rw [(by rw [Nat.blt_eq]; exact hk : Nat.blt k n = true)] at hb; cases hb
      rw [List.getElem?_append_right (by omega), hl, h.1.1]
      exact BT.get_list r (k - n) h.2
end Go.AE
