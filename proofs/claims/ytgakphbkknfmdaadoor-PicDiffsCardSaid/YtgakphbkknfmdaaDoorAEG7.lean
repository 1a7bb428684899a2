import Derived.Test.YtgakphbkknfmdaaDoorAEG6
set_option linter.all false
set_option linter.unusedSimpArgs false
set_option linter.unusedVariables false
set_option autoImplicit false
namespace Go.AE
open Go
variable {P : Program}
/-! ### == of two structs of two numbers -/
theorem pv_eqInt {d t : Nat} {k k' : IntKind} {a c : Int} (h : P.underlying t = some (.int k')) : pureVal P (Op.equalIn (d + 1) t (.int k a) (.int k c)) = some (a == c) := by
  rw [Op.equalIn, pureVal_bind (pureVal_und h)]
  simp
  rfl
theorem pv_part {t n : Nat} {k : IntKind} {l : List Value} {v : Value} (h : P.underlying t = some (.int k)) (hv : l[n]? = some v) : pureVal P (part t ⟨l⟩ n) = some v := by
  unfold part
  have : pureVal P (isAgg t) = some false := by
    unfold isAgg
    rw [pureVal_bind (pureVal_und h)]
    rfl
  rw [pureVal_bind this]
  simp [hv]
  rfl
theorem pv_eqTwo {d t : Nat} {f0 f1 : Field} {xs ys : List Value} {x0 x1 y0 y1 : Value} {b0 b1 : Bool} (h : P.underlying t = some (.struct #[f0, f1])) (hs : P.stoodInHeld t = false) (n0 : f0.name ≠ "_") (n1 : f1.name ≠ "_")
    (p0 : pureVal P (part f0.type ⟨xs⟩ f0.offset) = some x0) (q0 : pureVal P (part f0.type ⟨ys⟩ f0.offset) = some y0)
    (p1 : pureVal P (part f1.type ⟨xs⟩ f1.offset) = some x1) (q1 : pureVal P (part f1.type ⟨ys⟩ f1.offset) = some y1)
    (e0 : pureVal P (Op.equalIn d f0.type x0 y0) = some b0) (e1 : pureVal P (Op.equalIn d f1.type x1 y1) = some b1) : pureVal P (Op.equalIn (d + 1) t (.agg ⟨xs⟩) (.agg ⟨ys⟩)) = some (b0 && b1) := by
  rw [Op.equalIn, pureVal_bind (pureVal_und h)]
  have hp : pureVal P program = some P := rfl
  simp only []
  rw [pureVal_bind hp, hs]
  simp [n0, n1]
  rw [pureVal_bind p0, pureVal_bind q0, pureVal_bind e0]
  cases b0 with
  | false => rfl
  | true =>
    rw [if_neg (by simp), pureVal_bind (S := pure (ForInStep.yield ((none, ()) : Option Bool × Unit))) rfl]
    cases b1 with
    | false => rw [pureVal_bind (a := ((some false, ()) : Option Bool × Unit)) (by rw [pureVal_bind p1, pureVal_bind q1, pureVal_bind e1]; rfl)]; rfl
    | true => rw [pureVal_bind (a := ((none, ()) : Option Bool × Unit)) (by rw [pureVal_bind p1, pureVal_bind q1, pureVal_bind e1]; rfl)]; rfl
theorem eqG_two {E : Env} {s : AS} {op : BinOp} {t : Nat} {f0 f1 : Field} {k : IntKind} {a b c d : Int} (hE : E.P.underlying t = some (.struct #[f0, f1])) (hu : E.und t = some (.struct #[f0, f1])) (hs : E.P.stoodInHeld t = false) (n0 : f0.name ≠ "_") (n1 : f1.name ≠ "_")
    (t0 : E.P.underlying f0.type = some (.int k)) (t1 : E.P.underlying f1.type = some (.int k)) (o0 : f0.offset = 0) (o1 : f1.offset = 1) (hg : E.P.eqGuardType E.P.depth t = false) :
    eqG E s .neq t (.agg ⟨[.int k a, .int k b]⟩) (.agg ⟨[.int k c, .int k d]⟩) = some (.bool (!((a == c) && (b == d)))) := by
  have ha : aequal E s t (.agg ⟨[.int k a, .int k b]⟩) (.agg ⟨[.int k c, .int k d]⟩) = none := by unfold aequal; rw [hu]
  have hq : pureVal E.P (Op.equalIn (9999 + 1) t (.agg ⟨[.int k a, .int k b]⟩) (.agg ⟨[.int k c, .int k d]⟩)) = some ((a == c) && (b == d)) :=
    pv_eqTwo hE hs n0 n1 (pv_part t0 (by rw [o0]; rfl)) (pv_part t0 (by rw [o0]; rfl)) (pv_part t1 (by rw [o1]; rfl)) (pv_part t1 (by rw [o1]; rfl)) (pv_eqInt t0) (pv_eqInt t1)
  have hguard : pureVal E.P (eqGuard .neq t (.tmp 0) (.tmp 0) (.agg ⟨[.int k a, .int k b]⟩) (.agg ⟨[.int k c, .int k d]⟩)) = some () := by
    unfold eqGuard
    simp only []
    have hp : pureVal E.P program = some E.P := rfl
    simp
    rw [pureVal_bind hp, pureVal_bind hp, hg]
    rfl
  unfold eqG
  rw [ha]
  simp only [aggG]
  rw [if_pos ⟨rfl, rfl⟩]
  unfold plainV
  rw [pureVal_bind hguard]
  have hb : pureVal E.P (Go.binOp .neq t (.agg ⟨[.int k a, .int k b]⟩) (.agg ⟨[.int k c, .int k d]⟩)) = some (.bool (!((a == c) && (b == d)))) := by
    unfold Go.binOp Op.equal
    have hq' : pureVal E.P (Op.equalIn Op.maxDepth t (.agg ⟨[.int k a, .int k b]⟩) (.agg ⟨[.int k c, .int k d]⟩)) = some ((a == c) && (b == d)) := hq
    simp only []
    rw [pureVal_bind hq']
    rfl
  rw [hb]
  rfl
end Go.AE
