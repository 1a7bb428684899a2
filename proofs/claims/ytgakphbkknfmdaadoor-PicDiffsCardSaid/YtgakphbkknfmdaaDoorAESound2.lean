import Derived.Test.YtgakphbkknfmdaaDoorAESound1
import Derived.RangeFuncRecord
set_option linter.all false
set_option linter.unusedSimpArgs false
set_option linter.unusedVariables false
set_option autoImplicit false
namespace Go.AE
variable {P : Program} {ok : Nat → Code → Bool} {G : Nat}

/-- The fence of an activation, or of a round. -/
def Fr : Option Nat → Fence
  | none => Fence.wide
  | some l => Fence.wide.inRound l
theorem Fr.fn (r : Option Nat) (f : FuncId) : (Fr r).fn f := by cases r <;> trivial
theorem Fr.depth (r : Option Nat) : (Fr r).depth = none := by cases r <;> rfl
theorem Fr.round (r : Option Nat) : (Fr r).round = r := by cases r <;> rfl
theorem Fr.calls (r : Option Nat) : CallsIn (Fr r) = CallsIn Fence.wide := by cases r <;> rfl
theorem Fr.rounds (r : Option Nat) : RoundIn (Fr r) = RoundIn Fence.wide := by cases r <;> rfl

/-- A call has come back with this value, and this state. -/
def Got (P : Program) (ok : Nat → Code → Bool) (G : Nat) (ι : Iota) (W : World) (v : Value) (s' : AS) : Ending → World → Prop := fun e W' =>
  ∃ v' ι', e = .returned v' ∧ Post P ok G ι W ι' s' W' ∧ VRel ι' v v'

def CallOk (P : Program) (ok : Nat → Code → Bool) (G : Nat) (ι : Iota) (W : World) (f : FuncId) (args : Array Value) (v : Value) (s' : AS) : Prop :=
  ((callFunc f args).run P W = .ok (.enter f args) W ∧ CallsIn Fence.wide 0 P f args W (Got P ok G ι W v s')) ∨ OpOk P ok G ι W (callFunc f args) (v, s')
def YieldOk (P : Program) (ok : Nat → Code → Bool) (G : Nat) (ι : Iota) (W : World) (l : Nat) (args : Array Value) (v : Value) (s' : AS) : Prop :=
  ∃ f tmps assign body, (Instr.yield l args).run P W = .ok (.round l f tmps assign body) W ∧ RoundIn Fence.wide 0 P l f tmps assign body W (Got P ok G ι W v s')

structure CallsOk (P : Program) (ok : Nat → Code → Bool) (G : Nat) (C : Calls) : Prop where
  call : ∀ {f : FuncId} {args : List Value} {s : AS} {v : Value} {s' : AS} {ι : Iota} {W : World} {args' : Array Value}, C.call f args s = some (v, s') → Rel P ok G ι s W → LRel ι args args'.toList →
    CallOk P ok G ι W f args' v s'
  yield : ∀ {l : Nat} {args : List Value} {s : AS} {v : Value} {s' : AS} {ι : Iota} {W : World} {x : Loc} {args' : Array Value}, C.yield l args s = some (v, s') → Rel P ok G ι s W → ι l = .live x → LRel ι args args'.toList →
    YieldOk P ok G ι W x.block args' v s'

/-- What an operation comes to, in whatever activation or round. -/
def OperOk (P : Program) (ok : Nat → Code → Bool) (G : Nat) (r : Option Nat) (ι : Iota) (o : Oper) (a : Act) (W : World) (v : Value) (s' : AS) : Prop :=
  ∀ (next : Act → World → Prop) (Q : Exit → Act → World → Prop), (∀ ι' v' W', Post P ok G ι W ι' s' W' → VRel ι' v v' → next (a.put o.dst v') W') → o.wpIn (Fr r) 0 P a W next Q

theorem operOk_of_op {r : Option Nat} {ι : Iota} {o : Oper} {a : Act} {W : World} {v : Value} {s' : AS} (hd : ∀ c, o.op ≠ .defer c) (h : OpOk P ok G ι W (execOp a.eval o) (v, s')) : OperOk P ok G r ι o a W v s' := by
  intro next Q hn
  obtain ⟨ι', v', W', hr, hp, hv⟩ := h
  refine ⟨fun f _ => Fr.fn r f, ?_⟩
  rw [Oper.semAt_eq _ _ _ hd]
  rcases hr with hr | ⟨hr, rfl⟩
  · rw [hr]; exact hn ι' v' W' hp hv
  · rw [hr]; exact hn ι' undef W' hp hv

theorem operOk_of_call {r : Option Nat} {ι : Iota} {o : Oper} {a : Act} {W : World} {v : Value} {s' : AS} {c : Call} (ho : o.op = .call c) {f : FuncId} {args : Array Value}
    (he : (execOp a.eval o).run P W = (callFunc f args).run P W) (h : CallOk P ok G ι W f args v s') : OperOk P ok G r ι o a W v s' := by
  intro next Q hn
  have hd : ∀ c, o.op ≠ .defer c := fun c e => by rw [ho] at e; cases e
  rcases h with ⟨hr, hc⟩ | ⟨ι', v', W', hr, hp, hv⟩
  · refine ⟨fun f _ => Fr.fn r f, ?_⟩
    rw [Oper.semAt_eq _ _ _ hd, he, hr, Oper.uponIn_enter]
    refine ⟨fun h => (by rw [Fr.depth] at h; cases h), ?_⟩
    rw [Fr.calls]
    exact hc.mono fun e W' ⟨v', ι', he, hp, hv⟩ => by subst he; exact hn ι' v' W' hp hv
  · refine ⟨fun f _ => Fr.fn r f, ?_⟩
    rw [Oper.semAt_eq _ _ _ hd, he]
    rcases hr with hr | ⟨hr, rfl⟩
    · rw [hr]; exact hn ι' v' W' hp hv
    · rw [hr]; exact hn ι' undef W' hp hv

theorem operOk_of_yield {r : Option Nat} {ι : Iota} {o : Oper} {a : Act} {W : World} {v : Value} {s' : AS} {c : Call} (ho : o.op = .call c) {l : Nat} {args : Array Value}
    (he : (execOp a.eval o).run P W = (Instr.yield l args).run P W) (h : YieldOk P ok G ι W l args v s') : OperOk P ok G r ι o a W v s' := by
  intro next Q hn
  have hd : ∀ c, o.op ≠ .defer c := fun c e => by rw [ho] at e; cases e
  obtain ⟨f, tmps, assign, body, hr, hc⟩ := h
  refine ⟨fun f _ => Fr.fn r f, ?_⟩
  rw [Oper.semAt_eq _ _ _ hd, he, hr, Oper.uponIn_round]
  refine ⟨fun h => (by rw [Fr.depth] at h; cases h), ?_⟩
  rw [Fr.rounds]
  exact hc.mono fun e W' ⟨v', ι', he, hp, hv⟩ => by subst he; exact hn ι' v' W' hp hv

theorem methodF_run {E : Env} (hE : E.Ok P) {u : TypeId} {v v' : Value} {name : String} {f : FuncId} (h : methodF E u v name = some f) (W : World) (n : Nat) :
    (method (n + 1) u v' name).run P W = .ok (f, v') W := by
  unfold methodF at h
  cases hi : E.ti u with
  | none => simp [hi] at h
  | some i =>
    simp only [hi, Option.bind_eq_bind, Option.bind_some] at h
    cases hm : i.methods.toList.find? (·.name == name) with
    | none => simp [hm] at h
    | some m =>
      simp only [hm, Option.bind_some] at h
      split at h
      · cases h
      · rename_i hp
        have hpath : m.path.toList = [] := by
          have : m.path.size = 0 := by omega
          simpa using this
        have hfind : i.methods.find? (·.name == name) = some m := by rw [← Array.find?_toList]; exact hm
        cases hd : E.und u with
        | none => simp [hd] at h
        | some d =>
          simp only [hd, Option.bind_some] at h
          have hdd := fun W => rund (hE.und hd) W
          unfold method
          simp only [Sem.run_bind, rinfo (hE.ti _ _ hi), Result.andThen, hfind, hpath, follow, Sem.run_pure]
          split at h
          · rename_i hmf
            cases h
            simp only [hmf, Sem.run_bind, receiverAt, hdd, Result.andThen, Sem.run_pure, Place.get]
          · cases h
          · rename_i d _ _ hmf hnp
            cases h
            simp only [hmf, Sem.run_bind, receiverAt, hdd, Result.andThen, Sem.run_pure, Place.get]
          · cases h

theorem args_rel {ι : Iota} {t : T} {a : Act} (args : Array Operand) (h : ∀ x ∈ args, VRel ι (rho t x) (a.eval x)) : LRel ι ((getsOf args.toList).map fun g => g.of t) (args.map a.eval).toList := by
  have := arr_map (ι := ι) (ρ := rho t) (A := a.eval) args h
  have e : (getsOf args.toList).map (fun g => g.of t) = args.toList.map (rho t) := by
    unfold getsOf
    rw [List.map_map]
    rfl
  rw [e]
  exact this

theorem invokeF_sound {C : Calls} (hC : CallsOk P ok G C) {fv fv' : Value} {args : List Value} {s s' : AS} {v : Value} {ι : Iota} {W : World} {args' : Array Value} {r : Option Nat} {a : Act} {o : Oper} {c : Call}
    (ho : o.op = .call c) (h : invokeF C fv args s = some (v, s')) (hr : Rel P ok G ι s W) (hf : VRel ι fv fv') (ha : LRel ι args args'.toList)
    (he : (execOp a.eval o).run P W = (do let d ← Deferred.ofValue fv' args'; invoke d.target d.args : Sem Next).run P W) : OperOk P ok G r ι o a W v s' := by
  unfold invokeF at h
  cases hf with
  | func hfn hs1 h1 hs2 h2 =>
    rename_i fa fa' fi fi' ca ca'
    have l1 := VRel.cells hs1 h1
    have l2 := VRel.cells hs2 h2
    cases hfn with
    | same g =>
      obtain ⟨fi⟩ := fi
      obtain ⟨ca⟩ := ca
      refine operOk_of_call ho (f := g) (args := fi' ++ args' ++ ca') ?_ (hC.call h hr ?_)
      · rw [he]; simp [Deferred.ofValue, invoke]
      · simpa using (l1.append ha).append l2
    | yield hl hrow hb =>
      obtain ⟨fi⟩ := fi
      cases fi with
      | cons x xs => simp at h
      | nil =>
        obtain ⟨fi'⟩ := fi'
        have : fi' = [] := List.length_eq_zero_iff.1 (by simpa using hs1.symm)
        subst this
        subst hb
        refine operOk_of_yield ho (l := _) (args := args') ?_ (hC.yield h hr hl ha)
        rw [he]; simp [Deferred.ofValue, invoke]
  | _ => simp at h
end Go.AE
