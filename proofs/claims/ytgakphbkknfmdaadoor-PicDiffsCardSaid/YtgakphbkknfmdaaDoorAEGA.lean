import Derived.Test.YtgakphbkknfmdaaDoorAEG9
import Derived.ProofKit
import Derived.OpenShut
import Derived.WalkKit
import Derived.Deep.DeepHandedRow
import Derived.Carry
set_option linter.all false
set_option linter.unusedSimpArgs false
set_option linter.unusedVariables false
set_option autoImplicit false
namespace Go.AE
open Go Go.ChangeShapes Go.WideShapes Go.RowKit
variable {P : Program} {H : Type} {enc : TypeId × Value → H}
/-- A call that leaves all that was there as it was. -/
theorem post_below_mk {f : Func} {s : ChangeSpec} {apart fresh handsOn again : Bool} {W W' : World} {args : Array Value} {v : Value} {ds gs : List (DataW H)} {before pa pv : List MemPlace}
    (hW : DataW.Whole enc P f.params.toList s.vars apart W args.toList ds gs before) (hb : Below W.heap.size W W')
    (hres : ∀ (b : Nat) (sp : Nat → Bool) (hd : Bool), DataW.TrodAll enc P W' b sp hd f.resultTypes.toList (v.resultList f.resultTypes.size) (s.fn H (ds ++ gs)).results [])
    (hargs : ∀ sp : Nat → Bool, (∀ p ∈ before, sp p.block = true) → DataW.TrodAll enc P W' 0 sp true f.params.toList args.toList (s.fn H (ds ++ gs)).args pa)
    (hvars : ∀ sp : Nat → Bool, (∀ p ∈ before, sp p.block = true) → DataW.TrodVars enc P W' sp s.vars (s.fn H (ds ++ gs)).vars pv)
    (hps : before = pa ++ pv)
    (hok : ∀ (j : Nat) (t : TypeId) (r : Value), f.resultTypes[j]? = some t → (v.resultList f.resultTypes.size)[j]? = some r → Value.okWide P W' .any 0 t r) :
    s.post enc P f apart fresh handsOn again W args v W' := by
  have hlt := hW.lt
  refine ⟨ds, gs, before, [], pa, pv, hW, hres _ _ _, hargs _ (fun p hp => by simpa using hlt p hp), hvars _ (fun p hp => by simpa using hlt p hp), World.keptBut_mono (fun p hp => ⟨hp, ?_⟩) (hb.frame (· ∈ before)), fun _ => ?_⟩
  · subst hps
    exact Or.inr (List.mem_append.1 hp)
  · obtain ⟨_, _, _, _, _, hz, hn⟩ := hW
    refine ⟨hok, _, _, ([] ++ pa) ++ pv, ⟨[] ++ pa, pv, trodAll_append (hargs _ fun _ _ => rfl) (hres _ _ _), hvars _ fun _ _ => rfl, rfl, fun b off hp => ?_, fun ha => ?_⟩, fun p hp _ => by simpa [hps] using hp⟩
    · have hp' : MemPlace.cell b off ∈ before := by simpa [hps] using hp
      rw [hb.frozen (hlt _ hp')]
      exact hz b off hp'
    · simpa [hps] using hn ha
/-- A call that comes to true, whatever is handed in: as the rows ask. -/
theorem calls_true {E : Env} (hE : E.Ok P) (hF : FnOk E P) {C : Calls} (hC : CallsOk P (okOf E) E.glob C) {f : FuncId} {args : List Value} {ls : List (Slot × Option AObj)} {W : World} {args' : Array Value} (hls : ∀ x ∈ ls, InOk P W x.1 x.2)
    (h : WpF E C f args (fun v _ => v = .bool true) (inS E.glob (ls.map (·.2))).flat) (ha : LRel (inI E.glob (ls.map (·.1))) args args'.toList) :
    Go.Calls P f args' W fun e W' => e = .returned (.bool true) ∧ Below W.heap.size W W' := by
  obtain ⟨_, hc⟩ := wpF_sound hE hF hC h (inRel hls) ha
  refine Go.Calls.mono (callsIn_wide.1 hc) fun e W' ⟨v, v', s', ι', h1, h2, h3, h4⟩ => ?_
  subst h4
  cases h3
  exact ⟨h1, post_below h2 fun k l hk => inOwn hls hk⟩
end Go.AE
