import Derived.Test.YtgakphbkknfmdaaDoorAEG7
import Derived.Test.YtgakphbkknfmdaaDoorAETab
set_option linter.all false
set_option linter.unusedSimpArgs false
set_option linter.unusedVariables false
set_option autoImplicit false
namespace Go.AE
open Go
variable {P : Program}
theorem envOk {E : Env} (hp : E.P = P) {t : BT TypeInfo} (ht : E.ti = t.get) (hf : t.fine = true) (hl : t.list = P.types.toList) : E.Ok P where
  prog := hp
  ti := fun n i h => by
    rw [ht, BT.get_list t n hf, hl] at h
    have : P.types[n]? = some i := by rw [← Array.getElem?_toList]; exact h
    rw [← this]
    have hlt : n < P.types.size := by
      rcases Nat.lt_or_ge n P.types.size with h | h
      · exact h
      · rw [Array.getElem?_eq_none h] at this; cases this
    unfold Tables.info?
    rw [if_pos hlt]
def entered (f : Func) : Bool := f.body.isNone || !(f.name == "runtime.NumGoroutine")
theorem fnOk {E : Env} (hm : P.follows .mixedOrders = true) {t : BT Func} (ht : E.fn = t.get) (hf : t.fine = true) (hl : t.list = P.funcs.toList) (hn : t.list.all entered = true) : FnOk E P where
  mixed := hm
  fn := fun f fn c h hb => by
    rw [ht, BT.get_list t f hf] at h
    have hmem : fn ∈ t.list := List.mem_of_getElem? h
    have he := List.all_eq_true.1 hn fn hmem
    rw [hl] at h
    have hP : P.funcs[f]? = some fn := by rw [← Array.getElem?_toList]; exact h
    refine ⟨hP, fun args W => ?_⟩
    unfold entered at he
    rw [hb] at he
    have h1 : fn.name ≠ "runtime.NumGoroutine" := by simpa using he
    simp [callFunc, hP, h1, hb]
end Go.AE
