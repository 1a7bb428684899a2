import Derived.Test.YtgakphbkknfmdaaDoorPD4
import Derived.Test.YtgakphbkknfmdaaDoorAEG8
set_option linter.all false
set_option linter.unusedSimpArgs false
set_option linter.unusedVariables false
set_option maxRecDepth 100000
namespace Go.AE.D
open Go Go.Proofs Go.AE
theorem hE : E.Ok P := envOk rfl rfl (by kernel_rfl) ty_ok
theorem hF : FnOk E P := fnOk (by kernel_rfl) rfl (by kernel_rfl) fn_ok (by kernel_rfl)
theorem hX : ExtOk E P := ext_ok (kind := kind) rfl fun f k hk => by
  unfold kind at hk
  split at hk
  · rename_i h
    cases hk
    cases Nat.eq_of_beq_eq_true h
    exact ⟨Tryd.f85, by kernel_rfl, by kernel_rfl, by kernel_rfl, by kernel_rfl, show Extern.find Tryd.f85 = some Extern.AbiNoEscape.same by kernel_rfl⟩
  · split at hk
    · rename_i h
      cases hk
      cases Nat.eq_of_beq_eq_true h
      exact ⟨Tryd.f91, by kernel_rfl, by kernel_rfl, by kernel_rfl, by kernel_rfl, show Extern.find Tryd.f91 = some Extern.BytealgIndexByte.indexByte by kernel_rfl⟩
    · split at hk
      · rename_i h
        cases hk
        cases Nat.eq_of_beq_eq_true h
        exact ⟨Tryd.f108, by kernel_rfl, by kernel_rfl, by kernel_rfl, by kernel_rfl, show Extern.find Tryd.f108 = some Extern.BytealgCount.count by kernel_rfl⟩
      · split at hk
        · rename_i h
          cases hk
          cases Nat.eq_of_beq_eq_true h
          exact ⟨Tryd.f116, by kernel_rfl, by kernel_rfl, by kernel_rfl, by kernel_rfl, ⟨#[3], by kernel_rfl⟩, by kernel_rfl, by kernel_rfl⟩
        · cases hk
theorem aw36 : Calls.isIt ((calls E 1000000).call 19 [] (AE.s0 E.glob)) isTrueV = true := by kernel_rfl
noncomputable def C1 : Calls := (calls E 0).spec 19 (closedZ (.bool true))
theorem C1_ok : CallsOk P (okOf E) E.glob C1 := closed_ok hE hF hX aw36 (calls_ok hE hF hX 0)
noncomputable def C2 : Calls := C1.spec 53 Z53
theorem C2_ok : CallsOk P (okOf E) E.glob C2 := spec_ok hE hF C1_ok fun args s v s' h => ⟨(by obtain ⟨_, _, _, _, h⟩ := h; exact h.pick), b53 h⟩
noncomputable def C3 : Calls := C2.spec 70 Z70
theorem C3_ok : CallsOk P (okOf E) E.glob C3 := spec_ok hE hF C2_ok fun args s v s' h => ⟨(by obtain ⟨_, _, _, _, _, _, _, h⟩ := h; exact h.pick), b70 (spec_meets _ _ _) h⟩
noncomputable def C4 : Calls := C3.spec 52 Z52
theorem C4_ok : CallsOk P (okOf E) E.glob C4 := spec_ok hE hF C3_ok fun args s v s' h => ⟨(by obtain ⟨_, _, _, _, _, _, _, h⟩ := h; exact h.pick), b52 (spec_meets _ _ _) h⟩
noncomputable def C5 : Calls := C4.spec 24 ZR
theorem C5_ok : CallsOk P (okOf E) E.glob C5 := spec_ok hE hF C4_ok fun args s v s' h => ⟨(by obtain ⟨_, _, _, _, _, _, _, _, _, h⟩ := h; exact h.pick), b24 (spec_meets _ _ _) h⟩
noncomputable def C6 : Calls := C5.spec 25 ZR
theorem C6_ok : CallsOk P (okOf E) E.glob C6 := spec_ok hE hF C5_ok fun args s v s' h => ⟨(by obtain ⟨_, _, _, _, _, _, _, _, _, h⟩ := h; exact h.pick), b25 h⟩
noncomputable def C7 : Calls := C6.spec 27 ZD
theorem C7_ok : CallsOk P (okOf E) E.glob C7 := spec_ok hE hF C6_ok fun args s v s' h => ⟨(by obtain ⟨_, _, _, _, _, _, _, _, _, _, _, _, _, _, h⟩ := h; exact h.pick), b27 ((spec_meets _ _ _).other rfl) h⟩
theorem C7_awake : Meets C7 19 (closedZ (.bool true)) := ((((((spec_meets _ _ _).other rfl).other rfl).other rfl).other rfl).other rfl).other rfl
theorem law5' {W H : Int} {L : Value} {zs : List Int} {W' H' : Int} {L' : Value} {zs' : List Int} {s : AS}
    (hz : IntsAt s L zs) (hz' : IntsAt s L' zs') (hl : zs.length < 9223372036854775808) (hl' : zs'.length < 9223372036854775808) (hs : Std s) : WpF E C7 5 [img W H L, img W' H' L'] (fun v _ => v = .bool true) s :=
  law5 C7_awake (spec_meets _ _ _) ((spec_meets _ _ _).other rfl) hz hz' hl hl' hs
end Go.AE.D
