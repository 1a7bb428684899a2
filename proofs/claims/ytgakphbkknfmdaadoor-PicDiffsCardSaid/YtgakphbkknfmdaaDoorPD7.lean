import Derived.Test.YtgakphbkknfmdaaDoorPD6
import Derived.Deep.DeepLaidRun
set_option linter.all false
set_option linter.unusedSimpArgs false
set_option linter.unusedVariables false
set_option maxRecDepth 100000
namespace Go.AE.D
open Go Go.Proofs Go.AE Go.ChangeShapes Go.WideShapes Go.RowKit Go.Joins Go.Deep Go.WideElems Go.Proofs.YtgakphbkknfmdaaDoor
theorem own : ownKnob Tryd.prog.godebug = none := by kernel_rfl
/-- The cells of a table that is laid. -/
def flatD : DataW Unit → List Value
  | .lit (.int k n) => [.int k n]
  | .agg l => flatDs l
  | _ => []
where
  flatDs : List (DataW Unit) → List Value
  | [] => []
  | d :: l => flatD d ++ flatDs l
noncomputable def low : Nat := (World.holding Tryd.prog default ⟨#[], #[], []⟩).heap.size
noncomputable def putCells (h : Array Obj) (g : Nat) (cs : List Value) : Array Obj := h.modify g fun
  | .cells _ t frozen => .cells ⟨cs⟩ t frozen
  | o => o
abbrev rangeS : ByteArray := { data := #[118, 97, 108, 117, 101, 32, 111, 117, 116, 32, 111, 102, 32, 114, 97, 110, 103, 101] }
abbrev syntaxS : ByteArray := { data := #[105, 110, 118, 97, 108, 105, 100, 32, 115, 121, 110, 116, 97, 120] }
/-- A world for the witness: what the initialisers lay. -/
noncomputable def laidWorld (os : Os) : World :=
  let w0 := World.holding Tryd.prog os ⟨#[.cells #[.string rangeS] 188, .cells #[.string syntaxS] 188], #[], []⟩
  { w0 with heap := putCells (putCells (putCells (putCells (putCells (putCells (putCells w0.heap 1 (flatD Rows.laid_unicode_utf8_first)) 2 (flatD Rows.laid_unicode_utf8_acceptRanges)) 5 (flatD Rows.laid_internal_strconv_uint64pow10)) 6 (flatD Rows.laid_math_bits_deBruijn32tab)) 7 (flatD Rows.laid_math_bits_deBruijn64tab))
      4 [.iface 186 (.pointer (some ⟨low, 0, none⟩))]) 3 [.iface 186 (.pointer (some ⟨low + 1, 0, none⟩))] }
theorem laid_met (os : Os) (args : Array Value) : laidMet Tryd.prog Rows.picDiffsRow.laid ((laidWorld os).forCall (fun _ _ => 0) ⟨#[], args, []⟩).memory :=
  laidMet_of_run3 10 (by kernel_rfl) (by kernel_rfl) (by kernel_rfl)
end Go.AE.D
