/-
  Proved here: the statement 'PicDiffsCardSaid', that is, that temperalaw36.PicDiffs comes back with true, whatever two images it is handed, and leaves them as they were; on the conditions that the card itself writes out.
-/
import Derived.Test.YtgakphbkknfmdaaDoorPD8
set_option linter.all false
set_option linter.unusedSimpArgs false
set_option linter.unusedVariables false
namespace Go.Proofs.YtgakphbkknfmdaaDoor
theorem picDiffsCardHolds : Rows.PicDiffsCardSaid := Go.AE.D.card
end Go.Proofs.YtgakphbkknfmdaaDoor
