/- What every row's step needs. -/
import Derived.Test.YtkfncibmfcdokaaRows
import Derived.Test.YtkfncibmfcdokaaXOpen2
set_option linter.unusedVariables false
namespace Go.Proofs.Ytkfncibmfcdokaa
open Go Go.RowKit Go.X
theorem ownX : ownKnob Try.prog.godebug = none := by kernel_rfl
theorem laidOutX : laidOutB Try.prog = true := by kernel_rfl
end Go.Proofs.Ytkfncibmfcdokaa
