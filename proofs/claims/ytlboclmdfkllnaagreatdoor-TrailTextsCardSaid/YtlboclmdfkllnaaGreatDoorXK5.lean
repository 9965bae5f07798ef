/- Texts of the claim, merged: YLife24. -/
import Derived.Test.YtlboclmdfkllnaaGreatDoorXK4
import Derived.KernelRfl
set_option maxRecDepth 100000
section
/- The life of law 24: works yields true. -/
namespace Go.Proofs.YtlboclmdfkllnaaGreatDoor
open Go Go.Y Go.X
noncomputable abbrev hdL : Hd := hdF Tryz.prog ftT.get rkT 100000 400
theorem hdL_ok : HdOK Tryz.prog hdL := hd_ok ftT_ok rkT 400
theorem works_yields : yields (hdL.call .nil 4 [] ⟨.nil, 1⟩) = true := by kernel_rfl
theorem works_ok (w : World) : Calls Tryz.prog 4 #[] w fun e w' => e = .returned (.bool true) ∧ Chg [] w w' := life' ftT_ok works_yields w
end Go.Proofs.YtlboclmdfkllnaaGreatDoor
end
