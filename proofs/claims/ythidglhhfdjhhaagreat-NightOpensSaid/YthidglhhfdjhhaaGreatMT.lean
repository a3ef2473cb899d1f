/- Facts of the program as a whole. -/
import Derived.Test.YthidglhhfdjhhaaGreatRows
import Derived.Test.YthidglhhfdjhhaaGreatLA
import Derived.Test.YthidglhhfdjhhaaGreatZD
set_option linter.unusedSimpArgs false
set_option linter.unusedVariables false
namespace Go.Wz
open Go.ChangeShapes Go.WideShapes Go.ChangeAt Go.RowKit

theorem tryz_names : NamesOK Proofs.Tryz.prog := NamesOK.of_all (by kernel_rfl)
theorem tryz_mixed : Proofs.Tryz.prog.follows .mixedOrders = true := by kernel_rfl
theorem tryz_laid : laidOutB Proofs.Tryz.prog = true := by kernel_rfl
theorem tryz_own : ownKnob Proofs.Tryz.prog.godebug = none := by kernel_rfl

theorem CF_ok (N d B : Nat) : CallOK Proofs.Tryz.prog B (CF N d) := callF_ok tryz_names tryz_mixed hints N d
end Go.Wz
