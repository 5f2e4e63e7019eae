/- Texts put together: SliceR. -/
import Derived.Test.YtnplgklnkcjmnaaGreatDoorDictUpdateM4
import Derived.OpenShut
import Derived.WalkKit
import Derived.ProofKit
import Derived.SizedLaws
namespace Go.Proofs.YtnplgklnkcjmnaaGreatDoor
open Go.ChangeShapes Go.WideShapes Go.ChangeAt Go.RowKit
set_option linter.unusedVariables false
set_option linter.unusedSimpArgs false
theorem laidOut : laidOutB Tryz.prog = true := by kernel_rfl
end Go.Proofs.YtnplgklnkcjmnaaGreatDoor
