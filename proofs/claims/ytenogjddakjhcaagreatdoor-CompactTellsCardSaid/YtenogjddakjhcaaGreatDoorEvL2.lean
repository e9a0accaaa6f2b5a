/- Ev: a piece of the run. -/
import Derived.Test.YtenogjddakjhcaaGreatDoorEvN
import Derived.KernelRfl
namespace Go.Proofs.YtenogjddakjhcaaGreatDoor
open Go Go.Ev
set_option maxRecDepth 1000000
theorem piece2 : cutT (List.range 20) (evL cxR (evM cxR [] 60) ((codeL.drop 0).take 2) st0.1 st0.2) = some st2 := by kernel_rfl
end Go.Proofs.YtenogjddakjhcaaGreatDoor
