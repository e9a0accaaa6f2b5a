/- Ev: a piece of the run. -/
import Derived.Test.YtenogjddakjhcaaGreatDoorEvN
import Derived.KernelRfl
namespace Go.Proofs.YtenogjddakjhcaaGreatDoor
open Go Go.Ev
set_option maxRecDepth 1000000
theorem piece3 : cutT (List.range 20) (evL cxR (evM cxR [] 60) ((codeL.drop 2).take 1) st2.1 st2.2) = some st3 := by kernel_rfl
end Go.Proofs.YtenogjddakjhcaaGreatDoor
