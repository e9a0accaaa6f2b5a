/- Ev: a piece of the run. -/
import Derived.Test.YtenogjddakjhcaaGreatDoorEvN
import Derived.KernelRfl
namespace Go.Proofs.YtenogjddakjhcaaGreatDoor
open Go Go.Ev
set_option maxRecDepth 1000000
theorem piece7 : cutT (List.range 20) (evL cxR (evM cxR [] 60) ((codeL.drop 6).take 1) st6.1 st6.2) = some st7 := by kernel_rfl
end Go.Proofs.YtenogjddakjhcaaGreatDoor
