/- Ev: a piece of the run. -/
import Derived.Test.YtenogjddakjhcaaGreatDoorEvN
import Derived.KernelRfl
namespace Go.Proofs.YtenogjddakjhcaaGreatDoor
open Go Go.Ev
set_option maxRecDepth 1000000
theorem piece6 : cutT (List.range 20) (evL cxR (evM cxR [n_check, n_end, n_cycle] 60) ((codeL.drop 5).take 1) st5.1 st5.2) = some st6 := by kernel_rfl
end Go.Proofs.YtenogjddakjhcaaGreatDoor
