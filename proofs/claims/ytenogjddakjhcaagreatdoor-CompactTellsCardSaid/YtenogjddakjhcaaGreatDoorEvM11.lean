/- Ev: a call, and what it comes to. -/
import Derived.Test.YtenogjddakjhcaaGreatDoorEvN
import Derived.KernelRfl
namespace Go.Proofs.YtenogjddakjhcaaGreatDoor
open Go Go.Ev
set_option maxRecDepth 1000000
theorem c_next7 : n_next7.chk cxR (evM cxR [] 60) = true := by kernel_rfl
end Go.Proofs.YtenogjddakjhcaaGreatDoor
