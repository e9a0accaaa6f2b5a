/- Ev: a call, and what it comes to. -/
import Derived.Test.YtenogjddakjhcaaGreatDoorEvN
import Derived.KernelRfl
namespace Go.Proofs.YtenogjddakjhcaaGreatDoor
open Go Go.Ev
set_option maxRecDepth 1000000
theorem c_cycle : n_cycle.chk cxR (evM cxR [n_open, n_do, n_next0, n_next1, n_next2, n_next3, n_next4, n_next5, n_next6, n_next7, n_next8] 60) = true := by kernel_rfl
end Go.Proofs.YtenogjddakjhcaaGreatDoor
