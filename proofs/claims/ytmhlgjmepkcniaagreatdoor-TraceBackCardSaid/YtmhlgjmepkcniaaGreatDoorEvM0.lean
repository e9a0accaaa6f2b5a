/- Ev: a call, and what it comes to. -/
import Derived.Test.YtmhlgjmepkcniaaGreatDoorEvN
import Derived.KernelRfl
namespace Go.Proofs.YtmhlgjmepkcniaaGreatDoor
open Go Go.Ev
set_option maxRecDepth 1000000
theorem c_hap0 : n_hap0.chk cxR (evM cxR [] 60) = true := by kernel_rfl
end Go.Proofs.YtmhlgjmepkcniaaGreatDoor
