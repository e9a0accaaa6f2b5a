/- Ev: a piece of the run. -/
import Derived.Test.YtmhlgjmepkcniaaGreatDoorEvN
import Derived.KernelRfl
namespace Go.Proofs.YtmhlgjmepkcniaaGreatDoor
open Go Go.Ev
set_option maxRecDepth 1000000
theorem piece6 : cutT (List.range 22) (evL cxR (evM cxR [n_hap0] 60) ((codeL.drop 5).take 1) st5.1 st5.2) = some st6 := by kernel_rfl
end Go.Proofs.YtmhlgjmepkcniaaGreatDoor
