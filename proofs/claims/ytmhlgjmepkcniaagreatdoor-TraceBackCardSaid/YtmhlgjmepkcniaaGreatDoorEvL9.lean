/- Ev: a piece of the run. -/
import Derived.Test.YtmhlgjmepkcniaaGreatDoorEvN
import Derived.KernelRfl
namespace Go.Proofs.YtmhlgjmepkcniaaGreatDoor
open Go Go.Ev
set_option maxRecDepth 1000000
theorem piece9 : cutT (List.range 22) (evL cxR (evM cxR [] 60) ((codeL.drop 6).take 3) st6.1 st6.2) = some st9 := by kernel_rfl
end Go.Proofs.YtmhlgjmepkcniaaGreatDoor
