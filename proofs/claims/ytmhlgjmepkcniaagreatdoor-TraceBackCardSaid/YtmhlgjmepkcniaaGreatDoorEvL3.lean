/- Ev: a piece of the run. -/
import Derived.Test.YtmhlgjmepkcniaaGreatDoorEvN
import Derived.KernelRfl
namespace Go.Proofs.YtmhlgjmepkcniaaGreatDoor
open Go Go.Ev
set_option maxRecDepth 1000000
theorem piece3 : cutT (List.range 22) (evL cxR (evM cxR [] 60) ((codeL.drop 0).take 3) st0.1 st0.2) = some st3 := by kernel_rfl
end Go.Proofs.YtmhlgjmepkcniaaGreatDoor
