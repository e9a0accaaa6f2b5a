/- Ev: a piece of the run. -/
import Derived.Test.YtmhlgjmepkcniaaGreatDoorEvN
import Derived.KernelRfl
namespace Go.Proofs.YtmhlgjmepkcniaaGreatDoor
open Go Go.Ev
set_option maxRecDepth 1000000
theorem piece5 : cutT (List.range 22) (evL cxR (evM cxR [] 60) ((codeL.drop 4).take 1) st4.1 st4.2) = some st5 := by kernel_rfl
end Go.Proofs.YtmhlgjmepkcniaaGreatDoor
