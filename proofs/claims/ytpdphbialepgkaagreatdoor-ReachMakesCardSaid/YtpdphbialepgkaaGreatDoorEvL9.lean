/- Ev: a piece of the run. -/
import Derived.Test.YtpdphbialepgkaaGreatDoorEvN
import Derived.KernelRfl
namespace Go.Proofs.YtpdphbialepgkaaGreatDoor
open Go Go.Ev
set_option maxRecDepth 1000000
theorem piece9 : cutT (List.range 20) (evL cxR (evF cxR 60) ((codeL.drop 8).take 1) st8.1 st8.2) = some st9 := by kernel_rfl
end Go.Proofs.YtpdphbialepgkaaGreatDoor
