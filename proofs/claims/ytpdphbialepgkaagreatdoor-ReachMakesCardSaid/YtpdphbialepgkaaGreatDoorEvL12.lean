/- Ev: a piece of the run. -/
import Derived.Test.YtpdphbialepgkaaGreatDoorEvN
import Derived.KernelRfl
namespace Go.Proofs.YtpdphbialepgkaaGreatDoor
open Go Go.Ev
set_option maxRecDepth 1000000
theorem piece12 : cutT (List.range 20) (evL cxR (evF cxR 60) ((codeL.drop 10).take 2) st10.1 st10.2) = some st12 := by kernel_rfl
end Go.Proofs.YtpdphbialepgkaaGreatDoor
