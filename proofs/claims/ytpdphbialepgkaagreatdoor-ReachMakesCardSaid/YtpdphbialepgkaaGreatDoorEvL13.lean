/- Ev: a piece of the run. -/
import Derived.Test.YtpdphbialepgkaaGreatDoorEvN
import Derived.KernelRfl
namespace Go.Proofs.YtpdphbialepgkaaGreatDoor
open Go Go.Ev
set_option maxRecDepth 1000000
theorem piece13 : cutT (List.range 20) (evL cxR (evF cxR 60) ((codeL.drop 12).take 1) st12.1 st12.2) = some st13 := by kernel_rfl
end Go.Proofs.YtpdphbialepgkaaGreatDoor
