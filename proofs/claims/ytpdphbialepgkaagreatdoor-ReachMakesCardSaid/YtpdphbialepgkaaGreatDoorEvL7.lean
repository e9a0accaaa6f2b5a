/- Ev: a piece of the run. -/
import Derived.Test.YtpdphbialepgkaaGreatDoorEvN
import Derived.KernelRfl
namespace Go.Proofs.YtpdphbialepgkaaGreatDoor
open Go Go.Ev
set_option maxRecDepth 1000000
theorem piece7 : cutT (List.range 20) (evL cxR (evF cxR 60) ((codeL.drop 4).take 3) st4.1 st4.2) = some st7 := by kernel_rfl
end Go.Proofs.YtpdphbialepgkaaGreatDoor
