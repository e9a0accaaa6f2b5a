/- Ev: a piece of the run. -/
import Derived.Test.YtpdphbialepgkaaGreatDoorEvN
import Derived.KernelRfl
namespace Go.Proofs.YtpdphbialepgkaaGreatDoor
open Go Go.Ev
set_option maxRecDepth 1000000
noncomputable def fin16 : Option (Ex × Env × H) := evL cxR (evF cxR 60) (codeL.drop 13) st13.1 st13.2
noncomputable def finB : Option (List Value) := match fin16 with | some (.ex _, _, _) => none | some (_, e, h) => resT cxR e h fnL.results.toList | none => none
theorem piece16 : finB = some [.bool true] := by kernel_rfl
end Go.Proofs.YtpdphbialepgkaaGreatDoor
