/- Ev: a piece of the run. -/
import Derived.Test.YtmhlgjmepkcniaaGreatDoorEvN
import Derived.KernelRfl
namespace Go.Proofs.YtmhlgjmepkcniaaGreatDoor
open Go Go.Ev
set_option maxRecDepth 1000000
noncomputable def fin11 : Option (Ex × Env × H) := evL cxR (evM cxR [] 60) (codeL.drop 10) st10.1 st10.2
noncomputable def finB : Option (List Value) := match fin11 with | some (.ex _, _, _) => none | some (_, e, h) => resT cxR e h fnL.results.toList | none => none
theorem piece11 : finB = some [.bool true] := by kernel_rfl
end Go.Proofs.YtmhlgjmepkcniaaGreatDoor
