/- Ev: a piece of the run. -/
import Derived.Test.YtenogjddakjhcaaGreatDoorEvN
import Derived.KernelRfl
namespace Go.Proofs.YtenogjddakjhcaaGreatDoor
open Go Go.Ev
set_option maxRecDepth 1000000
noncomputable def fin9 : Option (Ex × Env × H) := evL cxR (evM cxR [] 60) (codeL.drop 8) st8.1 st8.2
noncomputable def finB : Option (List Value) := match fin9 with | some (.ex _, _, _) => none | some (_, e, h) => resT cxR e h fnL.results.toList | none => none
theorem piece9 : finB = some [.bool true] := by kernel_rfl
end Go.Proofs.YtenogjddakjhcaaGreatDoor
