/- compact.Then's contract, under the seat's number. -/
import Derived.Test.YtenogjddakjhcaaGreatDoorTn1
import Derived.Test.YtenogjddakjhcaaGreatDoorZh
namespace Go.Proofs.YtenogjddakjhcaaGreatDoor
open Go Go.Cw Go.Dw
noncomputable def s7_F (a : List (List D)) : Option (List (List D)) := sThen_F a
noncomputable def s7 : FSp := ⟨[⟨false, [.l 2 34 [.v (.int .u64), .v (.int .u64)]], false⟩, ⟨false, [.l 2 34 [.v (.int .u64), .v (.int .u64)]], false⟩], [⟨false, [.l 0 34 [.v (.int .u64), .v (.int .u64)]], false⟩, ⟨false, [.v (.int .i64)], false⟩], [], s7_F⟩
theorem s7_ok : FOk Tryz.prog glT 7 s7 := sThen_ok
end Go.Proofs.YtenogjddakjhcaaGreatDoor
