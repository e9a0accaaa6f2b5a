/- Ev: calls whose outcome is known. -/
import Derived.Test.YtmhlgjmepkcniaaGreatDoorEvM0
import Derived.Test.YtmhlgjmepkcniaaGreatDoorEvX2
namespace Go.Proofs.YtmhlgjmepkcniaaGreatDoor
open Go Go.Ev
theorem k_hap0 : n_hap0.ok cxR := Ent.chk_ok (evM_ok prR Ent.all_nil 60) c_hap0
theorem m0 : FnOk cxR (evM cxR [] 60) := evM_ok prR Ent.all_nil 60
theorem m1 : FnOk cxR (evM cxR [n_hap0] 60) := evM_ok prR (Ent.all_cons k_hap0 Ent.all_nil) 60
end Go.Proofs.YtmhlgjmepkcniaaGreatDoor
