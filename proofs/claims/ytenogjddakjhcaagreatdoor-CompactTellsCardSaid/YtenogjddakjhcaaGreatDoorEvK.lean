/- Ev: calls whose outcome is known. -/
import Derived.Test.YtenogjddakjhcaaGreatDoorEvM0
import Derived.Test.YtenogjddakjhcaaGreatDoorEvM1
import Derived.Test.YtenogjddakjhcaaGreatDoorEvM2
import Derived.Test.YtenogjddakjhcaaGreatDoorEvM3
import Derived.Test.YtenogjddakjhcaaGreatDoorEvM4
import Derived.Test.YtenogjddakjhcaaGreatDoorEvM5
import Derived.Test.YtenogjddakjhcaaGreatDoorEvM6
import Derived.Test.YtenogjddakjhcaaGreatDoorEvM7
import Derived.Test.YtenogjddakjhcaaGreatDoorEvM8
import Derived.Test.YtenogjddakjhcaaGreatDoorEvM9
import Derived.Test.YtenogjddakjhcaaGreatDoorEvM10
import Derived.Test.YtenogjddakjhcaaGreatDoorEvM11
import Derived.Test.YtenogjddakjhcaaGreatDoorEvM12
import Derived.Test.YtenogjddakjhcaaGreatDoorEvM13
import Derived.Test.YtenogjddakjhcaaGreatDoorEvX2
namespace Go.Proofs.YtenogjddakjhcaaGreatDoor
open Go Go.Ev
theorem k_check : n_check.ok cxR := Ent.chk_ok (evM_ok prR Ent.all_nil 60) c_check
theorem k_end : n_end.ok cxR := Ent.chk_ok (evM_ok prR Ent.all_nil 60) c_end
theorem k_open : n_open.ok cxR := Ent.chk_ok (evM_ok prR Ent.all_nil 60) c_open
theorem k_do : n_do.ok cxR := Ent.chk_ok (evM_ok prR Ent.all_nil 60) c_do
theorem k_next0 : n_next0.ok cxR := Ent.chk_ok (evM_ok prR Ent.all_nil 60) c_next0
theorem k_next1 : n_next1.ok cxR := Ent.chk_ok (evM_ok prR Ent.all_nil 60) c_next1
theorem k_next2 : n_next2.ok cxR := Ent.chk_ok (evM_ok prR Ent.all_nil 60) c_next2
theorem k_next3 : n_next3.ok cxR := Ent.chk_ok (evM_ok prR Ent.all_nil 60) c_next3
theorem k_next4 : n_next4.ok cxR := Ent.chk_ok (evM_ok prR Ent.all_nil 60) c_next4
theorem k_next5 : n_next5.ok cxR := Ent.chk_ok (evM_ok prR Ent.all_nil 60) c_next5
theorem k_next6 : n_next6.ok cxR := Ent.chk_ok (evM_ok prR Ent.all_nil 60) c_next6
theorem k_next7 : n_next7.ok cxR := Ent.chk_ok (evM_ok prR Ent.all_nil 60) c_next7
theorem k_next8 : n_next8.ok cxR := Ent.chk_ok (evM_ok prR Ent.all_nil 60) c_next8
theorem k_cycle : n_cycle.ok cxR := Ent.chk_ok (evM_ok prR (Ent.all_cons k_open (Ent.all_cons k_do (Ent.all_cons k_next0 (Ent.all_cons k_next1 (Ent.all_cons k_next2 (Ent.all_cons k_next3 (Ent.all_cons k_next4 (Ent.all_cons k_next5 (Ent.all_cons k_next6 (Ent.all_cons k_next7 (Ent.all_cons k_next8 Ent.all_nil))))))))))) 60) c_cycle
theorem m0 : FnOk cxR (evM cxR [] 60) := evM_ok prR Ent.all_nil 60
theorem m1 : FnOk cxR (evM cxR [n_check, n_end, n_cycle] 60) := evM_ok prR (Ent.all_cons k_check (Ent.all_cons k_end (Ent.all_cons k_cycle Ent.all_nil))) 60
end Go.Proofs.YtenogjddakjhcaaGreatDoor
