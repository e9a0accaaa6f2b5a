/- Ev: this program answers what the evaluator asks (the seat's function numbers). -/
import Derived.Test.YtmhlgjmepkcniaaGreatDoorEvP
namespace Go.Proofs.YtmhlgjmepkcniaaGreatDoor
open Go Go.Ev
set_option maxRecDepth 1000000
theorem mixedR : (Tryz.prog).follows .mixedOrders = true := by kernel_rfl
theorem fnsR : fnsOk Tryz.prog = true := by kernel_rfl
theorem x342 : XtOk Tryz.prog 342 (.nop .disable) := ⟨_, rfl, by kernel_rfl, by kernel_rfl, by kernel_rfl, by kernel_rfl⟩
theorem x344 : XtOk Tryz.prog 344 (.nop .enable) := ⟨_, rfl, by kernel_rfl, by kernel_rfl, by kernel_rfl, by kernel_rfl⟩
theorem x345 : XtOk Tryz.prog 345 (.mark .acquire) := ⟨_, rfl, by kernel_rfl, by kernel_rfl, by kernel_rfl, by kernel_rfl⟩
theorem x347 : XtOk Tryz.prog 347 (.mark .releaseMerge) := ⟨_, rfl, by kernel_rfl, by kernel_rfl, by kernel_rfl, by kernel_rfl⟩
theorem x252 : XtOk Tryz.prog 252 (.ld .u32) := ⟨_, rfl, by kernel_rfl, by kernel_rfl, by kernel_rfl, by kernel_rfl⟩
theorem x302 : XtOk Tryz.prog 302 (.st) := ⟨_, rfl, by kernel_rfl, by kernel_rfl, by kernel_rfl, by kernel_rfl⟩
theorem x343 : XtOk Tryz.prog 343 (.cas .i32) := ⟨_, rfl, by kernel_rfl, by kernel_rfl, by kernel_rfl, by kernel_rfl⟩
theorem x348 : XtOk Tryz.prog 348 (.add .i32) := ⟨_, rfl, by kernel_rfl, by kernel_rfl, by kernel_rfl, by kernel_rfl⟩
theorem x363 : XtOk Tryz.prog 363 (.add .i64) := ⟨_, rfl, by kernel_rfl, by kernel_rfl, by kernel_rfl, by kernel_rfl⟩
theorem prR : PrOk cxR := prOk_of mixedR fnsR (by
 intro x hx
 simp only [extL, List.mem_cons, List.not_mem_nil, or_false] at hx
 rcases hx with rfl | rfl | rfl | rfl | rfl | rfl | rfl | rfl | rfl
 ·exact x342
 ·exact x344
 ·exact x345
 ·exact x347
 ·exact x252
 ·exact x302
 ·exact x343
 ·exact x348
 ·exact x363)
theorem okR (n : Nat) : FnOk cxR (evF cxR n) := evF_ok prR n
end Go.Proofs.YtmhlgjmepkcniaaGreatDoor
