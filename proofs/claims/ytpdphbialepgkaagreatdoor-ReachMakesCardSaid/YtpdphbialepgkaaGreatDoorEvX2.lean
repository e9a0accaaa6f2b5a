/- Ev: this program answers what the evaluator asks (the seat's function numbers). -/
import Derived.Test.YtpdphbialepgkaaGreatDoorEvP
namespace Go.Proofs.YtpdphbialepgkaaGreatDoor
open Go Go.Ev
set_option maxRecDepth 1000000
theorem mixedR : (Tryz.prog).follows .mixedOrders = true := by kernel_rfl
theorem fnsR : fnsOk Tryz.prog = true := by kernel_rfl
theorem x305 : XtOk Tryz.prog 305 (.nop .disable) := ⟨_, rfl, by kernel_rfl, by kernel_rfl, by kernel_rfl, by kernel_rfl⟩
theorem x307 : XtOk Tryz.prog 307 (.nop .enable) := ⟨_, rfl, by kernel_rfl, by kernel_rfl, by kernel_rfl, by kernel_rfl⟩
theorem x308 : XtOk Tryz.prog 308 (.mark .acquire) := ⟨_, rfl, by kernel_rfl, by kernel_rfl, by kernel_rfl, by kernel_rfl⟩
theorem x310 : XtOk Tryz.prog 310 (.mark .releaseMerge) := ⟨_, rfl, by kernel_rfl, by kernel_rfl, by kernel_rfl, by kernel_rfl⟩
theorem x294 : XtOk Tryz.prog 294 (.ld .u32) := ⟨_, rfl, by kernel_rfl, by kernel_rfl, by kernel_rfl, by kernel_rfl⟩
theorem x303 : XtOk Tryz.prog 303 (.st) := ⟨_, rfl, by kernel_rfl, by kernel_rfl, by kernel_rfl, by kernel_rfl⟩
theorem x306 : XtOk Tryz.prog 306 (.cas .i32) := ⟨_, rfl, by kernel_rfl, by kernel_rfl, by kernel_rfl, by kernel_rfl⟩
theorem x311 : XtOk Tryz.prog 311 (.add .i32) := ⟨_, rfl, by kernel_rfl, by kernel_rfl, by kernel_rfl, by kernel_rfl⟩
theorem x108 : XtOk Tryz.prog 108 (.ld .i64) := ⟨_, rfl, by kernel_rfl, by kernel_rfl, by kernel_rfl, by kernel_rfl⟩
theorem x199 : XtOk Tryz.prog 199 (.add .i64) := ⟨_, rfl, by kernel_rfl, by kernel_rfl, by kernel_rfl, by kernel_rfl⟩
theorem prR : PrOk cxR := prOk_of mixedR fnsR (by
 intro x hx
 simp only [extL, List.mem_cons, List.not_mem_nil, or_false] at hx
 rcases hx with rfl | rfl | rfl | rfl | rfl | rfl | rfl | rfl | rfl | rfl
 ·exact x305
 ·exact x307
 ·exact x308
 ·exact x310
 ·exact x294
 ·exact x303
 ·exact x306
 ·exact x311
 ·exact x108
 ·exact x199)
theorem okR (n : Nat) : FnOk cxR (evF cxR n) := evF_ok prR n
end Go.Proofs.YtpdphbialepgkaaGreatDoor
