/- Ev: this program answers what the evaluator asks (the seat's function numbers). -/
import Derived.Test.YtenogjddakjhcaaGreatDoorEvP
namespace Go.Proofs.YtenogjddakjhcaaGreatDoor
open Go Go.Ev
set_option maxRecDepth 1000000
theorem mixedR : (Tryz.prog).follows .mixedOrders = true := by kernel_rfl
theorem fnsR : fnsOk Tryz.prog = true := by kernel_rfl
theorem x349 : XtOk Tryz.prog 349 (.nop .disable) := ⟨_, rfl, by kernel_rfl, by kernel_rfl, by kernel_rfl, by kernel_rfl⟩
theorem x351 : XtOk Tryz.prog 351 (.nop .enable) := ⟨_, rfl, by kernel_rfl, by kernel_rfl, by kernel_rfl, by kernel_rfl⟩
theorem x352 : XtOk Tryz.prog 352 (.mark .acquire) := ⟨_, rfl, by kernel_rfl, by kernel_rfl, by kernel_rfl, by kernel_rfl⟩
theorem x354 : XtOk Tryz.prog 354 (.mark .releaseMerge) := ⟨_, rfl, by kernel_rfl, by kernel_rfl, by kernel_rfl, by kernel_rfl⟩
theorem x274 : XtOk Tryz.prog 274 (.ld .u32) := ⟨_, rfl, by kernel_rfl, by kernel_rfl, by kernel_rfl, by kernel_rfl⟩
theorem x325 : XtOk Tryz.prog 325 (.st) := ⟨_, rfl, by kernel_rfl, by kernel_rfl, by kernel_rfl, by kernel_rfl⟩
theorem x350 : XtOk Tryz.prog 350 (.cas .i32) := ⟨_, rfl, by kernel_rfl, by kernel_rfl, by kernel_rfl, by kernel_rfl⟩
theorem x355 : XtOk Tryz.prog 355 (.add .i32) := ⟨_, rfl, by kernel_rfl, by kernel_rfl, by kernel_rfl, by kernel_rfl⟩
theorem x287 : XtOk Tryz.prog 287 (.add .i64) := ⟨_, rfl, by kernel_rfl, by kernel_rfl, by kernel_rfl, by kernel_rfl⟩
theorem prR : PrOk cxR := prOk_of mixedR fnsR (by
 intro x hx
 simp only [extL, List.mem_cons, List.not_mem_nil, or_false] at hx
 rcases hx with rfl | rfl | rfl | rfl | rfl | rfl | rfl | rfl | rfl
 ·exact x349
 ·exact x351
 ·exact x352
 ·exact x354
 ·exact x274
 ·exact x325
 ·exact x350
 ·exact x355
 ·exact x287)
theorem okR (n : Nat) : FnOk cxR (evF cxR n) := evF_ok prR n
end Go.Proofs.YtenogjddakjhcaaGreatDoor
