/- The library's contract of math/bits.TrailingZeros64 at this program. -/
import Derived.Shelf.Spec.TrailingZeros
import Derived.Test.YtmhlgjmepkcniaaGreatDoorProg
namespace Go.Proofs
open Go.Shelf
def Tryz.lays29_ren : Go.Shelf.Ren := ⟨fun | 29 => 239 | n => n, fun | 22 => 40 | 3 => 3 | 4 => 4 | 25 => 50 | 54 => 456 | 0 => 0 | 5 => 5 | n => n, fun | 1 => 0 | n => n⟩
theorem Tryz.lays29 : Go.Proofs.Lays7.n29 Tryz.prog Tryz.lays29_ren := {
 mixed := by kernel_rfl
 f29 := Tryz.func239.trans (congrArg some (by kernel_rfl))
 t0 := Tryz.underlying0
 a0 := Tryz.isAgg0
 z0 := Tryz.sizeOf0
 v0 := Tryz.zeroValue0
 i0 := by kernel_rfl
 t3 := Tryz.underlying3
 a3 := Tryz.isAgg3
 z3 := Tryz.sizeOf3
 v3 := Tryz.zeroValue3
 i3 := by kernel_rfl
 t4 := Tryz.underlying4
 a4 := Tryz.isAgg4
 z4 := Tryz.sizeOf4
 v4 := Tryz.zeroValue4
 i4 := by kernel_rfl
 t5 := Tryz.underlying5
 a5 := Tryz.isAgg5
 z5 := Tryz.sizeOf5
 v5 := Tryz.zeroValue5
 i5 := by kernel_rfl
 t22 := Tryz.underlying40
 a22 := Tryz.isAgg40
 z22 := Tryz.sizeOf40
 v22 := Tryz.zeroValue40
 i22 := by kernel_rfl
 t25 := Tryz.underlying50
 a25 := Tryz.isAgg50
 z25 := Tryz.sizeOf50
 v25 := Tryz.zeroValue50
 i25 := by kernel_rfl
 t54 := Tryz.underlying456
 a54 := Tryz.isAgg456
 z54 := Tryz.sizeOf456
 g1 := by kernel_rfl }
theorem Tryz.tz64_calls (x : Nat) (hx : x < 18446744073709551616) (w : World) (hT : x ≠ 0 → TabAt 0 Lib.deBruijn64tab w) : Calls Tryz.prog 239 #[.int .u64 x] w fun e w' => e = .returned (.int .i64 (Lib.ctz 64 x)) ∧ w' = w := Any7.bits_TrailingZeros64 Tryz.lays29 x hx w hT
end Go.Proofs
