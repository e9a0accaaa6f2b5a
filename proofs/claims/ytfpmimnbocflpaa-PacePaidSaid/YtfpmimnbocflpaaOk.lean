/- Which functions are entered when called. -/
import Derived.Test.YtfpmimnbocflpaaProg
import Derived.Test.YtfpmimnbocflpaaCwTop
namespace Go.Proofs.Ytfpmimnbocflpaa
open Go.Cw
def okl : List Nat := [2, 3, 4, 5, 6, 7, 8, 9, 10, 11, 12, 13, 14, 15, 16, 17, 18, 19, 20, 21, 22, 23, 24, 25, 26, 27, 28, 29, 30, 31, 32, 33, 34, 35, 36, 37, 38, 39, 40, 41, 42, 43, 44, 45]
def okm : FuncId → Bool := fun f => okl.contains f
theorem okl_all : okl.all (okB Try.prog) = true := by kernel_rfl
theorem okAll (M : Nat → Prop) (w : World) : OkFns ⟨Try.prog, M, w, okm⟩ := okFns_of okl_all M w
theorem mo : Try.prog.follows .mixedOrders = true := by kernel_rfl
end Go.Proofs.Ytfpmimnbocflpaa
