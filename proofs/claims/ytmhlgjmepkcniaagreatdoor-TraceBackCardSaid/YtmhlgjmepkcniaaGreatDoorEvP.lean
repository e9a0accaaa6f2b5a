/- Ev at this program (the Reach seat's function numbers). -/
import Derived.Test.YtmhlgjmepkcniaaGreatDoorE5
import Derived.Test.YtmhlgjmepkcniaaGreatDoorProg
import Derived.KernelRfl
namespace Go.Proofs.YtmhlgjmepkcniaaGreatDoor
open Go Go.Ev
set_option maxRecDepth 1000000
noncomputable section
def extL : List (Nat × Xt) := [(342, .nop .disable), (344, .nop .enable), (345, .mark .acquire), (347, .mark .releaseMerge), (252, .ld .u32), (302, .st), (343, .cas .i32), (348, .add .i32), (363, .add .i64)]
def debN : List Int := [0, 1, 56, 2, 57, 49, 28, 3, 61, 58, 42, 50, 38, 29, 17, 4, 62, 47, 59, 36, 45, 43, 51, 22, 53, 39, 33, 30, 24, 18, 12, 5, 63, 55, 48, 27, 60, 41, 37, 16, 46, 35, 44, 21, 52, 32, 23, 11, 54, 26, 40, 15, 34, 20, 31, 10, 25, 14, 19, 9, 13, 8, 7, 6]
def deb : List Value := debN.map fun n => .int .u8 n
def cxR : Cxt := ⟨Tryz.prog, [(0, deb)], fun f => lookX f extL⟩
def livesN : Nat := 11
def fnL : Func := (Tryz.prog.funcs[livesN]?).getD default
def codeL : List Code := seqs (fnL.body.getD .skip)
end
end Go.Proofs.YtmhlgjmepkcniaaGreatDoor
