/- Ev at this program (the Reach seat's function numbers). -/
import Derived.Test.YtenogjddakjhcaaGreatDoorE5
import Derived.Test.YtenogjddakjhcaaGreatDoorProg
import Derived.KernelRfl
namespace Go.Proofs.YtenogjddakjhcaaGreatDoor
open Go Go.Ev
set_option maxRecDepth 1000000
noncomputable section
def extL : List (Nat × Xt) := [(349, .nop .disable), (351, .nop .enable), (352, .mark .acquire), (354, .mark .releaseMerge), (274, .ld .u32), (325, .st), (350, .cas .i32), (355, .add .i32), (287, .add .i64)]
def debN : List Int := [0, 1, 56, 2, 57, 49, 28, 3, 61, 58, 42, 50, 38, 29, 17, 4, 62, 47, 59, 36, 45, 43, 51, 22, 53, 39, 33, 30, 24, 18, 12, 5, 63, 55, 48, 27, 60, 41, 37, 16, 46, 35, 44, 21, 52, 32, 23, 11, 54, 26, 40, 15, 34, 20, 31, 10, 25, 14, 19, 9, 13, 8, 7, 6]
def deb : List Value := debN.map fun n => .int .u8 n
def cxR : Cxt := ⟨Tryz.prog, [(0, deb)], fun f => lookX f extL⟩
def livesN : Nat := 9
def fnL : Func := (Tryz.prog.funcs[livesN]?).getD default
def codeL : List Code := seqs (fnL.body.getD .skip)
end
end Go.Proofs.YtenogjddakjhcaaGreatDoor
