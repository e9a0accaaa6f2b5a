/- What the functions' code reckons, by the third layer. -/
import Derived.Test.YtenogjddakjhcaaGreatDoorZ0
import Derived.Test.YtenogjddakjhcaaGreatDoorHl
import Derived.Test.YtenogjddakjhcaaGreatDoorHt
import Derived.Test.YtenogjddakjhcaaGreatDoorOk
namespace Go.Proofs.YtenogjddakjhcaaGreatDoor
open Go Go.Cw Go.Dw
set_option maxRecDepth 100000
set_option linter.unusedVariables false

noncomputable def s4_F (a : LD) : Option LD := aC a fun r a => aL r fun a0 r => aN r <| aC a fun r a => aL r fun a1 r => aN r <| aC a fun r a => aI .u64 r fun a2 r => aN r <| aZ a ((oR (s9_F []) fun p0 => oC p0 fun q0 u0 => oB q0 fun v0 y0 => oN y0 (oZ u0 (cond (! v0) (some [[.v (.bool false)]]) (oR (s7_F [[.l a0], [.l a1]]) fun z0 => oC z0 fun p1 q1 => oL p1 fun u1 v1 => oN v1 (oC q1 fun y1 z1 => oI .i64 y1 fun p2 q2 => oN q2 (oZ z1 (cond (p2 != 0) (some [[.v (.bool ((((List.length u1) : Nat) : Int) == 0))]]) (oR (s5_F [[.l a0], [.v (.int .u64 a2)]]) fun u2 => oC u2 fun v2 y2 => oI .u64 v2 fun z2 p3 => oN p3 (oC y2 fun q3 u3 => oI .i64 q3 fun v3 y3 => oN y3 (oZ u3 (oR (s5_F [[.l u1], [.v (.int .u64 a2)]]) fun z3 => oC z3 fun p4 q4 => oI .u64 p4 fun u4 v4 => oN v4 (oC q4 fun y4 z4 => oI .i64 y4 fun p5 q5 => oN q5 (oZ z4 (cond (v3 != 0) (some [[.v (.bool (p5 == v3))]]) (oR (s5_F [[.l a1], [.v (.int .u64 z2)]]) fun u5 => oC u5 fun v5 y5 => oI .u64 v5 fun z5 p6 => oN p6 (oC y5 fun q6 u6 => oI .i64 q6 fun v6 y6 => oN y6 (oZ u6 (some [[.v (.bool ((((((List.length u1) : Nat) : Int) == (((List.length a0) : Nat) : Int)) && (p5 == 0)) && ((z2 == 0) || ((v6 == 0) && (u4 == z5)))))]])))))))))))))))))))
noncomputable def s4 : FSp := ⟨[⟨false, [.l 2 34 [.v (.int .u64), .v (.int .u64)]], false⟩, ⟨false, [.l 2 34 [.v (.int .u64), .v (.int .u64)]], false⟩, ⟨false, [.v (.int .u64)], false⟩], [⟨false, [.v .bool], false⟩], [], s4_F⟩
theorem s4_ok : FOk Tryz.prog glT 4 s4 :=
 run_at (l := [(5, s5), (7, s7), (9, s9)]) okAll mo ⟨s5_ok, s7_ok, s9_ok, trivial⟩ Tryz.func4 rfl s4 ⟨[], [], []⟩ (fun a0 a1 a2 => by show _ = _; kernel_rfl)

noncomputable def s3_F (a : LD) : Option LD := aC a fun r a => aL r fun a0 r => aN r <| aC a fun r a => aL r fun a1 r => aN r <| aC a fun r a => aI .u64 r fun a2 r => aN r <| aZ a ((oR (s5_F [[.l a0], [.v (.int .u64 a2)]]) fun p0 => oC p0 fun q0 u0 => oI .u64 q0 fun v0 y0 => oN y0 (oC u0 fun z0 p1 => oI .i64 z0 fun q1 u1 => oN u1 (oZ p1 (oR (s6_F [[.l a0], [.v (.int .u64 a2)]]) fun v1 => oC v1 fun y1 z1 => oI .u64 y1 fun p2 q2 => oN q2 (oC z1 fun u2 v2 => oI .i64 u2 fun y2 z2 => oN z2 (oZ v2 (oR (s7_F [[.l a0], [.l a1]]) fun p3 => oC p3 fun q3 u3 => oL q3 fun v3 y3 => oN y3 (oC u3 fun z3 p4 => oI .i64 z3 fun q4 u4 => oN u4 (oZ p4 (oR (s8_F [[.l a0], [.l a1]]) fun v4 => oC v4 fun y4 z4 => oL y4 fun p5 q5 => oN q5 (oC z4 fun u5 v5 => oI .i64 u5 fun y5 z5 => oN z5 (oZ v5 (oR (s9_F []) fun p6 => oC p6 fun q6 u6 => oB q6 fun v6 y6 => oN y6 (oZ u6 (joinsO (fun z6 => oC z6 fun p7 q7 => oB p7 fun u7 v7 => oN v7 (oZ q7 (some [[.v (.bool ((((v6 && (v0 == p2)) && (q1 == y2)) && u7) && (q4 == y5)))]]))) fun y7 => cond ((v6 && (v0 == p2)) && (q1 == y2)) (oR (s10_F [[.l v3], [.l p5]]) fun z7 => oC z7 fun p8 q8 => oB p8 fun u8 v8 => oN v8 (oZ q8 (y7 [[.v (.bool u8)]]))) (y7 [[.v (.bool false)]])))))))))))))))))
noncomputable def s3 : FSp := ⟨[⟨false, [.l 2 34 [.v (.int .u64), .v (.int .u64)]], false⟩, ⟨false, [.l 2 34 [.v (.int .u64), .v (.int .u64)]], false⟩, ⟨false, [.v (.int .u64)], false⟩], [⟨false, [.v .bool], false⟩], [], s3_F⟩
theorem s3_ok : FOk Tryz.prog glT 3 s3 :=
 run_at (l := [(5, s5), (6, s6), (7, s7), (8, s8), (9, s9), (10, s10)]) okAll mo ⟨s5_ok, s6_ok, s7_ok, s8_ok, s9_ok, s10_ok, trivial⟩ Tryz.func3 rfl s3 ⟨[], [], []⟩ (fun a0 a1 a2 => by show _ = _; kernel_rfl)

end Go.Proofs.YtenogjddakjhcaaGreatDoor
