/- What the functions' code reckons, by the third layer. -/
import Derived.Test.YtpdphbialepgkaaGreatDoorZ3
import Derived.Test.YtpdphbialepgkaaGreatDoorHl
import Derived.Test.YtpdphbialepgkaaGreatDoorOk
namespace Go.Proofs.YtpdphbialepgkaaGreatDoor
open Go Go.Cw Go.Dw
set_option maxRecDepth 100000
set_option linter.unusedVariables false

noncomputable def s3_F (a : LD) : Option LD := aC a fun r a => aI .i64 r fun a0 r => aN r <| aC a fun r a => aI .i64 r fun a1 r => aN r <| aZ a ((oR (s4_F [[.v (.int .i64 a0)], [.v (.int .i64 a1)]]) fun p0 => oC p0 fun q0 u0 => oI .u8 q0 fun v0 y0 => oB y0 fun z0 p1 => oL p1 fun q1 u1 => oI .i64 u1 fun v1 y1 => oL y1 fun z1 p2 => oL p2 fun q2 u2 => oL u2 fun v2 y2 => oL y2 fun z2 p3 => oL p3 fun q3 u3 => oL u3 fun v3 y3 => oL y3 fun z3 p4 => oL p4 fun q4 u4 => oN u4 (oC u0 fun v4 y4 => oI .i64 v4 fun z4 p5 => oN p5 (oZ y4 (oR (s5_F [[.v (.int .i64 a0)], [.v (.int .i64 a1)]]) fun q5 => oC q5 fun u5 v5 => oI .u8 u5 fun y5 z5 => oB z5 fun p6 q6 => oL q6 fun u6 v6 => oI .i64 v6 fun y6 z6 => oL z6 fun p7 q7 => oL q7 fun u7 v7 => oL v7 fun y7 z7 => oL z7 fun p8 q8 => oL q8 fun u8 v8 => oL v8 fun y8 z8 => oL z8 fun p9 q9 => oL q9 fun u9 v9 => oN v9 (oC v5 fun y9 z9 => oI .i64 y9 fun pa qa => oN qa (oZ z9 (oR (s6_F []) fun ua => oC ua fun va ya => oB va fun za pb => oN pb (oZ ya (joinsO (fun qb => oC qb fun ub vb => oB ub fun yb zb => oN zb (oZ vb (some [[.v (.bool ((za && yb) && (z4 == pa)))]]))) fun pc => cond za (oR (s7_F [[.v (.int .u8 v0), .v (.bool z0), .l q1, .v (.int .i64 v1), .l z1, .l q2, .l v2, .l z2, .l q3, .l v3, .l z3, .l q4], [.v (.int .u8 y5), .v (.bool p6), .l u6, .v (.int .i64 y6), .l p7, .l u7, .l y7, .l p8, .l u8, .l y8, .l p9, .l u9]]) fun qc => oC qc fun uc vc => oB uc fun yc zc => oN zc (oZ vc (pc [[.v (.bool yc)]]))) (pc [[.v (.bool false)]])))))))))))
noncomputable def s3 : FSp := ⟨[⟨false, [.v (.int .i64)], false⟩, ⟨false, [.v (.int .i64)], false⟩], [⟨false, [.v .bool], false⟩], [], s3_F⟩
theorem s3_ok : FOk Tryz.prog glT 3 s3 :=
 run_at (l := [(4, s4), (5, s5), (6, s6), (7, s7)]) okAll mo ⟨s4_ok, s5_ok, s6_ok, s7_ok, trivial⟩ Tryz.func3 rfl s3 ⟨[], [], []⟩ (fun a0 a1 => by show _ = _; kernel_rfl)

end Go.Proofs.YtpdphbialepgkaaGreatDoor
