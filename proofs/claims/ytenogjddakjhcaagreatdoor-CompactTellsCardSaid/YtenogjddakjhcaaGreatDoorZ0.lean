/- What the functions' code reckons, by the third layer. -/
import Derived.Test.YtenogjddakjhcaaGreatDoorZh
import Derived.Test.YtenogjddakjhcaaGreatDoorOk
namespace Go.Proofs.YtenogjddakjhcaaGreatDoor
open Go Go.Cw Go.Dw
set_option maxRecDepth 100000
set_option linter.unusedVariables false

noncomputable def s12_F (a : LD) : Option LD := aC a fun r a => aI .u64 r fun a0 r => aI .u64 r fun a1 r => aN r <| aC a fun r a => aP r fun r' r => aI .u64 r' fun a2 r' => aN r' <| aN r <| aZ a ((some [[.v (.bool (a0 == a2))]]))
noncomputable def s12 : FSp := ⟨[⟨true, [.v (.int .u64), .v (.int .u64)], false⟩, ⟨false, [.p 2 23 [.v (.int .u64)]], false⟩], [⟨false, [.v .bool], false⟩], [], s12_F⟩
theorem s12_ok : FOk Tryz.prog glT 12 s12 :=
 run_at (l := []) okAll mo trivial Tryz.func12 rfl s12 ⟨[], [], []⟩ (fun a0 a1 a2 => by show _ = _; kernel_rfl)

noncomputable def s11_F (a : LD) : Option LD := aC a fun r a => aL r fun a0 r => aN r <| aC a fun r a => aF r fun r' r => aP r' fun r'' r' => aI .u64 r'' fun a1 r'' => aN r'' <| aN r' <| aN r <| aZ a ((joinO (fun p0 => oN p0 (some [[.v (.int .i64 (-1))]])) fun q0 => loopO [.v (.int .i64 0)] fun u0 => oI .i64 u0 fun v0 y0 => oN y0 (cond (decide (v0 < (((List.length a0) : Nat) : Int))) (oX a0 v0 fun z0 => oI .u64 z0 fun p1 q1 => oI .u64 q1 fun u1 v1 => oN v1 (oR (s12_F [[.v (.int .u64 p1), .v (.int .u64 u1)], [.p [.v (.int .u64 a1)]]]) fun y1 => oC y1 fun z1 p2 => oB z1 fun q2 u2 => oN u2 (oZ p2 (cond q2 (inrO (some [[.v (.int .i64 v0)]])) (inlO (some [.v (.int .i64 (wi (v0 + 1)))])))))) (inrO (q0 [])))))
noncomputable def s11 : FSp := ⟨[⟨false, [.l 2 34 [.v (.int .u64), .v (.int .u64)]], false⟩, ⟨false, [.f 12 [.p 2 23 [.v (.int .u64)]]], false⟩], [⟨false, [.v (.int .i64)], false⟩], [], s11_F⟩
theorem s11_ok : FOk Tryz.prog glT 11 s11 :=
 run_at (l := [(12, s12)]) okAll mo ⟨s12_ok, trivial⟩ Tryz.func11 rfl s11 ⟨[], [(0, ⟨[], [], [], [], [], []⟩)], [(1000002, ⟨[0, 1, 7], [(8, .v (.int .i64))], [], [], [], []⟩)]⟩ (fun a0 a1 => by show _ = _; kernel_rfl)

noncomputable def s5_F (a : LD) : Option LD := aC a fun r a => aL r fun a0 r => aN r <| aC a fun r a => aI .u64 r fun a1 r => aN r <| aZ a ((cond (a1 == 0) (some [[.v (.int .u64 0)], [.v (.int .i64 7)]]) (oR (s11_F [[.l a0], [.f [.p [.v (.int .u64 a1)]]]]) fun p0 => oC p0 fun q0 u0 => oI .i64 q0 fun v0 y0 => oN y0 (oZ u0 (cond (decide (v0 < 0)) (some [[.v (.int .u64 0)], [.v (.int .i64 3)]]) (oX a0 v0 fun z0 => oI .u64 z0 fun p1 q1 => oI .u64 q1 fun u1 v1 => oN v1 (some [[.v (.int .u64 u1)], [.v (.int .i64 0)]])))))))
noncomputable def s5 : FSp := ⟨[⟨false, [.l 2 34 [.v (.int .u64), .v (.int .u64)]], false⟩, ⟨false, [.v (.int .u64)], false⟩], [⟨false, [.v (.int .u64)], false⟩, ⟨false, [.v (.int .i64)], false⟩], [], s5_F⟩
theorem s5_ok : FOk Tryz.prog glT 5 s5 :=
 run_at (l := [(11, s11)]) okAll mo ⟨s11_ok, trivial⟩ Tryz.func5 rfl s5 ⟨[], [], []⟩ (fun a0 a1 => by show _ = _; kernel_rfl)

noncomputable def s6_F (a : LD) : Option LD := aC a fun r a => aL r fun a0 r => aN r <| aC a fun r a => aI .u64 r fun a1 r => aN r <| aZ a ((cond (a1 == 0) (some [[.v (.int .u64 0)], [.v (.int .i64 7)]]) (joinO (fun p0 => oN p0 (some [[.v (.int .u64 0)], [.v (.int .i64 3)]])) fun q0 => loopO [.v (.int .i64 0)] fun u0 => oI .i64 u0 fun v0 y0 => oN y0 (cond (decide (v0 < (((List.length a0) : Nat) : Int))) (oX a0 v0 fun z0 => oI .u64 z0 fun p1 q1 => oI .u64 q1 fun u1 v1 => oN v1 (cond (p1 == a1) (inrO (some [[.v (.int .u64 u1)], [.v (.int .i64 0)]])) (inlO (some [.v (.int .i64 (wi (v0 + 1)))])))) (inrO (q0 []))))))
noncomputable def s6 : FSp := ⟨[⟨false, [.l 2 34 [.v (.int .u64), .v (.int .u64)]], false⟩, ⟨false, [.v (.int .u64)], false⟩], [⟨false, [.v (.int .u64)], false⟩, ⟨false, [.v (.int .i64)], false⟩], [], s6_F⟩
theorem s6_ok : FOk Tryz.prog glT 6 s6 :=
 run_at (l := []) okAll mo trivial Tryz.func6 rfl s6 ⟨[], [(0, ⟨[], [], [], [], [], []⟩)], [(1000004, ⟨[1, 10, 11], [(12, .v (.int .i64))], [], [], [], []⟩)]⟩ (fun a0 a1 => by show _ = _; kernel_rfl)

noncomputable def s8_F (a : LD) : Option LD := aC a fun r a => aL r fun a0 r => aN r <| aC a fun r a => aL r fun a1 r => aN r <| aZ a ((joinO (fun p0 => oL p0 fun q0 u0 => oN u0 (some [[.l q0], [.v (.int .i64 0)]])) fun v0 => loopO [.l [], .v (.int .i64 0)] fun y0 => oL y0 fun z0 p1 => oI .i64 p1 fun q1 u1 => oN u1 (cond (decide (q1 < (((List.length a0) : Nat) : Int))) (joinO (fun v1 => oL v1 fun y1 z1 => oN z1 (inlO (some [.l y1, .v (.int .i64 (wi (q1 + 1)))]))) fun p2 => oX a0 q1 fun q2 => oI .u64 q2 fun u2 v2 => oI .u64 v2 fun y2 z2 => oN z2 (joinO (fun p3 => oL p3 fun q3 u3 => oB u3 fun v3 y3 => oN y3 (cond (! v3) (inrO (some [[.l []], [.v (.int .i64 3)]])) (p2 [.l q3]))) fun z3 => loopO [.l z0, .v (.bool false), .v (.int .i64 0)] fun p4 => oL p4 fun q4 u4 => oB u4 fun v4 y4 => oI .i64 y4 fun z4 p5 => oN p5 (cond (decide (z4 < (((List.length a1) : Nat) : Int))) (oX a1 z4 fun q5 => oI .u64 q5 fun u5 v5 => oI .u64 v5 fun y5 z5 => oN z5 (joinO (fun p6 => oL p6 fun q6 u6 => oB u6 fun v6 y6 => oN y6 (inlO (some [.l q6, .v (.bool v6), .v (.int .i64 (wi (z4 + 1)))]))) fun z6 => cond ((! v4) && (u5 == y2)) (oA (List.length (q4 ++ [[.v (.int .u64 u2), .v (.int .u64 y5)]])) 16 (z6 [.l (q4 ++ [[.v (.int .u64 u2), .v (.int .u64 y5)]]), .v (.bool true)])) (z6 [.l q4, .v (.bool v4)]))) (inrO (z3 [.l q4, .v (.bool v4)]))))) (inrO (v0 [.l z0])))))
noncomputable def s8 : FSp := ⟨[⟨false, [.l 2 34 [.v (.int .u64), .v (.int .u64)]], false⟩, ⟨false, [.l 2 34 [.v (.int .u64), .v (.int .u64)]], false⟩], [⟨false, [.l 0 34 [.v (.int .u64), .v (.int .u64)]], false⟩, ⟨false, [.v (.int .i64)], false⟩], [], s8_F⟩
theorem s8_ok : FOk Tryz.prog glT 8 s8 :=
 run_at (l := []) okAll mo trivial Tryz.func8 rfl s8 ⟨[(10, ⟨[1, 8, 12, 13, 14, 18, 19, 20], [(6, .l 0 34 [.v (.int .u64), .v (.int .u64)]), (9, .v .bool)], [], [], [3], []⟩)], [(0, ⟨[], [(6, .l 0 34 [.v (.int .u64), .v (.int .u64)])], [], [], [], []⟩), (1, ⟨[1, 12, 13, 14], [(6, .l 0 34 [.v (.int .u64), .v (.int .u64)])], [], [], [2], []⟩), (2, ⟨[1, 12, 13, 14], [(6, .l 0 34 [.v (.int .u64), .v (.int .u64)]), (9, .v .bool)], [], [], [2], []⟩)], [(1000003, ⟨[1, 12, 13], [(6, .l 0 34 [.v (.int .u64), .v (.int .u64)]), (14, .v (.int .i64))], [], [], [2], []⟩), (1000007, ⟨[1, 8, 12, 13, 14, 18, 19], [(6, .l 0 34 [.v (.int .u64), .v (.int .u64)]), (9, .v .bool), (20, .v (.int .i64))], [], [], [2, 3], []⟩)]⟩ (fun a0 a1 => by show _ = _; kernel_rfl)

noncomputable def s10_F (a : LD) : Option LD := aC a fun r a => aL r fun a0 r => aN r <| aC a fun r a => aL r fun a1 r => aN r <| aZ a ((cond ((((List.length a0) : Nat) : Int) != (((List.length a1) : Nat) : Int)) (some [[.v (.bool false)]]) (joinO (fun p0 => oN p0 (some [[.v (.bool true)]])) fun q0 => loopO [.v (.int .i64 0)] fun u0 => oI .i64 u0 fun v0 y0 => oN y0 (cond (decide (v0 < (((List.length a0) : Nat) : Int))) (oX a0 v0 fun z0 => oI .u64 z0 fun p1 q1 => oI .u64 q1 fun u1 v1 => oN v1 (oX a1 v0 fun y1 => oI .u64 y1 fun z1 p2 => oI .u64 p2 fun q2 u2 => oN u2 (cond (! ((p1 == z1) && ((u1 == q2) && true))) (inrO (some [[.v (.bool false)]])) (inlO (some [.v (.int .i64 (wi (v0 + 1)))]))))) (inrO (q0 []))))))
noncomputable def s10 : FSp := ⟨[⟨false, [.l 2 34 [.v (.int .u64), .v (.int .u64)]], false⟩, ⟨false, [.l 2 34 [.v (.int .u64), .v (.int .u64)]], false⟩], [⟨false, [.v .bool], false⟩], [], s10_F⟩
theorem s10_ok : FOk Tryz.prog glT 10 s10 :=
 run_at (l := []) okAll mo trivial Tryz.func10 rfl s10 ⟨[], [(0, ⟨[], [], [], [], [], []⟩)], [(1000004, ⟨[0, 1, 12], [(13, .v (.int .i64))], [], [], [], []⟩)]⟩ (fun a0 a1 => by show _ = _; kernel_rfl)

end Go.Proofs.YtenogjddakjhcaaGreatDoor
