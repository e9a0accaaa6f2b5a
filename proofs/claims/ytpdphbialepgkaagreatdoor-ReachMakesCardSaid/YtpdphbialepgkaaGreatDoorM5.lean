/- ReachMakes: the law's own part. -/
import Derived.Test.YtpdphbialepgkaaGreatDoorM4
import Derived.Test.YtpdphbialepgkaaGreatDoorZl
import Derived.Test.YtpdphbialepgkaaGreatDoorE5
namespace Go.Proofs.YtpdphbialepgkaaGreatDoor
open Go Go.Cw Go.Dw
set_option linter.unusedVariables false
set_option linter.unusedSimpArgs false
set_option maxRecDepth 10000
theorem lawF (n m : Int) : s3_F [[.v (.int .i64 n)], [.v (.int .i64 m)]] = some [[.v (.bool true)]] := by
 have h1 := rmake_ok n m
 have h2 := rrmake_ok n m
 have h3 := mk_same n m
 unfold s3_F s6_F
 unfold mkT at h1 h2 h3
 by_cases h : n < 1 ∨ n > 1024 ∨ m < 1 ∨ m > 4
 ·simp only [if_pos h] at h1 h2 h3
  simp only [aC, aI, aB, aT, aL, aP, aF, aN, aZ, oC_cons, oZ_nil, oN_nil, oI_v, oB_v, oL_l, oP_p, oF_f, oR_of, joinO_eq, joinsO_eq, inrO_some, inlO_some, oK_true, if_true, condO_true, condO_false, cond_true, cond_false, h1, h2, h3, Bool.and_self, beq_self_eq_true]
 ·simp only [if_neg h] at h1 h2 h3
  simp only [aC, aI, aB, aT, aL, aP, aF, aN, aZ, oC_cons, oZ_nil, oN_nil, oI_v, oB_v, oL_l, oP_p, oF_f, oR_of, joinO_eq, joinsO_eq, inrO_some, inlO_some, oK_true, if_true, condO_true, condO_false, cond_true, cond_false, h1, h2, h3, Bool.and_self, beq_self_eq_true]
theorem law_C (n m : Int) (w : World) (hG : ∃ rest t, Box w 0 (debT ++ rest) t) : Calls Tryz.prog 3 #[.int .i64 n, .int .i64 m] w fun e w' => e = .returned (.bool true) ∧ Fr F0 w w' :=
 law_of (s := s3) (a := [[.v (.int .i64 n)], [.v (.int .i64 m)]]) (vs := [.int .i64 n, .int .i64 m]) s3_ok rfl rfl (lawF n m) (repA_int (repA_int .nil)) (fun x hx => by obtain rfl := List.mem_singleton.1 hx; exact hG) (by
  obtain ⟨rest, t, hb⟩ := hG
  have := (Array.getElem?_eq_some_iff.1 hb).1
  omega)
end Go.Proofs.YtpdphbialepgkaaGreatDoor
