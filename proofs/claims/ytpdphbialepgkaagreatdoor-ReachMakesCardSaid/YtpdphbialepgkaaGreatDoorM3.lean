/- Laws of the models: a new heap is right, and a marker over it. -/
import Derived.Test.YtpdphbialepgkaaGreatDoorM2
namespace Go.Proofs.YtpdphbialepgkaaGreatDoor
open Go Go.Cw Go.Dw
set_option linter.unusedVariables false
set_option linter.unusedSimpArgs false
set_option maxRecDepth 10000

theorem rep_get {k i : Nat} (h : i < k) : (uE (List.replicate k 0))[i]? = some [.v (.int .u64 0)] := uE_get (by simp [h])
theorem spans_ok : s171_F [[.l []]] = some [[.v (.int .i64 0)]] := by
 unfold s171_F
 simp only [aC, aI, aB, aT, aL, aP, aF, aN, aZ, oC_cons, oZ_nil, oN_nil, oI_v, oB_v, oL_l, oP_p, oF_f, oR_of, joinO_eq, joinsO_eq, inrO_some, inlO_some, oK_true, if_true, condO_true, condO_false, cond_true, cond_false, List.length_nil, show decide (((0 : Nat) : Int) > 256) = false by decide]
 exact loop_for 0 (by decide) (fun i hi => absurd hi (Nat.not_lt_zero _)) (by simp only [aC, aI, aB, aT, aL, aP, aF, aN, aZ, oC_cons, oZ_nil, oN_nil, oI_v, oB_v, oL_l, oP_p, oF_f, oR_of, joinO_eq, joinsO_eq, inrO_some, inlO_some, oK_true, if_true, condO_true, condO_false, cond_true, cond_false, List.length_nil, Int.lt_irrefl, decide_false])
theorem arena_ok {k : Nat} (h : k ≤ 16384) : s221_F [[.l (uE (List.replicate k 0))]] = some [[.v (.int .i64 0)]] := by
 unfold s221_F
 simp only [aC, aI, aB, aT, aL, aP, aF, aN, aZ, oC_cons, oZ_nil, oN_nil, oI_v, oB_v, oL_l, oP_p, oF_f, oR_of, joinO_eq, joinsO_eq, inrO_some, inlO_some, oK_true, if_true, condO_true, condO_false, cond_true, cond_false, uE_len, List.length_replicate, dgt_false (show ((k : Nat) : Int) ≤ 16384 by omega)]
theorem framed_ok {n : Nat} (h1 : 1 ≤ n) (h : n ≤ 1024) : s150_F [[.p [.l (uE (List.replicate (n * 16) 0)), .v (.int .i64 n), .l (uE (w1 n)), .l [], .l []]]] = some [[.v (.bool true)]] := by
 have hk := kw_le (show n ≤ 4096 by omega)
 have e : wi ((n : Int) * 16) = ((n * 16 : Nat) : Int) := by rw [wi_id (by omega)]; omega
 unfold s150_F s64_F
 simp only [aC, aI, aB, aT, aL, aP, aF, aN, aZ, oC_cons, oZ_nil, oN_nil, oI_v, oB_v, oL_l, oP_p, oF_f, oR_of, joinO_eq, joinsO_eq, inrO_some, inlO_some, oK_true, if_true, condO_true, condO_false, cond_true, cond_false, arena_ok (show n * 16 ≤ 16384 by omega), bne_self_eq_false, Bool.not_false, check1 h1 (show n ≤ 4096 by omega), Bool.or_self, spans_ok, dlt_false (show (1 : Int) ≤ (n : Int) by omega), uE_len, List.length_replicate, e,
  make_ok (show n ≤ 4096 by omega), bput_ok h1 (show n ≤ 4096 by omega)]
 refine loopO_run (fun i => [.v (.int .i64 (i : Int)), .v (.int .i64 n), .l (uE (w1 n))]) 0 (by decide) rfl (fun i hi => absurd hi (Nat.not_lt_zero _)) ?_
 simp only [aC, aI, aB, aT, aL, aP, aF, aN, aZ, oC_cons, oZ_nil, oN_nil, oI_v, oB_v, oL_l, oP_p, oF_f, oR_of, joinO_eq, joinsO_eq, inrO_some, inlO_some, oK_true, if_true, condO_true, condO_false, cond_true, cond_false, List.length_nil, Int.lt_irrefl, decide_false, eq_sl (w1 n) (by rw [w1_len h1]; omega)]
theorem look_ok (a u : List (List D)) (n : Int) : s151_F [[.p [.l a, .v (.int .i64 n), .l u, .l [], .l []]]] = some [[.v (.bool true)], [.p [.l a, .v (.int .i64 n), .l u, .l [], .l []]]] := by
 unfold s151_F
 simp only [aC, aI, aB, aT, aL, aP, aF, aN, aZ, oC_cons, oZ_nil, oN_nil, oI_v, oB_v, oL_l, oP_p, oF_f, oR_of, joinO_eq, joinsO_eq, inrO_some, inlO_some, oK_true, if_true, condO_true, condO_false, cond_true, cond_false]
 refine loopO_run (fun i => [.v (.int .i64 (i : Int)), .p [.l a, .v (.int .i64 n), .l u, .l [], .l []]]) 0 (by decide) rfl (fun i hi => absurd hi (Nat.not_lt_zero _)) ?_
 simp only [aC, aI, aB, aT, aL, aP, aF, aN, aZ, oC_cons, oZ_nil, oN_nil, oI_v, oB_v, oL_l, oP_p, oF_f, oR_of, joinO_eq, joinsO_eq, inrO_some, inlO_some, oK_true, if_true, condO_true, condO_false, cond_true, cond_false, List.length_nil, Int.lt_irrefl, decide_false]
theorem index_ok (k : Nat) (h : k < 9223372036854775808) : s193_F [[.l (uE (List.replicate k 0))], [.f []]] = some [[.v (.int .i64 (-1))]] := by
 unfold s193_F
 simp only [aC, aI, aB, aT, aL, aP, aF, aN, aZ, oC_cons, oZ_nil, oN_nil, oI_v, oB_v, oL_l, oP_p, oF_f, oR_of, joinO_eq, joinsO_eq, inrO_some, inlO_some, oK_true, if_true, condO_true, condO_false, cond_true, cond_false]
 refine loop_for k h (fun i hi => ?_) ?_
 ·unfold s226_F
  simp only [aC, aI, aB, aT, aL, aP, aF, aN, aZ, oC_cons, oZ_nil, oN_nil, oI_v, oB_v, oL_l, oP_p, oF_f, oR_of, joinO_eq, joinsO_eq, inrO_some, inlO_some, oK_true, if_true, condO_true, condO_false, cond_true, cond_false, oX_of (rep_get hi), uE_len, List.length_replicate, Int.ofNat_lt, hi, decide_true, bne_self_eq_false]
 ·simp only [aC, aI, aB, aT, aL, aP, aF, aN, aZ, oC_cons, oZ_nil, oN_nil, oI_v, oB_v, oL_l, oP_p, oF_f, oR_of, joinO_eq, joinsO_eq, inrO_some, inlO_some, oK_true, if_true, condO_true, condO_false, cond_true, cond_false, uE_len, List.length_replicate, Int.lt_irrefl, decide_false]
theorem zero_ok {k : Nat} (h : k ≤ 16384) (u sp os : List (List D)) (n : Int) : s225_F [[.v (.int .u64 (k : Int))], [.p [.p [.l (uE (List.replicate k 0)), .v (.int .i64 n), .l u, .l sp, .l os]]], [.p [.v (.int .u64 0)]]] = some [[.v (.bool true)]] := by
 unfold s225_F s140_F
 have e : List.drop (Int.toNat 0) (List.take k (uE (List.replicate k 0))) = uE (List.replicate k 0) := by
  rw [show Int.toNat 0 = 0 from rfl, List.drop_zero]
  exact List.take_of_length_le (by simp)
 simp only [aC, aI, aB, aT, aL, aP, aF, aN, aZ, oC_cons, oZ_nil, oN_nil, oI_v, oB_v, oL_l, oP_p, oF_f, oR_of, joinO_eq, joinsO_eq, inrO_some, inlO_some, oK_true, if_true, condO_true, condO_false, cond_true, cond_false, Int.toNat_natCast, e, index_ok k (by omega), uE_len, List.length_replicate, dle_true (show (0 : Int) ≤ ((k : Nat) : Int) by omega), dle_true (show ((k : Nat) : Int) ≤ ((k : Nat) : Int) by omega), dle_true (show (0 : Int) ≤ 0 by decide), Int.toNat_natCast, Bool.and_self, show decide ((-1 : Int) ≥ 0) = false by decide, Bool.not_false]
theorem sound_ok {k : Nat} (h : k ≤ 16384) (u sp : List (List D)) (n : Int) : s152_F [[.p [.l (uE (List.replicate k 0)), .v (.int .i64 n), .l u, .l sp, .l []]]] = some [[.v (.bool true)]] := by
 unfold s152_F
 simp only [aC, aI, aB, aT, aL, aP, aF, aN, aZ, oC_cons, oZ_nil, oN_nil, oI_v, oB_v, oL_l, oP_p, oF_f, oR_of, joinO_eq, joinsO_eq, inrO_some, inlO_some, oK_true, if_true, condO_true, condO_false, cond_true, cond_false]
 refine loopO_run (fun i => [.v (.int .i64 (i : Int)), .v (.int .u64 0)]) 0 (by decide) rfl (fun i hi => absurd hi (Nat.not_lt_zero _)) ?_
 have e : wu (((k : Nat) : Int)) = ((k : Nat) : Int) := wu_id (by omega)
 simp only [aC, aI, aB, aT, aL, aP, aF, aN, aZ, oC_cons, oZ_nil, oN_nil, oI_v, oB_v, oL_l, oP_p, oF_f, oR_of, joinO_eq, joinsO_eq, inrO_some, inlO_some, oK_true, if_true, condO_true, condO_false, cond_true, cond_false, List.length_nil, Int.lt_irrefl, decide_false, uE_len, List.length_replicate, e, zero_ok h]
theorem hcheck_ok {n : Nat} (h1 : 1 ≤ n) (h : n ≤ 1024) : s25_F [[.l (uE (List.replicate (n * 16) 0)), .v (.int .i64 n), .l (uE (w1 n)), .l []]] = some [[.v (.int .i64 0)]] := by
 unfold s25_F s68_F
 simp only [aC, aI, aB, aT, aL, aP, aF, aN, aZ, oC_cons, oZ_nil, oN_nil, oI_v, oB_v, oL_l, oP_p, oF_f, oR_of, joinO_eq, joinsO_eq, inrO_some, inlO_some, oK_true, if_true, condO_true, condO_false, cond_true, cond_false, framed_ok h1 h, Bool.not_true, Bool.not_false, look_ok, sound_ok (show n * 16 ≤ 16384 by omega), Bool.or_self]
 rfl
theorem spown_ok : s70_F [[.l []]] = some [[.l []]] := by
 have e : s153_F [[.l []]] = some [[.l []]] := by
  unfold s153_F
  simp only [aC, aI, aB, aT, aL, aP, aF, aN, aZ, oC_cons, oZ_nil, oN_nil, oI_v, oB_v, oL_l, oP_p, oF_f, oR_of, joinO_eq, joinsO_eq, inrO_some, inlO_some, oK_true, if_true, condO_true, condO_false, cond_true, cond_false, List.length_nil]
  simp [oM, oA, oK]
 unfold s70_F
 simp only [aC, aI, aB, aT, aL, aP, aF, aN, aZ, oC_cons, oZ_nil, oN_nil, oI_v, oB_v, oL_l, oP_p, oF_f, oR_of, joinO_eq, joinsO_eq, inrO_some, inlO_some, oK_true, if_true, condO_true, condO_false, cond_true, cond_false, e]
 refine loopO_run (fun i => [.l [], .v (.int .i64 (i : Int))]) 0 (by decide) rfl (fun i hi => absurd hi (Nat.not_lt_zero _)) ?_
 simp only [aC, aI, aB, aT, aL, aP, aF, aN, aZ, oC_cons, oZ_nil, oN_nil, oI_v, oB_v, oL_l, oP_p, oF_f, oR_of, joinO_eq, joinsO_eq, inrO_some, inlO_some, oK_true, if_true, condO_true, condO_false, cond_true, cond_false, List.length_nil, Int.lt_irrefl, decide_false]
theorem hown_ok {n : Nat} (h1 : 1 ≤ n) (h : n ≤ 1024) : s27_F [[.l (uE (List.replicate (n * 16) 0)), .v (.int .i64 n), .l (uE (w1 n)), .l []]] = some [[.l (uE (List.replicate (n * 16) 0)), .v (.int .i64 n), .l (uE (w1 n)), .l []]] := by
 have hk := kw_le (show n ≤ 4096 by omega)
 unfold s27_F s69_F s65_F
 simp only [aC, aI, aB, aT, aL, aP, aF, aN, aZ, oC_cons, oZ_nil, oN_nil, oI_v, oB_v, oL_l, oP_p, oF_f, oR_of, joinO_eq, joinsO_eq, inrO_some, inlO_some, oK_true, if_true, condO_true, condO_false, cond_true, cond_false, clone_ok (es := uE (List.replicate (n * 16) 0)) (by simp; omega), own_ok (n := n) (es := uE (w1 n)) (by simp [w1_len h1]; omega), spown_ok]
theorem gmake_ok {m : Nat} (h1 : 1 ≤ m) (h : m ≤ 4) : s26_F [[.v (.int .i64 m)]] = some [[.l (List.replicate m [.l []])], [.v (.int .i64 0)]] := by
 unfold s26_F
 simp only [aC, aI, aB, aT, aL, aP, aF, aN, aZ, oC_cons, oZ_nil, oN_nil, oI_v, oB_v, oL_l, oP_p, oF_f, oR_of, joinO_eq, joinsO_eq, inrO_some, inlO_some, oK_true, if_true, condO_true, condO_false, cond_true, cond_false, dlt_false (show (1 : Int) ≤ (m : Int) by omega), dgt_false (show (m : Int) ≤ 4 by omega), Bool.or_self]
 rw [oW_of (by omega) (by simp; omega) (by simp; omega), Int.toNat_natCast]
theorem gmake_no {m : Int} (h : m < 1 ∨ m > 4) : s26_F [[.v (.int .i64 m)]] = some [[.l []], [.v (.int .i64 1)]] := by
 have : (decide (m < 1) || decide (m > 4)) = true := by
  rcases h with h | h
  ·rw [dlt_true h]; rfl
  ·rw [dgt_true h, Bool.or_true]
 unfold s26_F
 simp only [aC, aI, aB, aT, aL, aP, aF, aN, aZ, oC_cons, oZ_nil, oN_nil, oI_v, oB_v, oL_l, oP_p, oF_f, oR_of, joinO_eq, joinsO_eq, inrO_some, inlO_some, oK_true, if_true, condO_true, condO_false, cond_true, cond_false, this]
def mkT (n : Int) (m : Int) : List D × Int :=
 if n < 1 ∨ n > 1024 ∨ m < 1 ∨ m > 4 then ([.v (.int .u8 0), .v (.bool false), .l [], .v (.int .i64 0), .l [], .l [], .l [], .l [], .l [], .l [], .l [], .l []], 1)
 else ([.v (.int .u8 0), .v (.bool false), .l (uE (List.replicate (n.toNat * 16) 0)), .v (.int .i64 n), .l (uE (w1 n.toNat)), .l [], .l (List.replicate m.toNat [.l []]), .l (List.replicate m.toNat [.v (.int .u64 0), .v (.int .i64 0)]), .l [], .l [], .l [], .l []], 0)
theorem bmake_ok {n m : Nat} (h1 : 1 ≤ n) (h : n ≤ 1024) (g1 : 1 ≤ m) (g : m ≤ 4) : s9_F [[.l (uE (List.replicate (n * 16) 0)), .v (.int .i64 n), .l (uE (w1 n)), .l []], [.v (.int .i64 m)]] =
 some [[.v (.bool false), .l (uE (List.replicate (n * 16) 0)), .v (.int .i64 n), .l (uE (w1 n)), .l [], .l (List.replicate m [.l []]), .l (List.replicate m [.v (.int .u64 0), .v (.int .i64 0)])], [.v (.int .i64 0)]] := by
 unfold s9_F
 simp only [aC, aI, aB, aT, aL, aP, aF, aN, aZ, oC_cons, oZ_nil, oN_nil, oI_v, oB_v, oL_l, oP_p, oF_f, oR_of, joinO_eq, joinsO_eq, inrO_some, inlO_some, oK_true, if_true, condO_true, condO_false, cond_true, cond_false, hcheck_ok h1 h, bne_self_eq_false, gmake_ok g1 g, hown_ok h1 h]
 rw [oW_of (by omega) (by simp; omega) (by simp; omega), Int.toNat_natCast, bothO_self]
theorem bmake_no {n : Nat} {m : Int} (h1 : 1 ≤ n) (h : n ≤ 1024) (g : m < 1 ∨ m > 4) : s9_F [[.l (uE (List.replicate (n * 16) 0)), .v (.int .i64 n), .l (uE (w1 n)), .l []], [.v (.int .i64 m)]] =
 some [[.v (.bool false), .l [], .v (.int .i64 0), .l [], .l [], .l [], .l []], [.v (.int .i64 1)]] := by
 unfold s9_F
 simp only [aC, aI, aB, aT, aL, aP, aF, aN, aZ, oC_cons, oZ_nil, oN_nil, oI_v, oB_v, oL_l, oP_p, oF_f, oR_of, joinO_eq, joinsO_eq, inrO_some, inlO_some, oK_true, if_true, condO_true, condO_false, cond_true, cond_false, hcheck_ok h1 h, bne_self_eq_false, gmake_no g, show ((1 : Int) != 0) = true by decide]
theorem rmake_ok (n m : Int) : s4_F [[.v (.int .i64 n)], [.v (.int .i64 m)]] = some [(mkT n m).1, [.v (.int .i64 (mkT n m).2)]] := by
 unfold s4_F mkT
 by_cases h : n < 1 ∨ n > 1024
 ·rw [if_pos (by omega)]
  simp only [aC, aI, aB, aT, aL, aP, aF, aN, aZ, oC_cons, oZ_nil, oN_nil, oI_v, oB_v, oL_l, oP_p, oF_f, oR_of, joinO_eq, joinsO_eq, inrO_some, inlO_some, oK_true, if_true, condO_true, condO_false, cond_true, cond_false, hmake_no h, show ((1 : Int) != 0) = true by decide]
 ·obtain ⟨k, rfl⟩ : ∃ k : Nat, n = (k : Int) := ⟨n.toNat, by omega⟩
  by_cases g : m < 1 ∨ m > 4
  ·rw [if_pos (by omega)]
   simp only [aC, aI, aB, aT, aL, aP, aF, aN, aZ, oC_cons, oZ_nil, oN_nil, oI_v, oB_v, oL_l, oP_p, oF_f, oR_of, joinO_eq, joinsO_eq, inrO_some, inlO_some, oK_true, if_true, condO_true, condO_false, cond_true, cond_false, hmake_ok (show 1 ≤ k by omega) (show k ≤ 1024 by omega), bne_self_eq_false, bmake_no (show 1 ≤ k by omega) (show k ≤ 1024 by omega) g]
  ·obtain ⟨j, rfl⟩ : ∃ j : Nat, m = (j : Int) := ⟨m.toNat, by omega⟩
   rw [if_neg (by omega)]
   simp only [aC, aI, aB, aT, aL, aP, aF, aN, aZ, oC_cons, oZ_nil, oN_nil, oI_v, oB_v, oL_l, oP_p, oF_f, oR_of, joinO_eq, joinsO_eq, inrO_some, inlO_some, oK_true, if_true, condO_true, condO_false, cond_true, cond_false, hmake_ok (show 1 ≤ k by omega) (show k ≤ 1024 by omega), bne_self_eq_false, bmake_ok (show 1 ≤ k by omega) (show k ≤ 1024 by omega) (show 1 ≤ j by omega) (show j ≤ 4 by omega), Int.toNat_natCast]
end Go.Proofs.YtpdphbialepgkaaGreatDoor
