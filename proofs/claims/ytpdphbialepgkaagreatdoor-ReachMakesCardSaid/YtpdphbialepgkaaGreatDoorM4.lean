/- Laws of the models: a new heap, as the document makes it. -/
import Derived.Test.YtpdphbialepgkaaGreatDoorM3
namespace Go.Proofs.YtpdphbialepgkaaGreatDoor
open Go Go.Cw Go.Dw
set_option linter.unusedVariables false
set_option linter.unusedSimpArgs false
set_option maxRecDepth 10000

theorem rmk_ok {n : Nat} (h : n ≤ 4096) : s71_F [[.v (.int .i64 n)]] = some [[.v (.int .i64 n), .l (uE (w0 n))], [.v (.int .i64 0)]] := by
 have := kw_le h
 unfold s71_F
 simp only [aC, aI, aB, aT, aL, aP, aF, aN, aZ, oC_cons, oZ_nil, oN_nil, oI_v, oB_v, oL_l, oP_p, oF_f, oR_of, joinO_eq, joinsO_eq, inrO_some, inlO_some, oK_true, if_true, condO_true, condO_false, cond_true, cond_false, dlt_false (show (0 : Int) ≤ (n : Int) by omega), dgt_false (show (n : Int) ≤ 4096 by omega), Bool.or_self, kw_int' h]
 rw [oW_of (by omega) (by simp; omega) (by simp; omega)]
 simp [w0, uE_rep]
theorem is_of {n : Int} {l : List Int} {i : Nat} {x : Int} (hi : i < 9223372036854775808) (hx : l[i / 64]? = some x) : s157_F [[.v (.int .i64 n), .l (uE l)], [.v (.int .i64 i)]] = some [[.v (.bool ((Int.tmod (Int.fdiv x (2 ^ (i % 64))) 2) == 1))]] := by
 unfold s157_F
 have e : wi (Int.tdiv (i : Int) 64) = ((i / 64 : Nat) : Int) := by rw [tdiv64, wi_id (by omega)]
 have e2 : wu (((i % 64 : Nat) : Int)) = ((i % 64 : Nat) : Int) := wu_id (by omega)
 have h64 : min (i % 64) 64 = i % 64 := by omega
 simp only [aC, aI, aB, aT, aL, aP, aF, aN, aZ, oC_cons, oZ_nil, oN_nil, oI_v, oB_v, oL_l, oP_p, oF_f, oR_of, joinO_eq, joinsO_eq, inrO_some, inlO_some, oK_true, if_true, condO_true, condO_false, cond_true, cond_false, e, oX_of (uE_get hx), tmod64, e2, dle_true (show (0 : Int) ≤ ((i % 64 : Nat) : Int) by omega), Int.toNat_natCast, h64]
theorem is0 {n : Nat} {i : Nat} (hi : i < 64 * kw n) (hn : n ≤ 4096) : s157_F [[.v (.int .i64 n), .l (uE (w0 n))], [.v (.int .i64 i)]] = some [[.v (.bool false)]] := by
 have := kw_le hn
 rw [is_of (x := 0) (by omega) (w0_get (by omega)), Int.zero_fdiv]
 rfl
theorem is1 {n : Nat} {i : Nat} (hi : i < 64 * kw n) (hn : n ≤ 4096) : s157_F [[.v (.int .i64 n), .l (uE (w1 n))], [.v (.int .i64 i)]] = some [[.v (.bool (i == 0))]] := by
 have := kw_le hn
 by_cases h0 : i = 0
 ·subst h0
  rw [is_of (x := 1) (by omega) rfl]
  rfl
 ·have hb : (i == 0) = false := by simp [h0]
  rw [hb]
  by_cases h1 : i / 64 = 0
  ·have h2 : (w1 n)[i / 64]? = some 1 := by rw [h1]; rfl
   have h3 : Int.fdiv 1 (2 ^ (i % 64)) = 0 := fdiv_small (by decide) (two_pow (by omega))
   rw [is_of (x := 1) (by omega) h2, h3]
   rfl
  ·rw [is_of (x := 0) (by omega) (w1_get (by omega) (by omega)), Int.zero_fdiv]
   rfl
theorem rcheck_of {n : Nat} {l : List Int} (h : n ≤ 4096) (hl : l.length = kw n) (hx : ∀ i, n ≤ i → i < 64 * kw n → s157_F [[.v (.int .i64 n), .l (uE l)], [.v (.int .i64 i)]] = some [[.v (.bool false)]]) : s155_F [[.v (.int .i64 n), .l (uE l)]] = some [[.v (.int .i64 0)]] := by
 have := kw_le h
 have hk : n ≤ 64 * kw n := by unfold kw; omega
 have e : wi (64 * ((kw n : Nat) : Int)) = ((64 * kw n : Nat) : Int) := by rw [wi_id (by omega)]; omega
 unfold s155_F
 simp only [aC, aI, aB, aT, aL, aP, aF, aN, aZ, oC_cons, oZ_nil, oN_nil, oI_v, oB_v, oL_l, oP_p, oF_f, oR_of, joinO_eq, joinsO_eq, inrO_some, inlO_some, oK_true, if_true, condO_true, condO_false, cond_true, cond_false, dlt_false (show (0 : Int) ≤ (n : Int) by omega), dgt_false (show (n : Int) ≤ 4096 by omega), Bool.or_self, Bool.false_or, kw_int' h, uE_len, hl, bne_self_eq_false, e]
 refine loopO_run (fun i => [.v (.int .i64 ((n + i : Nat) : Int))]) (64 * kw n - n) (by omega) rfl (fun i hi => ?_) ?_
 ·simp only [aC, aI, aB, aT, aL, aP, aF, aN, aZ, oC_cons, oZ_nil, oN_nil, oI_v, oB_v, oL_l, oP_p, oF_f, oR_of, joinO_eq, joinsO_eq, inrO_some, inlO_some, oK_true, if_true, condO_true, condO_false, cond_true, cond_false, dlt_true (show ((n + i : Nat) : Int) < ((64 * kw n : Nat) : Int) by omega), hx (n + i) (by omega) (by omega)]
  rw [wi_id (by omega)]
  congr 5
 ·simp only [aC, aI, aB, aT, aL, aP, aF, aN, aZ, oC_cons, oZ_nil, oN_nil, oI_v, oB_v, oL_l, oP_p, oF_f, oR_of, joinO_eq, joinsO_eq, inrO_some, inlO_some, oK_true, if_true, condO_true, condO_false, cond_true, cond_false, dlt_false (show ((64 * kw n : Nat) : Int) ≤ ((n + (64 * kw n - n) : Nat) : Int) by omega)]
theorem rcheck0 {n : Nat} (h : n ≤ 4096) : s155_F [[.v (.int .i64 n), .l (uE (w0 n))]] = some [[.v (.int .i64 0)]] := rcheck_of h (w0_len n) fun i _ hi => is0 hi h
theorem rcheck1 {n : Nat} (h1 : 1 ≤ n) (h : n ≤ 4096) : s155_F [[.v (.int .i64 n), .l (uE (w1 n))]] = some [[.v (.int .i64 0)]] := rcheck_of h (w1_len h1) fun i hn hi => by rw [is1 hi h, show (i == 0) = false by simp; omega]
theorem rcopy_ok {n : Int} {es : List (List D)} (h : es.length ≤ 1000000) : s156_F [[.v (.int .i64 n), .l es]] = some [[.v (.int .i64 n), .l es]] := by
 unfold s156_F
 simp only [aC, aI, aB, aT, aL, aP, aF, aN, aZ, oC_cons, oZ_nil, oN_nil, oI_v, oB_v, oL_l, oP_p, oF_f, oR_of, joinO_eq, joinsO_eq, inrO_some, inlO_some, oK_true, if_true, condO_true, condO_false, cond_true, cond_false]
 rw [oA_of (by omega) (by omega)]
theorem with_ok {n : Nat} (h1 : 1 ≤ n) (h : n ≤ 4096) : s158_F [[.v (.int .i64 n), .l (uE (w0 n))], [.v (.int .i64 0)], [.v (.bool true)]] = some [[.v (.int .i64 n), .l (uE (w1 n))]] := by
 have hk := kw_pos h1
 unfold s158_F
 have e0 : wi (Int.tdiv 0 64) = 0 := by decide
 have e1 : wu ((BitVec.toNat ((BitVec.ofInt 64 0) ^^^ (BitVec.ofInt 64 (wu (1 * 2 ^ (min (Int.toNat (wu (Int.tmod 0 64))) 64))))) : Nat) : Int) = 1 := by decide
 have hx : (uE (w0 n))[0]? = some [.v (.int .u64 0)] := uE_get (w0_get (by omega))
 have := oX_of (ρ := List (List D)) hx
 simp only [Int.natCast_zero] at this
 have hi := is0 (n := n) (i := 0) (by omega) h
 simp only [Int.natCast_zero] at hi
 simp only [aC, aI, aB, aT, aL, aP, aF, aN, aZ, oC_cons, oZ_nil, oN_nil, oI_v, oB_v, oL_l, oP_p, oF_f, oR_of, joinO_eq, joinsO_eq, inrO_some, inlO_some, oK_true, if_true, condO_true, condO_false, cond_true, cond_false, hi, e0, this, e1, uE_len, w0_len, oK_of (show decide ((0 : Int) ≤ wu (Int.tmod 0 64)) = true by decide), dle_true (show (0 : Int) ≤ 0 by decide), dlt_true (show (0 : Int) < ((kw n : Nat) : Int) by omega), Bool.and_self, Int.toNat_zero, show decide (0 < kw n) = true from decide_eq_true hk, w0_set h1, show (false != true) = true by decide]
theorem rfill_ok {n : Nat} (h1 : 1 ≤ n) (h : n ≤ 4096) : s75_F [[.v (.int .i64 n), .l (uE (w0 n))], [.v (.int .i64 0)], [.v (.int .i64 1)], [.v (.bool true)]] = some [[.v (.int .i64 n), .l (uE (w1 n))], [.v (.int .i64 0)]] := by
 have hk := kw_le h
 unfold s75_F
 simp only [aC, aI, aB, aT, aL, aP, aF, aN, aZ, oC_cons, oZ_nil, oN_nil, oI_v, oB_v, oL_l, oP_p, oF_f, oR_of, joinO_eq, joinsO_eq, inrO_some, inlO_some, oK_true, if_true, condO_true, condO_false, cond_true, cond_false, rcheck0 h, bne_self_eq_false, rcopy_ok (n := n) (es := uE (w0 n)) (by simp; omega), dlt_false (show (0 : Int) ≤ 0 by decide), dlt_false (show (0 : Int) ≤ 1 by decide), dgt_false (show (1 : Int) ≤ (n : Int) by omega), wi_id (show -9223372036854775808 ≤ (n : Int) - 1 ∧ (n : Int) - 1 < 9223372036854775808 by omega), dgt_false (show (0 : Int) ≤ (n : Int) - 1 by omega), Bool.or_self]
 refine loopO_run (fun i => [.v (.int .i64 (i : Int)), .v (.int .i64 n), .l (uE (match i with | 0 => w0 n | _ => w1 n))]) 1 (by decide) rfl (fun i hi => ?_) ?_
 ·obtain rfl : i = 0 := by omega
  have e : wi (0 + 0) = 0 := by decide
  have e2 : wi (0 + 1) = 1 := by decide
  simp only [Int.natCast_zero]
  simp only [aC, aI, aB, aT, aL, aP, aF, aN, aZ, oC_cons, oZ_nil, oN_nil, oI_v, oB_v, oL_l, oP_p, oF_f, oR_of, joinO_eq, joinsO_eq, inrO_some, inlO_some, oK_true, if_true, condO_true, condO_false, cond_true, cond_false, dlt_true (show (0 : Int) < 1 by decide), e, with_ok h1 h, e2]
  rfl
 ·simp only [Int.natCast_one]
  simp only [aC, aI, aB, aT, aL, aP, aF, aN, aZ, oC_cons, oZ_nil, oN_nil, oI_v, oB_v, oL_l, oP_p, oF_f, oR_of, joinO_eq, joinsO_eq, inrO_some, inlO_some, oK_true, if_true, condO_true, condO_false, cond_true, cond_false, dlt_false (show (1 : Int) ≤ 1 by decide)]
theorem free_ok {n : Nat} (h1 : 1 ≤ n) (h : n ≤ 4096) : s74_F [[.v (.int .i64 n), .l (uE (w0 n))], [.v (.int .i64 0)], [.v (.int .i64 1)]] = some [[.v (.bool true)]] := by
 have hk := kw_pos h1
 unfold s74_F
 have e : wi (0 + 1) = 1 := by decide
 simp only [aC, aI, aB, aT, aL, aP, aF, aN, aZ, oC_cons, oZ_nil, oN_nil, oI_v, oB_v, oL_l, oP_p, oF_f, oR_of, joinO_eq, joinsO_eq, inrO_some, inlO_some, oK_true, if_true, condO_true, condO_false, cond_true, cond_false, e]
 refine loopO_run (fun i => [.v (.int .i64 (i : Int))]) 1 (by decide) rfl (fun i hi => ?_) ?_
 ·obtain rfl : i = 0 := by omega
  have hi := is0 (n := n) (i := 0) (by omega) h
  simp only [Int.natCast_zero] at hi ⊢
  simp only [aC, aI, aB, aT, aL, aP, aF, aN, aZ, oC_cons, oZ_nil, oN_nil, oI_v, oB_v, oL_l, oP_p, oF_f, oR_of, joinO_eq, joinsO_eq, inrO_some, inlO_some, oK_true, if_true, condO_true, condO_false, cond_true, cond_false, dlt_true (show (0 : Int) < 1 by decide), hi, e]
  rfl
 ·simp only [Int.natCast_one]
  simp only [aC, aI, aB, aT, aL, aP, aF, aN, aZ, oC_cons, oZ_nil, oN_nil, oI_v, oB_v, oL_l, oP_p, oF_f, oR_of, joinO_eq, joinsO_eq, inrO_some, inlO_some, oK_true, if_true, condO_true, condO_false, cond_true, cond_false, dlt_false (show (1 : Int) ≤ 1 by decide)]
theorem rtake_ok {n : Nat} (h1 : 1 ≤ n) (h : n ≤ 4096) : s30_F [[.v (.int .i64 n), .l (uE (w0 n))], [.v (.int .i64 1)]] = some [[.v (.int .i64 n), .l (uE (w1 n))], [.v (.int .i64 0)], [.v (.int .i64 0)]] := by
 have hk := kw_le h
 unfold s30_F s72_F s73_F
 simp only [aC, aI, aB, aT, aL, aP, aF, aN, aZ, oC_cons, oZ_nil, oN_nil, oI_v, oB_v, oL_l, oP_p, oF_f, oR_of, joinO_eq, joinsO_eq, inrO_some, inlO_some, oK_true, if_true, condO_true, condO_false, cond_true, cond_false, rcheck0 h, bne_self_eq_false, rcopy_ok (n := n) (es := uE (w0 n)) (by simp; omega), dlt_false (show (1 : Int) ≤ 1 by decide), dgt_false (show (1 : Int) ≤ (n : Int) by omega)]
 refine loopO_run (fun i => [.v (.int .i64 0)]) 0 (by decide) rfl (fun i hi => absurd hi (Nat.not_lt_zero _)) ?_
 simp only [aC, aI, aB, aT, aL, aP, aF, aN, aZ, oC_cons, oZ_nil, oN_nil, oI_v, oB_v, oL_l, oP_p, oF_f, oR_of, joinO_eq, joinsO_eq, inrO_some, inlO_some, oK_true, if_true, condO_true, condO_false, cond_true, cond_false, wi_id (show -9223372036854775808 ≤ (n : Int) - 1 ∧ (n : Int) - 1 < 9223372036854775808 by omega), dle_true (show (0 : Int) ≤ (n : Int) - 1 by omega), free_ok h1 h, rfill_ok h1 h]
theorem rhmake_ok {n : Nat} (h1 : 1 ≤ n) (h : n ≤ 1024) : s10_F [[.v (.int .i64 n)]] = some [[.l (uE (List.replicate (n * 16) 0)), .v (.int .i64 n), .l (uE (w1 n)), .l []], [.v (.int .i64 0)]] := by
 unfold s10_F s28_F s29_F
 have e : wi ((n : Int) * 16) = ((n * 16 : Nat) : Int) := by rw [wi_id (by omega)]; omega
 simp only [aC, aI, aB, aT, aL, aP, aF, aN, aZ, oC_cons, oZ_nil, oN_nil, oI_v, oB_v, oL_l, oP_p, oF_f, oR_of, joinO_eq, joinsO_eq, inrO_some, inlO_some, oK_true, if_true, condO_true, condO_false, cond_true, cond_false, dlt_false (show (1 : Int) ≤ (n : Int) by omega), dgt_false (show (n : Int) ≤ 1024 by omega), Bool.or_self, e, dlt_false (show (0 : Int) ≤ ((n * 16 : Nat) : Int) by omega), dgt_false (show ((n * 16 : Nat) : Int) ≤ 16384 by omega)]
 rw [oW_of (by omega) (by simp; omega) (by simp; omega)]
 simp only [aC, aI, aB, aT, aL, aP, aF, aN, aZ, oC_cons, oZ_nil, oN_nil, oI_v, oB_v, oL_l, oP_p, oF_f, oR_of, joinO_eq, joinsO_eq, inrO_some, inlO_some, oK_true, if_true, condO_true, condO_false, cond_true, cond_false, rmk_ok (show n ≤ 4096 by omega), rtake_ok h1 (show n ≤ 4096 by omega), Int.toNat_natCast, uE_rep]
theorem rhmake_no {n : Int} (h : n < 1 ∨ n > 1024) : s10_F [[.v (.int .i64 n)]] = some [[.l [], .v (.int .i64 0), .l [], .l []], [.v (.int .i64 1)]] := by
 have : (decide (n < 1) || decide (n > 1024)) = true := by
  rcases h with h | h
  ·rw [dlt_true h]; rfl
  ·rw [dgt_true h, Bool.or_true]
 unfold s10_F
 simp only [aC, aI, aB, aT, aL, aP, aF, aN, aZ, oC_cons, oZ_nil, oN_nil, oI_v, oB_v, oL_l, oP_p, oF_f, oR_of, joinO_eq, joinsO_eq, inrO_some, inlO_some, oK_true, if_true, condO_true, condO_false, cond_true, cond_false, this]
theorem rspans_ok : s160_F [[.l []]] = some [[.v (.int .i64 0)]] := by
 unfold s160_F
 simp only [aC, aI, aB, aT, aL, aP, aF, aN, aZ, oC_cons, oZ_nil, oN_nil, oI_v, oB_v, oL_l, oP_p, oF_f, oR_of, joinO_eq, joinsO_eq, inrO_some, inlO_some, oK_true, if_true, condO_true, condO_false, cond_true, cond_false, List.length_nil, show decide (((0 : Nat) : Int) > 256) = false by decide]
 exact loop_for 0 (by decide) (fun i hi => absurd hi (Nat.not_lt_zero _)) (by simp only [aC, aI, aB, aT, aL, aP, aF, aN, aZ, oC_cons, oZ_nil, oN_nil, oI_v, oB_v, oL_l, oP_p, oF_f, oR_of, joinO_eq, joinsO_eq, inrO_some, inlO_some, oK_true, if_true, condO_true, condO_false, cond_true, cond_false, List.length_nil, Int.lt_irrefl, decide_false])
theorem rarena_ok {k : Nat} (h : k ≤ 16384) : s159_F [[.l (uE (List.replicate k 0))]] = some [[.v (.int .i64 0)]] := by
 unfold s159_F
 simp only [aC, aI, aB, aT, aL, aP, aF, aN, aZ, oC_cons, oZ_nil, oN_nil, oI_v, oB_v, oL_l, oP_p, oF_f, oR_of, joinO_eq, joinsO_eq, inrO_some, inlO_some, oK_true, if_true, condO_true, condO_false, cond_true, cond_false, uE_len, List.length_replicate, dgt_false (show ((k : Nat) : Int) ≤ 16384 by omega)]
theorem rframed_ok {n : Nat} (h1 : 1 ≤ n) (h : n ≤ 1024) : s76_F [[.l (uE (List.replicate (n * 16) 0)), .v (.int .i64 n), .l (uE (w1 n)), .l []]] = some [[.v (.bool true)]] := by
 have hk := kw_le (show n ≤ 4096 by omega)
 have hk1 := kw_pos h1
 have hk2 : n ≤ 64 * kw n := by unfold kw; omega
 have e : wi ((n : Int) * 16) = ((n * 16 : Nat) : Int) := by rw [wi_id (by omega)]; omega
 have hi0 := is1 (n := n) (i := 0) (by omega) (by omega)
 simp only [Int.natCast_zero, beq_self_eq_true] at hi0
 unfold s76_F s72_F
 simp only [aC, aI, aB, aT, aL, aP, aF, aN, aZ, oC_cons, oZ_nil, oN_nil, oI_v, oB_v, oL_l, oP_p, oF_f, oR_of, joinO_eq, joinsO_eq, inrO_some, inlO_some, oK_true, if_true, condO_true, condO_false, cond_true, cond_false, rarena_ok (show n * 16 ≤ 16384 by omega), bne_self_eq_false, Bool.not_false, rcheck1 h1 (show n ≤ 4096 by omega), Bool.or_self, rspans_ok, dlt_false (show (1 : Int) ≤ (n : Int) by omega), uE_len, List.length_replicate, e, hi0, Bool.not_true]
 refine loopO_run (fun i => [.v (.int .i64 ((1 + i : Nat) : Int))]) (n - 1) (by omega) rfl (fun i hi => ?_) ?_
 ·simp only [aC, aI, aB, aT, aL, aP, aF, aN, aZ, oC_cons, oZ_nil, oN_nil, oI_v, oB_v, oL_l, oP_p, oF_f, oR_of, joinO_eq, joinsO_eq, inrO_some, inlO_some, oK_true, if_true, condO_true, condO_false, cond_true, cond_false, dlt_true (show ((1 + i : Nat) : Int) < (n : Int) by omega)]
  refine loopO_run (fun j => [.v (.bool false), .v (.int .i64 (j : Int))]) 0 (by decide) rfl (fun i hi => absurd hi (Nat.not_lt_zero _)) ?_
  have hb : (1 + i == 0) = false := by simp
  simp only [aC, aI, aB, aT, aL, aP, aF, aN, aZ, oC_cons, oZ_nil, oN_nil, oI_v, oB_v, oL_l, oP_p, oF_f, oR_of, joinO_eq, joinsO_eq, inrO_some, inlO_some, oK_true, if_true, condO_true, condO_false, cond_true, cond_false, List.length_nil, Int.lt_irrefl, decide_false, is1 (n := n) (i := 1 + i) (by omega) (by omega), hb, bne_self_eq_false]
  rw [wi_id (by omega)]
  congr 6
 ·simp only [aC, aI, aB, aT, aL, aP, aF, aN, aZ, oC_cons, oZ_nil, oN_nil, oI_v, oB_v, oL_l, oP_p, oF_f, oR_of, joinO_eq, joinsO_eq, inrO_some, inlO_some, oK_true, if_true, condO_true, condO_false, cond_true, cond_false, dlt_false (show (n : Int) ≤ ((1 + (n - 1) : Nat) : Int) by omega)]
  exact congrArg inrO (loop_for (X := some [[D.v (.bool true)]]) 0 (by decide) (fun i hi => absurd hi (Nat.not_lt_zero _)) (by simp only [aC, aI, aB, aT, aL, aP, aF, aN, aZ, oC_cons, oZ_nil, oN_nil, oI_v, oB_v, oL_l, oP_p, oF_f, oR_of, joinO_eq, joinsO_eq, inrO_some, inlO_some, oK_true, if_true, condO_true, condO_false, cond_true, cond_false, List.length_nil, Int.lt_irrefl, decide_false]))
theorem rall_ok (a u : List (List D)) (n : Int) : s77_F [[.l a, .v (.int .i64 n), .l u, .l []]] = some [[.l []], [.v (.bool true)]] := by
 unfold s77_F
 simp only [aC, aI, aB, aT, aL, aP, aF, aN, aZ, oC_cons, oZ_nil, oN_nil, oI_v, oB_v, oL_l, oP_p, oF_f, oR_of, joinO_eq, joinsO_eq, inrO_some, inlO_some, oK_true, if_true, condO_true, condO_false, cond_true, cond_false]
 refine loopO_run (fun i => [.l [], .v (.int .i64 (i : Int))]) 0 (by decide) rfl (fun i hi => absurd hi (Nat.not_lt_zero _)) ?_
 simp only [aC, aI, aB, aT, aL, aP, aF, aN, aZ, oC_cons, oZ_nil, oN_nil, oI_v, oB_v, oL_l, oP_p, oF_f, oR_of, joinO_eq, joinsO_eq, inrO_some, inlO_some, oK_true, if_true, condO_true, condO_false, cond_true, cond_false, List.length_nil, Int.lt_irrefl, decide_false]
theorem rhcheck_ok {n : Nat} (h1 : 1 ≤ n) (h : n ≤ 1024) : s31_F [[.l (uE (List.replicate (n * 16) 0)), .v (.int .i64 n), .l (uE (w1 n)), .l []]] = some [[.v (.int .i64 0)]] := by
 unfold s31_F
 simp only [aC, aI, aB, aT, aL, aP, aF, aN, aZ, oC_cons, oZ_nil, oN_nil, oI_v, oB_v, oL_l, oP_p, oF_f, oR_of, joinO_eq, joinsO_eq, inrO_some, inlO_some, oK_true, if_true, condO_true, condO_false, cond_true, cond_false, rframed_ok h1 h, Bool.not_true, rall_ok, uE_len, List.length_replicate]
 rw [oW_of (by omega) (by simp; omega) (by simp; omega)]
 refine loopO_run (fun i => [.l (List.replicate (n * 16) [.v (.bool false)]), .v (.int .i64 (i : Int))]) 0 (by decide) rfl (fun i hi => absurd hi (Nat.not_lt_zero _)) ?_
 simp only [aC, aI, aB, aT, aL, aP, aF, aN, aZ, oC_cons, oZ_nil, oN_nil, oI_v, oB_v, oL_l, oP_p, oF_f, oR_of, joinO_eq, joinsO_eq, inrO_some, inlO_some, oK_true, if_true, condO_true, condO_false, cond_true, cond_false, List.length_nil, Int.lt_irrefl, decide_false]
 refine congrArg inrO (loop_for (X := some [[D.v (.int .i64 0)]]) (n * 16) (by omega) (fun i hi => ?_) ?_)
 ·have hx : (List.replicate (n * 16) [D.v (.bool false)])[i]? = some [.v (.bool false)] := by rw [List.getElem?_replicate, if_pos hi]
  simp only [aC, aI, aB, aT, aL, aP, aF, aN, aZ, oC_cons, oZ_nil, oN_nil, oI_v, oB_v, oL_l, oP_p, oF_f, oR_of, joinO_eq, joinsO_eq, inrO_some, inlO_some, oK_true, if_true, condO_true, condO_false, cond_true, cond_false, oX_of (rep_get hi), oX_of hx, dlt_true (show (i : Int) < ((n * 16 : Nat) : Int) by omega), bne_self_eq_false, Bool.not_false, Bool.and_false]
 ·simp only [aC, aI, aB, aT, aL, aP, aF, aN, aZ, oC_cons, oZ_nil, oN_nil, oI_v, oB_v, oL_l, oP_p, oF_f, oR_of, joinO_eq, joinsO_eq, inrO_some, inlO_some, oK_true, if_true, condO_true, condO_false, cond_true, cond_false, Int.lt_irrefl, decide_false]
theorem rhcopy_ok {n : Nat} (h1 : 1 ≤ n) (h : n ≤ 1024) : s33_F [[.l (uE (List.replicate (n * 16) 0)), .v (.int .i64 n), .l (uE (w1 n)), .l []]] = some [[.l (uE (List.replicate (n * 16) 0)), .v (.int .i64 n), .l (uE (w1 n)), .l []]] := by
 have hk := kw_le (show n ≤ 4096 by omega)
 have e : s81_F [[.l []]] = some [[.l []]] := by
  unfold s81_F
  simp only [aC, aI, aB, aT, aL, aP, aF, aN, aZ, oC_cons, oZ_nil, oN_nil, oI_v, oB_v, oL_l, oP_p, oF_f, oR_of, joinO_eq, joinsO_eq, inrO_some, inlO_some, oK_true, if_true, condO_true, condO_false, cond_true, cond_false]
  refine loopO_run (fun i => [.l [], .v (.int .i64 (i : Int))]) 0 (by decide) rfl (fun i hi => absurd hi (Nat.not_lt_zero _)) ?_
  simp only [aC, aI, aB, aT, aL, aP, aF, aN, aZ, oC_cons, oZ_nil, oN_nil, oI_v, oB_v, oL_l, oP_p, oF_f, oR_of, joinO_eq, joinsO_eq, inrO_some, inlO_some, oK_true, if_true, condO_true, condO_false, cond_true, cond_false, List.length_nil, Int.lt_irrefl, decide_false]
 have e2 : s80_F [[.l (uE (List.replicate (n * 16) 0))]] = some [[.l (uE (List.replicate (n * 16) 0))]] := by
  unfold s80_F
  simp only [aC, aI, aB, aT, aL, aP, aF, aN, aZ, oC_cons, oZ_nil, oN_nil, oI_v, oB_v, oL_l, oP_p, oF_f, oR_of, joinO_eq, joinsO_eq, inrO_some, inlO_some, oK_true, if_true, condO_true, condO_false, cond_true, cond_false]
  rw [oA_of (by simp; omega) (by simp; omega)]
 unfold s33_F s73_F
 simp only [aC, aI, aB, aT, aL, aP, aF, aN, aZ, oC_cons, oZ_nil, oN_nil, oI_v, oB_v, oL_l, oP_p, oF_f, oR_of, joinO_eq, joinsO_eq, inrO_some, inlO_some, oK_true, if_true, condO_true, condO_false, cond_true, cond_false, e, e2, rcopy_ok (n := n) (es := uE (w1 n)) (by simp [w1_len h1]; omega)]
theorem rgmake_ok {m : Nat} (h1 : 1 ≤ m) (h : m ≤ 4) : s32_F [[.v (.int .i64 m)]] = some [[.l (List.replicate m [.l []])], [.v (.int .i64 0)]] := by
 unfold s32_F
 simp only [aC, aI, aB, aT, aL, aP, aF, aN, aZ, oC_cons, oZ_nil, oN_nil, oI_v, oB_v, oL_l, oP_p, oF_f, oR_of, joinO_eq, joinsO_eq, inrO_some, inlO_some, oK_true, if_true, condO_true, condO_false, cond_true, cond_false, dlt_false (show (1 : Int) ≤ (m : Int) by omega), dgt_false (show (m : Int) ≤ 4 by omega), Bool.or_self]
 rw [oW_of (by omega) (by simp; omega) (by simp; omega), Int.toNat_natCast]
theorem rgmake_no {m : Int} (h : m < 1 ∨ m > 4) : s32_F [[.v (.int .i64 m)]] = some [[.l []], [.v (.int .i64 1)]] := by
 have : (decide (m < 1) || decide (m > 4)) = true := by
  rcases h with h | h
  ·rw [dlt_true h]; rfl
  ·rw [dgt_true h, Bool.or_true]
 unfold s32_F
 simp only [aC, aI, aB, aT, aL, aP, aF, aN, aZ, oC_cons, oZ_nil, oN_nil, oI_v, oB_v, oL_l, oP_p, oF_f, oR_of, joinO_eq, joinsO_eq, inrO_some, inlO_some, oK_true, if_true, condO_true, condO_false, cond_true, cond_false, this]
theorem rbmake_ok {n m : Nat} (h1 : 1 ≤ n) (h : n ≤ 1024) (g1 : 1 ≤ m) (g : m ≤ 4) : s11_F [[.l (uE (List.replicate (n * 16) 0)), .v (.int .i64 n), .l (uE (w1 n)), .l []], [.v (.int .i64 m)]] =
 some [[.v (.bool false), .l (uE (List.replicate (n * 16) 0)), .v (.int .i64 n), .l (uE (w1 n)), .l [], .l (List.replicate m [.l []]), .l (List.replicate m [.v (.int .u64 0), .v (.int .i64 0)])], [.v (.int .i64 0)]] := by
 unfold s11_F
 simp only [aC, aI, aB, aT, aL, aP, aF, aN, aZ, oC_cons, oZ_nil, oN_nil, oI_v, oB_v, oL_l, oP_p, oF_f, oR_of, joinO_eq, joinsO_eq, inrO_some, inlO_some, oK_true, if_true, condO_true, condO_false, cond_true, cond_false, rhcheck_ok h1 h, bne_self_eq_false, rgmake_ok g1 g, rhcopy_ok h1 h]
 rw [oW_of (by omega) (by simp; omega) (by simp; omega), Int.toNat_natCast, bothO_self]
theorem rbmake_no {n : Nat} {m : Int} (h1 : 1 ≤ n) (h : n ≤ 1024) (g : m < 1 ∨ m > 4) : s11_F [[.l (uE (List.replicate (n * 16) 0)), .v (.int .i64 n), .l (uE (w1 n)), .l []], [.v (.int .i64 m)]] =
 some [[.v (.bool false), .l [], .v (.int .i64 0), .l [], .l [], .l [], .l []], [.v (.int .i64 1)]] := by
 unfold s11_F
 simp only [aC, aI, aB, aT, aL, aP, aF, aN, aZ, oC_cons, oZ_nil, oN_nil, oI_v, oB_v, oL_l, oP_p, oF_f, oR_of, joinO_eq, joinsO_eq, inrO_some, inlO_some, oK_true, if_true, condO_true, condO_false, cond_true, cond_false, rhcheck_ok h1 h, bne_self_eq_false, rgmake_no g, show ((1 : Int) != 0) = true by decide]
theorem rrmake_ok (n m : Int) : s5_F [[.v (.int .i64 n)], [.v (.int .i64 m)]] = some [(mkT n m).1, [.v (.int .i64 (mkT n m).2)]] := by
 unfold s5_F mkT
 by_cases h : n < 1 ∨ n > 1024
 ·rw [if_pos (by omega)]
  simp only [aC, aI, aB, aT, aL, aP, aF, aN, aZ, oC_cons, oZ_nil, oN_nil, oI_v, oB_v, oL_l, oP_p, oF_f, oR_of, joinO_eq, joinsO_eq, inrO_some, inlO_some, oK_true, if_true, condO_true, condO_false, cond_true, cond_false, rhmake_no h, show ((1 : Int) != 0) = true by decide]
 ·obtain ⟨k, rfl⟩ : ∃ k : Nat, n = (k : Int) := ⟨n.toNat, by omega⟩
  by_cases g : m < 1 ∨ m > 4
  ·rw [if_pos (by omega)]
   simp only [aC, aI, aB, aT, aL, aP, aF, aN, aZ, oC_cons, oZ_nil, oN_nil, oI_v, oB_v, oL_l, oP_p, oF_f, oR_of, joinO_eq, joinsO_eq, inrO_some, inlO_some, oK_true, if_true, condO_true, condO_false, cond_true, cond_false, rhmake_ok (show 1 ≤ k by omega) (show k ≤ 1024 by omega), bne_self_eq_false, rbmake_no (show 1 ≤ k by omega) (show k ≤ 1024 by omega) g]
  ·obtain ⟨j, rfl⟩ : ∃ j : Nat, m = (j : Int) := ⟨m.toNat, by omega⟩
   rw [if_neg (by omega)]
   simp only [aC, aI, aB, aT, aL, aP, aF, aN, aZ, oC_cons, oZ_nil, oN_nil, oI_v, oB_v, oL_l, oP_p, oF_f, oR_of, joinO_eq, joinsO_eq, inrO_some, inlO_some, oK_true, if_true, condO_true, condO_false, cond_true, cond_false, rhmake_ok (show 1 ≤ k by omega) (show k ≤ 1024 by omega), bne_self_eq_false, rbmake_ok (show 1 ≤ k by omega) (show k ≤ 1024 by omega) (show 1 ≤ j by omega) (show j ≤ 4 by omega), Int.toNat_natCast]
theorem mk_same (n m : Int) : s7_F [(mkT n m).1, (mkT n m).1] = some [[.v (.bool true)]] := by
 unfold mkT
 by_cases h : n < 1 ∨ n > 1024 ∨ m < 1 ∨ m > 4
 ·rw [if_pos h]
  have := eq_15 0 false [] (by decide) 0 [] (by decide) 0 0 (by decide) (by decide)
  exact this
 ·rw [if_neg h]
  have hk := kw_le (n := n.toNat) (by omega)
  exact eq_15 0 false _ (by simp; omega) n _ (by rw [w1_len (by omega)]; omega) m.toNat m.toNat (by omega) (by omega)
end Go.Proofs.YtpdphbialepgkaaGreatDoor
