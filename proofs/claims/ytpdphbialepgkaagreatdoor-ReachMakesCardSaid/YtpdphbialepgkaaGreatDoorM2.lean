/- Laws of the models: a new heap, as the program makes it. -/
import Derived.Test.YtpdphbialepgkaaGreatDoorM1
namespace Go.Proofs.YtpdphbialepgkaaGreatDoor
open Go Go.Cw Go.Dw
set_option linter.unusedVariables false
set_option linter.unusedSimpArgs false
set_option maxRecDepth 10000

def kw (n : Nat) : Nat := (n + 63) / 64
def w0 (n : Nat) : List Int := List.replicate (kw n) 0
def w1 (n : Nat) : List Int := 1 :: List.replicate (kw n - 1) 0
theorem kw_le {n : Nat} (h : n ≤ 4096) : kw n ≤ 64 := by unfold kw; omega
theorem kw_pos {n : Nat} (h : 1 ≤ n) : 1 ≤ kw n := by unfold kw; omega
@[simp] theorem w0_len (n : Nat) : (w0 n).length = kw n := List.length_replicate
theorem w1_len {n : Nat} (h : 1 ≤ n) : (w1 n).length = kw n := by have := kw_pos h; simp [w1]; omega
theorem uE_rep (k : Nat) (x : Int) : uE (List.replicate k x) = List.replicate k [.v (.int .u64 x)] := by simp [uE]
theorem w0_get {n i : Nat} (h : i < kw n) : (w0 n)[i]? = some 0 := by simp [w0, h]
theorem w1_zero (n : Nat) : (w1 n)[0]? = some 1 := rfl
theorem w1_get {n i : Nat} (h0 : 0 < i) (h : i < kw n) : (w1 n)[i]? = some 0 := by
 obtain ⟨j, rfl⟩ : ∃ j, i = j + 1 := ⟨i - 1, by omega⟩
 simp only [w1, List.getElem?_cons_succ]
 rw [List.getElem?_replicate, if_pos (by omega)]
theorem w0_set {n : Nat} (h : 1 ≤ n) : (uE (w0 n)).set 0 [.v (.int .u64 1)] = uE (w1 n) := by
 have := kw_pos h
 obtain ⟨j, hj⟩ : ∃ j, kw n = j + 1 := ⟨kw n - 1, by omega⟩
 simp [w0, w1, hj, uE, List.replicate_succ]
theorem kw_int {n : Nat} (h : n ≤ 4096) : wi (Int.tdiv (wi (wi ((n : Int) + 64) - 1)) 64) = ((kw n : Nat) : Int) := by
 have e : Int.tdiv ((n : Int) + 63) 64 = ((kw n : Nat) : Int) := by
  rw [Int.tdiv_eq_ediv_of_nonneg (by omega)]; unfold kw; omega
 have := kw_le h
 rw [wi_id (x := (n : Int) + 64) (by omega), show (n : Int) + 64 - 1 = (n : Int) + 63 by omega, wi_id (x := (n : Int) + 63) (by omega), e, wi_id (by omega)]
theorem kw_int' {n : Nat} (h : n ≤ 4096) : wi (Int.tdiv (wi ((n : Int) + 63)) 64) = ((kw n : Nat) : Int) := by
 have e : Int.tdiv ((n : Int) + 63) 64 = ((kw n : Nat) : Int) := by
  rw [Int.tdiv_eq_ediv_of_nonneg (by omega)]; unfold kw; omega
 have := kw_le h
 rw [wi_id (x := (n : Int) + 63) (by omega), e, wi_id (by omega)]
theorem dlt_false {a b : Int} (h : b ≤ a) : decide (a < b) = false := decide_eq_false (by omega)
theorem dlt_true {a b : Int} (h : a < b) : decide (a < b) = true := decide_eq_true h
theorem dgt_false {a b : Int} (h : a ≤ b) : decide (a > b) = false := decide_eq_false (by omega)
theorem dgt_true {a b : Int} (h : b < a) : decide (a > b) = true := decide_eq_true h
theorem dge_false {a b : Int} (h : a < b) : decide (a ≥ b) = false := decide_eq_false (by omega)
theorem dge_true {a b : Int} (h : b ≤ a) : decide (a ≥ b) = true := decide_eq_true h
theorem dle_true {a b : Int} (h : a ≤ b) : decide (a ≤ b) = true := decide_eq_true h
theorem bne_of {a b : Int} (h : a = b) : (a != b) = false := by rw [h]; exact bne_self_eq_false _
theorem tmod_nat (n m : Nat) : Int.tmod (n : Int) (m : Int) = ((n % m : Nat) : Int) := by
 rw [Int.tmod_eq_emod_of_nonneg (by omega)]; rfl
theorem tmod64 (n : Nat) : Int.tmod (n : Int) 64 = ((n % 64 : Nat) : Int) := tmod_nat n 64
theorem tdiv64 (n : Nat) : Int.tdiv (n : Int) 64 = ((n / 64 : Nat) : Int) := by
 rw [Int.tdiv_eq_ediv_of_nonneg (by omega)]; rfl
theorem fdiv_small {x : Int} {m : Nat} (h0 : 0 ≤ x) (h : x < 2 ^ m) : Int.fdiv x (2 ^ m) = 0 := by
 rw [Int.fdiv_eq_ediv_of_nonneg _ (by have : (0 : Int) < 2 ^ m := Int.pow_pos (by decide); omega)]
 exact Int.ediv_eq_zero_of_lt h0 h

theorem make_ok {n : Nat} (h : n ≤ 4096) : s63_F [[.v (.int .i64 n)]] = some [[.v (.int .i64 n), .l (uE (w0 n))], [.v (.int .i64 0)]] := by
 have := kw_le h
 unfold s63_F
 simp only [aC, aI, aB, aT, aL, aP, aF, aN, aZ, oC_cons, oZ_nil, oN_nil, oI_v, oB_v, oL_l, oP_p, oF_f, oR_of, joinO_eq, joinsO_eq, inrO_some, inlO_some, oK_true, if_true, condO_true, condO_false, cond_true, cond_false, dlt_false (show (0 : Int) ≤ (n : Int) by omega), dgt_false (show (n : Int) ≤ 4096 by omega), Bool.or_self, kw_int h]
 rw [oW_of (by omega) (by simp; omega) (by simp; omega)]
 simp [w0, uE_rep]

theorem check_ok {n : Nat} {l : List Int} (h : n ≤ 4096) (hl : l.length = kw n) (hx : 0 < n % 64 → ∃ x, l[kw n - 1]? = some x ∧ 0 ≤ x ∧ x < 2 ^ (n % 64)) : s146_F [[.v (.int .i64 n), .l (uE l)]] = some [[.v (.int .i64 0)]] := by
 have := kw_le h
 unfold s146_F
 simp only [aC, aI, aB, aT, aL, aP, aF, aN, aZ, oC_cons, oZ_nil, oN_nil, oI_v, oB_v, oL_l, oP_p, oF_f, oR_of, joinO_eq, joinsO_eq, inrO_some, inlO_some, oK_true, if_true, condO_true, condO_false, cond_true, cond_false, dlt_false (show (0 : Int) ≤ (n : Int) by omega), dgt_false (show (n : Int) ≤ 4096 by omega), Bool.or_self, Bool.false_or, kw_int h, uE_len, hl, bne_self_eq_false, tmod64]
 rcases Nat.eq_zero_or_pos (n % 64) with h0 | h0
 ·rw [h0]
  simp [oK, oE, oI, oN]
 ·obtain ⟨x, hx1, hx2, hx3⟩ := hx h0
  have hk : 1 ≤ kw n := by unfold kw; omega
  have e : wi (((kw n : Nat) : Int) - 1) = ((kw n - 1 : Nat) : Int) := by rw [wi_id (by omega)]; omega
  have h64 : min (n % 64) 64 = n % 64 := by omega
  simp only [aC, aI, aB, aT, aL, aP, aF, aN, aZ, oC_cons, oZ_nil, oN_nil, oI_v, oB_v, oL_l, oP_p, oF_f, oR_of, joinO_eq, joinsO_eq, inrO_some, inlO_some, oK_true, if_true, condO_true, condO_false, cond_true, cond_false, e, dgt_true (show (0 : Int) < ((n % 64 : Nat) : Int) by omega), Int.toNat_natCast, uE_get hx1, oE_of, Bool.not_true, Bool.false_or, Bool.true_and, h64, fdiv_small hx2 hx3, dle_true (show (0 : Int) ≤ ((kw n - 1 : Nat) : Int) by omega), dlt_true (show ((kw n - 1 : Nat) : Int) < ((kw n : Nat) : Int) by omega), dle_true (show (0 : Int) ≤ ((n % 64 : Nat) : Int) by omega), bne_self_eq_false]
theorem w0_last {n : Nat} (h : 1 ≤ n) : 0 < n % 64 → ∃ x, (w0 n)[kw n - 1]? = some x ∧ 0 ≤ x ∧ x < 2 ^ (n % 64) := fun h0 => ⟨0, w0_get (by have := kw_pos h; omega), by decide, Int.pow_pos (by decide)⟩
theorem two_pow {m : Nat} (h : 0 < m) : (1 : Int) < 2 ^ m := by
 obtain ⟨j, rfl⟩ : ∃ j, m = j + 1 := ⟨m - 1, by omega⟩
 have : (0 : Int) < 2 ^ j := Int.pow_pos (by decide)
 rw [Int.pow_succ]; omega
theorem w1_last {n : Nat} (h : 1 ≤ n) : 0 < n % 64 → ∃ x, (w1 n)[kw n - 1]? = some x ∧ 0 ≤ x ∧ x < 2 ^ (n % 64) := fun h0 => by
 have := kw_pos h
 by_cases h1 : kw n = 1
 ·rw [h1]; exact ⟨1, rfl, by decide, two_pow h0⟩
 ·exact ⟨0, w1_get (by omega) (by omega), by decide, Int.pow_pos (by decide)⟩
theorem check0 {n : Nat} (h1 : 1 ≤ n) (h : n ≤ 4096) : s146_F [[.v (.int .i64 n), .l (uE (w0 n))]] = some [[.v (.int .i64 0)]] := check_ok h (w0_len n) (w0_last h1)
theorem check1 {n : Nat} (h1 : 1 ≤ n) (h : n ≤ 4096) : s146_F [[.v (.int .i64 n), .l (uE (w1 n))]] = some [[.v (.int .i64 0)]] := check_ok h (w1_len h1) (w1_last h1)
theorem clone_ok {es : List (List D)} (h : es.length ≤ 1000000) : s98_F [[.l es]] = some [[.l es]] := by
 unfold s98_F
 simp only [aC, aI, aB, aT, aL, aP, aF, aN, aZ, oC_cons, oZ_nil, oN_nil, oI_v, oB_v, oL_l, oP_p, oF_f, oR_of, joinO_eq, joinsO_eq, inrO_some, inlO_some, oK_true, if_true, condO_true, condO_false, cond_true, cond_false]
 rcases Nat.eq_zero_or_pos es.length with h0 | h0
 ·obtain rfl := List.length_eq_zero_iff.1 h0
  simp [oM, oA, oK]
 ·rw [oM_pos (by omega), cond_false, oA_of (by omega) (by omega)]
theorem own_ok {n : Int} {es : List (List D)} (h : es.length ≤ 1000000) : s147_F [[.v (.int .i64 n), .l es]] = some [[.v (.int .i64 n), .l es]] := by
 unfold s147_F
 simp only [aC, aI, aB, aT, aL, aP, aF, aN, aZ, oC_cons, oZ_nil, oN_nil, oI_v, oB_v, oL_l, oP_p, oF_f, oR_of, joinO_eq, joinsO_eq, inrO_some, inlO_some, oK_true, if_true, condO_true, condO_false, cond_true, cond_false, clone_ok h]
theorem tz_max : s201_F [[.v (.int .u64 18446744073709551615)]] = some [[.v (.int .i64 0)]] := by
 have : tzG 18446744073709551615 = some 0 := by decide +kernel
 unfold s201_F
 simp only [aC, aI, aN, aZ, this, if_true]
 rfl
theorem first0 {n : Nat} (h1 : 1 ≤ n) (h : n ≤ 4096) : s148_F [[.p [.v (.int .i64 n), .l (uE (w0 n))]], [.v (.int .i64 0)], [.v (.bool false)]] = some [[.v (.int .i64 0)]] := by
 have hk := kw_pos h1
 unfold s148_F
 simp only [aC, aI, aB, aT, aL, aP, aF, aN, aZ, oC_cons, oZ_nil, oN_nil, oI_v, oB_v, oL_l, oP_p, oF_f, oR_of, joinO_eq, joinsO_eq, inrO_some, inlO_some, oK_true, if_true, condO_true, condO_false, cond_true, cond_false]
 have e0 : wi (Int.tdiv 0 64) = 0 := by decide
 have e1 : wu ((BitVec.toNat (~~~ (BitVec.ofInt 64 0)) : Nat) : Int) = 18446744073709551615 := by decide
 have e2 : Int.toNat (Int.tmod 0 64) = 0 := by decide
 have e3 : wu ((BitVec.toNat ((BitVec.ofInt 64 18446744073709551615) &&& (BitVec.ofInt 64 (wu (18446744073709551615 * 2 ^ (min 0 64))))) : Nat) : Int) = 18446744073709551615 := by decide
 have e4 : wi (wi (0 * 64) + 0) = 0 := by decide
 have e5 : minI (n : Int) 0 = 0 := by rw [minI_eq]; omega
 rw [e0]
 refine loopO_run (fun i => [.v (.int .i64 (i : Int))]) 0 (by decide) rfl (fun i hi => absurd hi (Nat.not_lt_zero _)) ?_
 have hx : (uE (w0 n))[0]? = some [.v (.int .u64 0)] := uE_get (w0_get (by omega))
 have := oX_of (ρ := List D ⊕ List (List D)) hx
 simp only [Int.natCast_zero] at this ⊢
 simp only [aC, aI, aB, aT, aL, aP, aF, aN, aZ, oC_cons, oZ_nil, oN_nil, oI_v, oB_v, oL_l, oP_p, oF_f, oR_of, joinO_eq, joinsO_eq, inrO_some, inlO_some, oK_true, if_true, condO_true, condO_false, cond_true, cond_false, this, uE_len, w0_len, dlt_true (show (0 : Int) < ((kw n : Nat) : Int) by omega), Bool.not_false, e1, e2, e3, e4, e5, tz_max, beq_self_eq_true, oK_of (show decide ((0 : Int) ≤ Int.tmod 0 64) = true by decide), show ((18446744073709551615 : Int) != 0) = true by decide]
theorem first1 {n : Nat} (h1 : 1 ≤ n) (h : n ≤ 4096) : s148_F [[.p [.v (.int .i64 n), .l (uE (w0 n))]], [.v (.int .i64 0)], [.v (.bool true)]] = some [[.v (.int .i64 n)]] := by
 have hk := kw_pos h1
 have hk2 := kw_le h
 unfold s148_F
 simp only [aC, aI, aB, aT, aL, aP, aF, aN, aZ, oC_cons, oZ_nil, oN_nil, oI_v, oB_v, oL_l, oP_p, oF_f, oR_of, joinO_eq, joinsO_eq, inrO_some, inlO_some, oK_true, if_true, condO_true, condO_false, cond_true, cond_false]
 have e0 : wi (Int.tdiv 0 64) = 0 := by decide
 have e2 : Int.toNat (Int.tmod 0 64) = 0 := by decide
 have e3 : wu ((BitVec.toNat ((BitVec.ofInt 64 0) &&& (BitVec.ofInt 64 (wu (18446744073709551615 * 2 ^ (min 0 64))))) : Nat) : Int) = 0 := by decide
 rw [e0]
 refine loop_for (kw n) (by omega) (fun i hi => ?_) ?_
 ·have hx : (uE (w0 n))[i]? = some [.v (.int .u64 0)] := uE_get (w0_get hi)
  simp only [aC, aI, aB, aT, aL, aP, aF, aN, aZ, oC_cons, oZ_nil, oN_nil, oI_v, oB_v, oL_l, oP_p, oF_f, oR_of, joinO_eq, joinsO_eq, inrO_some, inlO_some, oK_true, if_true, condO_true, condO_false, cond_true, cond_false, oX_of hx, uE_len, w0_len, Int.ofNat_lt, hi, decide_true, Bool.not_true, e2, e3, oK_of (show decide ((0 : Int) ≤ Int.tmod 0 64) = true by decide), bne_self_eq_false]
  cases ((i : Int) == 0) <;> rfl
 ·simp only [aC, aI, aB, aT, aL, aP, aF, aN, aZ, oC_cons, oZ_nil, oN_nil, oI_v, oB_v, oL_l, oP_p, oF_f, oR_of, joinO_eq, joinsO_eq, inrO_some, inlO_some, oK_true, if_true, condO_true, condO_false, cond_true, cond_false, uE_len, w0_len, Int.lt_irrefl, decide_false]
theorem run_ok {n : Nat} (h1 : 1 ≤ n) (h : n ≤ 4096) : s66_F [[.v (.int .i64 n), .l (uE (w0 n))], [.v (.int .i64 1)]] = some [[.v (.int .i64 0)], [.v (.int .i64 0)]] := by
 unfold s66_F
 simp only [aC, aI, aB, aT, aL, aP, aF, aN, aZ, oC_cons, oZ_nil, oN_nil, oI_v, oB_v, oL_l, oP_p, oF_f, oR_of, joinO_eq, joinsO_eq, inrO_some, inlO_some, oK_true, if_true, condO_true, condO_false, cond_true, cond_false, check0 h1 h, bne_self_eq_false, dlt_false (show (1 : Int) ≤ 1 by decide), first0 h1 h]
 refine loopO_run (fun i => [.v (.int .i64 0)]) 0 (by decide) rfl (fun i hi => absurd hi (Nat.not_lt_zero _)) ?_
 simp only [aC, aI, aB, aT, aL, aP, aF, aN, aZ, oC_cons, oZ_nil, oN_nil, oI_v, oB_v, oL_l, oP_p, oF_f, oR_of, joinO_eq, joinsO_eq, inrO_some, inlO_some, oK_true, if_true, condO_true, condO_false, cond_true, cond_false, dlt_true (show (0 : Int) < (n : Int) by omega), first1 h1 h, wi_id (show -9223372036854775808 ≤ (n : Int) - 0 ∧ (n : Int) - 0 < 9223372036854775808 by omega), dge_true (show (1 : Int) ≤ (n : Int) - 0 by omega)]
theorem put_ok {n : Nat} (h1 : 1 ≤ n) : s220_F [[.p [.v (.int .i64 n), .l (uE (w0 n))]], [.v (.int .i64 0)], [.v (.bool true)]] = some [[.p [.v (.int .i64 n), .l (uE (w1 n))]]] := by
 have hk := kw_pos h1
 unfold s220_F
 have e0 : wi (Int.tdiv 0 64) = 0 := by decide
 have e1 : wu ((BitVec.toNat ((BitVec.ofInt 64 0) ||| (BitVec.ofInt 64 (wu (1 * 2 ^ (min (Int.toNat (Int.tmod 0 64)) 64))))) : Nat) : Int) = 1 := by decide
 have hx : (uE (w0 n))[0]? = some [.v (.int .u64 0)] := uE_get (w0_get (by omega))
 have := oX_of (ρ := List (List D)) hx
 simp only [Int.natCast_zero] at this
 simp only [aC, aI, aB, aT, aL, aP, aF, aN, aZ, oC_cons, oZ_nil, oN_nil, oI_v, oB_v, oL_l, oP_p, oF_f, oR_of, joinO_eq, joinsO_eq, inrO_some, inlO_some, oK_true, if_true, condO_true, condO_false, cond_true, cond_false, e0, this, e1, uE_len, w0_len, oK_of (show decide ((0 : Int) ≤ Int.tmod 0 64) = true by decide), dle_true (show (0 : Int) ≤ 0 by decide), dlt_true (show (0 : Int) < ((kw n : Nat) : Int) by omega), Bool.and_self, Int.toNat_zero, show decide (0 < kw n) = true from decide_eq_true hk, w0_set h1]
theorem fill_ok {n : Nat} (h1 : 1 ≤ n) (h : n ≤ 4096) : s149_F [[.v (.int .i64 n), .l (uE (w0 n))], [.v (.int .i64 0)], [.v (.int .i64 1)], [.v (.bool true)]] = some [[.v (.int .i64 n), .l (uE (w1 n))], [.v (.int .i64 0)]] := by
 have hk := kw_le h
 unfold s149_F
 simp only [aC, aI, aB, aT, aL, aP, aF, aN, aZ, oC_cons, oZ_nil, oN_nil, oI_v, oB_v, oL_l, oP_p, oF_f, oR_of, joinO_eq, joinsO_eq, inrO_some, inlO_some, oK_true, if_true, condO_true, condO_false, cond_true, cond_false, check0 h1 h, bne_self_eq_false, own_ok (n := n) (es := uE (w0 n)) (by simp; omega), dlt_false (show (0 : Int) ≤ 0 by decide), dlt_false (show (0 : Int) ≤ 1 by decide), dgt_false (show (1 : Int) ≤ (n : Int) by omega), wi_id (show -9223372036854775808 ≤ (n : Int) - 1 ∧ (n : Int) - 1 < 9223372036854775808 by omega), dgt_false (show (0 : Int) ≤ (n : Int) - 1 by omega), Bool.or_self]
 refine loopO_run (fun i => [.v (.int .i64 (i : Int)), .v (.int .i64 n), .l (uE (match i with | 0 => w0 n | _ => w1 n))]) 1 (by decide) rfl (fun i hi => ?_) ?_
 ·obtain rfl : i = 0 := by omega
  have e : wi (0 + 0) = 0 := by decide
  have e2 : wi (0 + 1) = 1 := by decide
  simp only [Int.natCast_zero]
  simp only [aC, aI, aB, aT, aL, aP, aF, aN, aZ, oC_cons, oZ_nil, oN_nil, oI_v, oB_v, oL_l, oP_p, oF_f, oR_of, joinO_eq, joinsO_eq, inrO_some, inlO_some, oK_true, if_true, condO_true, condO_false, cond_true, cond_false, dlt_true (show (0 : Int) < 1 by decide), e, put_ok h1, e2]
  rfl
 ·simp only [Int.natCast_one]
  simp only [aC, aI, aB, aT, aL, aP, aF, aN, aZ, oC_cons, oZ_nil, oN_nil, oI_v, oB_v, oL_l, oP_p, oF_f, oR_of, joinO_eq, joinsO_eq, inrO_some, inlO_some, oK_true, if_true, condO_true, condO_false, cond_true, cond_false, dlt_false (show (1 : Int) ≤ 1 by decide)]
theorem bput_ok {n : Nat} (h1 : 1 ≤ n) (h : n ≤ 4096) : s177_F [[.v (.int .i64 n), .l (uE (w0 n))], [.v (.int .i64 0)], [.v (.bool true)]] = some [[.v (.int .i64 n), .l (uE (w1 n))], [.v (.int .i64 0)]] := by
 have hk := kw_le h
 unfold s177_F
 simp only [aC, aI, aB, aT, aL, aP, aF, aN, aZ, oC_cons, oZ_nil, oN_nil, oI_v, oB_v, oL_l, oP_p, oF_f, oR_of, joinO_eq, joinsO_eq, inrO_some, inlO_some, oK_true, if_true, condO_true, condO_false, cond_true, cond_false, check0 h1 h, bne_self_eq_false, own_ok (n := n) (es := uE (w0 n)) (by simp; omega), dlt_false (show (0 : Int) ≤ 0 by decide), dge_false (show (0 : Int) < (n : Int) by omega), Bool.or_self, put_ok h1]
theorem take_ok {n : Nat} (h1 : 1 ≤ n) (h : n ≤ 4096) : s24_F [[.v (.int .i64 n), .l (uE (w0 n))], [.v (.int .i64 1)]] = some [[.v (.int .i64 n), .l (uE (w1 n))], [.v (.int .i64 0)], [.v (.int .i64 0)]] := by
 have hk := kw_le h
 unfold s24_F s64_F s65_F s67_F
 simp only [aC, aI, aB, aT, aL, aP, aF, aN, aZ, oC_cons, oZ_nil, oN_nil, oI_v, oB_v, oL_l, oP_p, oF_f, oR_of, joinO_eq, joinsO_eq, inrO_some, inlO_some, oK_true, if_true, condO_true, condO_false, cond_true, cond_false, check0 h1 h, bne_self_eq_false, own_ok (n := n) (es := uE (w0 n)) (by simp; omega), run_ok h1 h, show ((0 : Int) == 3) = false by decide, beq_self_eq_true, fill_ok h1 h]
theorem hmake_ok {n : Nat} (h1 : 1 ≤ n) (h : n ≤ 1024) : s8_F [[.v (.int .i64 n)]] = some [[.l (uE (List.replicate (n * 16) 0)), .v (.int .i64 n), .l (uE (w1 n)), .l []], [.v (.int .i64 0)]] := by
 unfold s8_F s22_F s23_F
 have e : wi ((n : Int) * 16) = ((n * 16 : Nat) : Int) := by rw [wi_id (by omega)]; omega
 simp only [aC, aI, aB, aT, aL, aP, aF, aN, aZ, oC_cons, oZ_nil, oN_nil, oI_v, oB_v, oL_l, oP_p, oF_f, oR_of, joinO_eq, joinsO_eq, inrO_some, inlO_some, oK_true, if_true, condO_true, condO_false, cond_true, cond_false, dlt_false (show (1 : Int) ≤ (n : Int) by omega), dgt_false (show (n : Int) ≤ 1024 by omega), Bool.or_self, e, dlt_false (show (0 : Int) ≤ ((n * 16 : Nat) : Int) by omega), dgt_false (show ((n * 16 : Nat) : Int) ≤ 16384 by omega)]
 rw [oW_of (by omega) (by simp; omega) (by simp; omega)]
 simp only [aC, aI, aB, aT, aL, aP, aF, aN, aZ, oC_cons, oZ_nil, oN_nil, oI_v, oB_v, oL_l, oP_p, oF_f, oR_of, joinO_eq, joinsO_eq, inrO_some, inlO_some, oK_true, if_true, condO_true, condO_false, cond_true, cond_false, make_ok (show n ≤ 4096 by omega), take_ok h1 (show n ≤ 4096 by omega), Int.toNat_natCast, uE_rep]
theorem hmake_no {n : Int} (h : n < 1 ∨ n > 1024) : s8_F [[.v (.int .i64 n)]] = some [[.l [], .v (.int .i64 0), .l [], .l []], [.v (.int .i64 1)]] := by
 have : (decide (n < 1) || decide (n > 1024)) = true := by
  rcases h with h | h
  ·rw [dlt_true h]; rfl
  ·rw [dgt_true h, Bool.or_true]
 unfold s8_F
 simp only [aC, aI, aB, aT, aL, aP, aF, aN, aZ, oC_cons, oZ_nil, oN_nil, oI_v, oB_v, oL_l, oP_p, oF_f, oR_of, joinO_eq, joinsO_eq, inrO_some, inlO_some, oK_true, if_true, condO_true, condO_false, cond_true, cond_false, this]
end Go.Proofs.YtpdphbialepgkaaGreatDoor
