/- Trace: the models' laws, the second part: notes to bytes. -/
import Derived.Test.YtmhlgjmepkcniaaGreatDoorTr1
namespace Go.Proofs.YtmhlgjmepkcniaaGreatDoor
open Go Go.Cw Go.Dw Go.Proofs
set_option linter.unusedVariables false
set_option linter.unusedSimpArgs false
set_option maxRecDepth 100000

abbrev badE : List (List D) := [[.v (.string (ByteArray.mk #[]))], [.v (.int .i64 2)]]
def encR (l : List Nt) : List (List D) := if l.length ≤ 4096 ∧ l.all okN = true then [[.v (.string (strOf (encL l)))], [.v (.int .i64 0)]] else badE

theorem strD_bD (l : List Int) : strD (bD l) = strOf l := by
 unfold strD bD
 rw [List.map_map]
 congr 1
 induction l with
 | nil => rfl
 | cons x l ih => simp only [List.map_cons, ih]; rfl
theorem scan_enc (l : List Nt) (h : l.length ≤ 4096) : scan l.length (okI l) (fun _ => some badE) (some [[.v (.string (strOf (encL l)))], [.v (.int .i64 0)]]) = some (encR l) := by
 unfold encR
 rcases scan_cases l.length (okI l) (fun _ => some badE) (some [[.v (.string (strOf (encL l)))], [.v (.int .i64 0)]]) with ⟨i, hi, hb, he⟩ | ⟨ha, he⟩
 ·rw [he]
  have : l.all okN = false := by
   unfold okI at hb
   rw [List.getElem?_eq_getElem hi] at hb
   exact List.all_eq_false.2 ⟨_, List.getElem_mem hi, by simpa using hb⟩
  rw [if_neg (by simp [this])]
 ·rw [he]
  have : l.all okN = true := List.all_eq_true.2 fun x hx => by
   obtain ⟨i, hi, rfl⟩ := List.getElem_of_mem hx
   have := ha i hi
   unfold okI at this
   rw [List.getElem?_eq_getElem hi] at this
   exact this
  rw [if_pos ⟨h, this⟩]
theorem flag_of (b : Bool) : s14_F [[.v (.bool b)]] = some [[.v (.int .u64 (cond b 1 0))]] := by cases b <;> rfl
theorem yes_of (b : Bool) : s18_F [[.v (.bool b)]] = some [[.v (.int .u64 (cond b 1 0))]] := by cases b <;> rfl
theorem byteOf_of (n : Int) : s17_F [[.v (.int .i64 n)]] = some [[.v (.bool (byB n))]] := rfl
theorem small0 : s13_F [[.l []]] = some [[.v (.bool true)]] := small_of [] (by decide)
theorem small3 (a b c : Int) : s13_F [[.l [[.v (.int .i64 a)], [.v (.int .i64 b)], [.v (.int .i64 c)]]]] = some [[.v (.bool (byB a && (byB b && byB c)))]] := by
 have := small_of [a, b, c] (by simp)
 simpa using this
theorem seq_of (es : List (List D)) (n : Int) (h : es.length ≤ 1000000) : s15_F [[.l es], [.f [.p [.v (.int .u64 n)]]]] = some [[.l (es ++ bD (uptoB n 8))]] := by
 show (if es.length ≤ 1000000 then some [[D.l (es ++ bytesN n)]] else none) = _
 rw [if_pos h]; rfl
theorem bytesOf_of (n : Int) : s16_F [[.v (.int .u64 n)]] = some [[.f [.p [.v (.int .u64 n)]]]] := rfl

theorem enc_impl (l : List Nt) (hl : l.length ≤ 9223372036854775807) : s5_F [[.l (l.map dN)]] = some (encR l) := by
 unfold s5_F
 have hlen : (l.map dN).length = l.length := List.length_map ..
 simp only [aC, aI, aB, aT, aL, aP, aF, aN, aZ, oC_cons, oZ_nil, oN_nil, oI_v, oB_v, oL_l, oP_p, oF_f, oR_of, joinO_eq, joinsO_eq, inrO_some, inlO_some, oK_true, if_true, condO_true, condO_false, cond_true, cond_false, hlen]
 by_cases h : l.length ≤ 4096
 ·have e1 : wi (13 * ((l.length : Nat) : Int)) = ((13 * l.length : Nat) : Int) := by rw [wi_id (by omega)]; omega
  simp only [aC, aI, aB, aT, aL, aP, aF, aN, aZ, oC_cons, oZ_nil, oN_nil, oI_v, oB_v, oL_l, oP_p, oF_f, oR_of, joinO_eq, joinsO_eq, inrO_some, inlO_some, oK_true, if_true, condO_true, condO_false, cond_true, cond_false, dgt_false (show ((l.length : Nat) : Int) ≤ 4096 by omega), e1]
  unfold oV
  rw [oK_of (by simp; omega)]
  rw [loop_idx (d := [.l (List.replicate (Int.toNat 0) [.v (.int .u8 0)]), .v (.int .i64 0)]) (fun i => [.l (bD (encL (l.take i))), .v (.int .i64 (i : Int))]) l.length (by omega) (okI l) (fun _ => some badE) (some [[.v (.string (strOf (encL l)))], [.v (.int .i64 0)]]) rfl, scan_enc l h]
  ·intro i hi hk _
   obtain ⟨x, hx⟩ := get_of hi
   have hk' : okN x = true := by unfold okI at hk; rw [hx] at hk; exact hk
   unfold okN at hk'
   simp only [Bool.and_eq_true, beq_iff_eq] at hk'
   obtain ⟨h1, h2, h3, h4⟩ := hk'
   have hle : (encL (l.take i)).length = 13 * i := by rw [encL_len, List.length_take]; omega
   have hne : (x.times != 1) = false := by rw [h1]; rfl
   rw [encL_snoc hx, bD_app]
   have hb : ∀ y : Int, bD (enc1 x) = [[.v (.int .u8 (w8 (cond x.thr 1 0)))], [.v (.int .u8 (w8 x.who))], [.v (.int .u8 x.kind)], [.v (.int .u8 (w8 x.twho))], [.v (.int .u8 (w8 x.err))]] ++ bD (uptoB x.sum 8) := fun _ => by unfold enc1; rw [bD_app]; rfl
   simp only [aC, aI, aB, aT, aL, aP, aF, aN, aZ, oC_cons, oZ_nil, oN_nil, oI_v, oB_v, oL_l, oP_p, oF_f, oR_of, joinO_eq, joinsO_eq, inrO_some, inlO_some, oK_true, if_true, condO_true, condO_false, cond_true, cond_false, dlt_true (show (i : Int) < (l.length : Int) by omega), oX_map hx, dN, hne, small3, h2, h3, h4, flag_of, bytesOf_of, Bool.and_self, Bool.not_true, Bool.not_false, Bool.or_self]
   rw [oA_of (by simp [bD_len, hle]; omega) (by simp [bD_len, hle]; omega), seq_of _ _ (by simp [bD_len, hle]; omega)]
   simp only [aC, aI, aB, aT, aL, aP, aF, aN, aZ, oC_cons, oZ_nil, oN_nil, oI_v, oB_v, oL_l, oP_p, oF_f, oR_of, joinO_eq, joinsO_eq, inrO_some, inlO_some, oK_true, if_true, condO_true, condO_false, cond_true, cond_false, hb 0]
   rw [wi_id (by omega), List.append_assoc]; rfl
  ·intro i hi hk _
   obtain ⟨x, hx⟩ := get_of hi
   have hk' : okN x = false := by unfold okI at hk; rw [hx] at hk; exact hk
   cases hne : (x.times != 1) with
   | true => simp only [aC, aI, aB, aT, aL, aP, aF, aN, aZ, oC_cons, oZ_nil, oN_nil, oI_v, oB_v, oL_l, oP_p, oF_f, oR_of, joinO_eq, joinsO_eq, inrO_some, inlO_some, oK_true, if_true, condO_true, condO_false, cond_true, cond_false, dlt_true (show (i : Int) < (l.length : Int) by omega), oX_map hx, dN, hne, small0, Bool.not_true, Bool.true_or, Bool.not_false]
   | false =>
     have h1 : (x.times == 1) = true := by simpa using hne
     have h2 : (byB x.who && (byB x.twho && byB x.err)) = false := by unfold okN at hk'; rw [h1] at hk'; simpa using hk'
     simp only [aC, aI, aB, aT, aL, aP, aF, aN, aZ, oC_cons, oZ_nil, oN_nil, oI_v, oB_v, oL_l, oP_p, oF_f, oR_of, joinO_eq, joinsO_eq, inrO_some, inlO_some, oK_true, if_true, condO_true, condO_false, cond_true, cond_false, dlt_true (show (i : Int) < (l.length : Int) by omega), oX_map hx, dN, hne, small3, h2, Bool.not_true, Bool.not_false, Bool.false_or]
  ·intro _
   simp only [aC, aI, aB, aT, aL, aP, aF, aN, aZ, oC_cons, oZ_nil, oN_nil, oI_v, oB_v, oL_l, oP_p, oF_f, oR_of, joinO_eq, joinsO_eq, inrO_some, inlO_some, oK_true, if_true, condO_true, condO_false, cond_true, cond_false, dlt_false (show (l.length : Int) ≤ (l.length : Int) from Int.le_refl _), List.take_length, strD_bD]
 ·simp only [aC, aI, aB, aT, aL, aP, aF, aN, aZ, oC_cons, oZ_nil, oN_nil, oI_v, oB_v, oL_l, oP_p, oF_f, oR_of, joinO_eq, joinsO_eq, inrO_some, inlO_some, oK_true, if_true, condO_true, condO_false, cond_true, cond_false, dgt_true (show (4096 : Int) < ((l.length : Nat) : Int) by omega)]
  unfold encR
  rw [if_neg (fun hh => h hh.1)]

theorem enc_ref (l : List Nt) (hl : l.length ≤ 9223372036854775807) : s6_F [[.l (l.map dN)]] = some (encR l) := by
 unfold s6_F
 have hlen : (l.map dN).length = l.length := List.length_map ..
 simp only [aC, aI, aB, aT, aL, aP, aF, aN, aZ, oC_cons, oZ_nil, oN_nil, oI_v, oB_v, oL_l, oP_p, oF_f, oR_of, joinO_eq, joinsO_eq, inrO_some, inlO_some, oK_true, if_true, condO_true, condO_false, cond_true, cond_false, hlen]
 by_cases h : l.length ≤ 4096
 ·simp only [aC, aI, aB, aT, aL, aP, aF, aN, aZ, oC_cons, oZ_nil, oN_nil, oI_v, oB_v, oL_l, oP_p, oF_f, oR_of, joinO_eq, joinsO_eq, inrO_some, inlO_some, oK_true, if_true, condO_true, condO_false, cond_true, cond_false, dgt_false (show ((l.length : Nat) : Int) ≤ 4096 by omega)]
  rw [loop_idx (d := [.l [], .v (.int .i64 0)]) (fun i => [.l (bD (encL (l.take i))), .v (.int .i64 (i : Int))]) l.length (by omega) (okI l) (fun _ => some badE) (some [[.v (.string (strOf (encL l)))], [.v (.int .i64 0)]]) rfl, scan_enc l h]
  ·intro i hi hk _
   obtain ⟨x, hx⟩ := get_of hi
   have hk' : okN x = true := by unfold okI at hk; rw [hx] at hk; exact hk
   unfold okN at hk'
   simp only [Bool.and_eq_true, beq_iff_eq] at hk'
   obtain ⟨h1, h2, h3, h4⟩ := hk'
   have hle : (encL (l.take i)).length = 13 * i := by rw [encL_len, List.length_take]; omega
   have hne : (x.times != 1) = false := by rw [h1]; rfl
   rw [encL_snoc hx, bD_app]
   have hb : bD (enc1 x) = [[.v (.int .u8 (w8 (cond x.thr 1 0)))], [.v (.int .u8 (w8 x.who))], [.v (.int .u8 x.kind)], [.v (.int .u8 (w8 x.twho))], [.v (.int .u8 (w8 x.err))]] ++ bD (uptoB x.sum 8) := by unfold enc1; rw [bD_app]; rfl
   simp only [aC, aI, aB, aT, aL, aP, aF, aN, aZ, oC_cons, oZ_nil, oN_nil, oI_v, oB_v, oL_l, oP_p, oF_f, oR_of, joinO_eq, joinsO_eq, inrO_some, inlO_some, oK_true, if_true, condO_true, condO_false, cond_true, cond_false, dlt_true (show (i : Int) < (l.length : Int) by omega), oX_map hx, dN, hne, byteOf_of, h2, h3, h4, yes_of, Bool.and_self, Bool.not_true, Bool.not_false, Bool.or_self]
   rw [oA_of (by simp [bD_len, hle]; omega) (by simp [bD_len, hle]; omega)]
   rw [loopO_run (fun j => [.l (bD (encL (l.take i)) ++ [[.v (.int .u8 (w8 (cond x.thr 1 0)))], [.v (.int .u8 (w8 x.who))], [.v (.int .u8 x.kind)], [.v (.int .u8 (w8 x.twho))], [.v (.int .u8 (w8 x.err))]] ++ bD (uptoB x.sum j)), .v (.int .i64 (j : Int))]) 8 (by decide) (by simp [uptoB, bD])]
   ·intro j hj
    have e1 : wu (wi (8 * (j : Int))) = ((8 * j : Nat) : Int) := by rw [wi_id (by omega), wu_id (by omega)]; omega
    have e2 : min (Int.toNat ((8 * j : Nat) : Int)) 64 = 8 * j := by omega
    have e3 : w8 (Int.fdiv x.sum (2 ^ (8 * j))) = byteN x.sum j := by rw [w8_eq, Int.fdiv_eq_ediv_of_nonneg _ (by exact Int.le_of_lt (Int.pow_pos (by decide)))]; rfl
    simp only [aC, aI, aB, aT, aL, aP, aF, aN, aZ, oC_cons, oZ_nil, oN_nil, oI_v, oB_v, oL_l, oP_p, oF_f, oR_of, joinO_eq, joinsO_eq, inrO_some, inlO_some, oK_true, if_true, condO_true, condO_false, cond_true, cond_false, dlt_true (show (j : Int) < 8 by omega), e1, dle_true (show (0 : Int) ≤ ((8 * j : Nat) : Int) by omega), e2, e3]
    rw [oA_of (by simp [bD_len, hle, uptoB_length]; omega) (by simp [bD_len, hle, uptoB_length]; omega), wi_id (by omega), uptoB_succ, bD_app]
    simp only [aC, aI, aB, aT, aL, aP, aF, aN, aZ, oC_cons, oZ_nil, oN_nil, oI_v, oB_v, oL_l, oP_p, oF_f, oR_of, joinO_eq, joinsO_eq, inrO_some, inlO_some, oK_true, if_true, condO_true, condO_false, cond_true, cond_false, List.append_assoc]
    rfl
   ·simp only [aC, aI, aB, aT, aL, aP, aF, aN, aZ, oC_cons, oZ_nil, oN_nil, oI_v, oB_v, oL_l, oP_p, oF_f, oR_of, joinO_eq, joinsO_eq, inrO_some, inlO_some, oK_true, if_true, condO_true, condO_false, cond_true, cond_false, dlt_false (show (8 : Int) ≤ ((8 : Nat) : Int) by omega), hb]
    rw [wi_id (by omega), List.append_assoc]; rfl
  ·intro i hi hk _
   obtain ⟨x, hx⟩ := get_of hi
   have hk' : okN x = false := by unfold okI at hk; rw [hx] at hk; exact hk
   have hb : ((x.times != 1) || !byB x.who || !byB x.twho || !byB x.err) = true := by
    unfold okN at hk'
    revert hk'
    cases h1 : (x.times == 1) <;> cases byB x.who <;> cases byB x.twho <;> cases byB x.err <;> simp_all
   have gen : ∀ a b c d : Bool, (a || !b || !c || !d) = true → True := fun _ _ _ _ _ => trivial
   cases hne : (x.times != 1) <;> cases hw : byB x.who <;> cases ht : byB x.twho <;> cases he : byB x.err <;> first | (exfalso; simp [hne, hw, ht, he] at hb; done) | simp only [aC, aI, aB, aT, aL, aP, aF, aN, aZ, oC_cons, oZ_nil, oN_nil, oI_v, oB_v, oL_l, oP_p, oF_f, oR_of, joinO_eq, joinsO_eq, inrO_some, inlO_some, oK_true, if_true, condO_true, condO_false, cond_true, cond_false, dlt_true (show (i : Int) < (l.length : Int) by omega), oX_map hx, dN, hne, byteOf_of, hw, ht, he, Bool.not_true, Bool.not_false, Bool.or_self, Bool.or_true, Bool.true_or]
  ·intro _
   simp only [aC, aI, aB, aT, aL, aP, aF, aN, aZ, oC_cons, oZ_nil, oN_nil, oI_v, oB_v, oL_l, oP_p, oF_f, oR_of, joinO_eq, joinsO_eq, inrO_some, inlO_some, oK_true, if_true, condO_true, condO_false, cond_true, cond_false, dlt_false (show (l.length : Int) ≤ (l.length : Int) from Int.le_refl _), List.take_length, strD_bD]
 ·simp only [aC, aI, aB, aT, aL, aP, aF, aN, aZ, oC_cons, oZ_nil, oN_nil, oI_v, oB_v, oL_l, oP_p, oF_f, oR_of, joinO_eq, joinsO_eq, inrO_some, inlO_some, oK_true, if_true, condO_true, condO_false, cond_true, cond_false, dgt_true (show (4096 : Int) < ((l.length : Nat) : Int) by omega)]
  unfold encR
  rw [if_neg (fun hh => h hh.1)]
end Go.Proofs.YtmhlgjmepkcniaaGreatDoor
