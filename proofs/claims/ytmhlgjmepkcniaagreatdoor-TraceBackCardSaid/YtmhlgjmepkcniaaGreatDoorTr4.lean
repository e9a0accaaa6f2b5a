/- Trace: the models' laws, the fourth part: Decode, Apart, same. -/
import Derived.Test.YtmhlgjmepkcniaaGreatDoorTr3
namespace Go.Proofs.YtmhlgjmepkcniaaGreatDoor
open Go Go.Cw Go.Dw Go.Proofs
set_option linter.unusedVariables false
set_option linter.unusedSimpArgs false
set_option maxRecDepth 100000

abbrev badD : List (List D) := [[.l []], [.v (.int .i64 2)]]
def okS (s : ByteArray) (i : Nat) : Bool := decide (strAt s (13 * i) ≤ 1)
def decR (s : ByteArray) : List (List D) :=
 if s.size % 13 = 0 ∧ s.size / 13 ≤ 4096 then scan (s.size / 13) (okS s) (fun _ => badD) [[.l ((notesOf s (s.size / 13)).map dN)], [.v (.int .i64 0)]] else badD
theorem tmod13 (n : Nat) : Int.tmod ((n : Nat) : Int) 13 = ((n % 13 : Nat) : Int) := by rw [Int.tmod_eq_emod_of_nonneg (by omega)]; omega
theorem tdiv13 (n : Nat) : Int.tdiv ((n : Nat) : Int) 13 = ((n / 13 : Nat) : Int) := by rw [Int.tdiv_eq_ediv_of_nonneg (by omega)]; omega
theorem ne0 (n : Nat) : (((n : Nat) : Int) != 0) = !decide (n = 0) := by
 by_cases h : n = 0
 ·subst h; rfl
 ·simp [h]
theorem ext_size (s : ByteArray) (a : Nat) (h : a ≤ s.size) : (s.extract a s.size).size = s.size - a := by simp
theorem ext_all (s : ByteArray) : s.extract 0 s.size = s := by
 apply ByteArray.ext
 simp
theorem ext_ext (s : ByteArray) (a b : Nat) (h : a + b ≤ s.size) : (s.extract a s.size).extract b (s.extract a s.size).size = s.extract (a + b) s.size := by
 rw [ext_size s a (by omega), ByteArray.extract_extract]
 congr 1
 omega
theorem ext_take (s : ByteArray) (a : Nat) (h : a + 13 ≤ s.size) : (s.extract a s.size).extract 0 13 = s.extract a (a + 13) := by
 rw [ByteArray.extract_extract]
 congr 1
 omega
theorem str_ne (s : ByteArray) (h : 0 < s.size) : (! ((ByteArray.toList s) == (ByteArray.toList (ByteArray.mk #[])))) = true := by
 rw [ByteArray.toList_eq, ByteArray.toList_eq]
 cases hs : s.data.toList with
 | nil =>
   have : s.data.toList.length = s.size := by simp
   rw [hs] at this
   simp at this
   omega
 | cons a l => rfl
theorem str_eq0 (s : ByteArray) (h : s.size = 0) : (! ((ByteArray.toList s) == (ByteArray.toList (ByteArray.mk #[])))) = false := by
 rw [ByteArray.toList_eq, ByteArray.toList_eq]
 have : s.data.toList.length = s.size := by simp
 rw [List.eq_nil_of_length_eq_zero (this.trans h)]
 rfl

theorem dec_impl (s : ByteArray) (hs : s.size ≤ 9223372036854775807) : s7_F [[.v (.string s)]] = some (decR s) := by
 unfold s7_F
 have e1 : wi ((s.size / 13 : Nat) : Int) = ((s.size / 13 : Nat) : Int) := wi_id (by omega)
 simp only [aC, aI, aB, aT, aL, aP, aF, aN, aZ, oC_cons, oZ_nil, oN_nil, oI_v, oB_v, oT_v, oL_l, oP_p, oF_f, oR_of, joinO_eq, joinsO_eq, inrO_some, inlO_some, oK_true, if_true, condO_true, condO_false, cond_true, cond_false, tmod13, tdiv13, e1, ne0]
 unfold decR
 by_cases h : s.size % 13 = 0 ∧ s.size / 13 ≤ 4096
 ·obtain ⟨h1, h2⟩ := h
  simp only [aC, aI, aB, aT, aL, aP, aF, aN, aZ, oC_cons, oZ_nil, oN_nil, oI_v, oB_v, oT_v, oL_l, oP_p, oF_f, oR_of, joinO_eq, joinsO_eq, inrO_some, inlO_some, oK_true, if_true, condO_true, condO_false, cond_true, cond_false, h1, h2, and_self, decide_true, Bool.not_true, Bool.false_or, dgt_false (show ((s.size / 13 : Nat) : Int) ≤ 4096 by omega)]
  have hsz : s.size = 13 * (s.size / 13) := by omega
  generalize s.size / 13 = m at *
  rw [loop_idx (d := [.v (.string s), .l []]) (fun i => [.v (.string (s.extract (13 * i) s.size)), .l ((notesOf s i).map dN)]) m (by omega) (okS s) (fun _ => some badD) (some [[.l ((notesOf s m).map dN)], [.v (.int .i64 0)]]) (by rw [Nat.mul_zero, ext_all]; rfl)]
  ·rcases scan_cases m (okS s) (fun _ => some badD) (some [[.l ((notesOf s m).map dN)], [.v (.int .i64 0)]]) with ⟨i, hi, hb, he⟩ | ⟨ha, he⟩
   ·rw [he]
    rcases scan_cases m (okS s) (fun _ => badD) [[.l ((notesOf s m).map dN)], [.v (.int .i64 0)]] with ⟨j, _, _, he2⟩ | ⟨ha2, _⟩
    ·rw [he2]
    ·rw [ha2 i hi] at hb; cases hb
   ·rw [he, scan_all ha]
  ·intro i hi hk _
   have hz := ext_size s (13 * i) (by omega)
   have q0 : (decide (0 ≤ 0) && decide (0 < (((s.extract (13 * i) s.size).size : Nat) : Int))) = true := by rw [hz]; simp; omega
   have q1 : (decide (0 ≤ 13) && decide (13 ≤ (((s.extract (13 * i) s.size).size : Nat) : Int))) = true := by rw [hz]; simp; omega
   have b0 : strAt (s.extract (13 * i) s.size) 0 = strAt s (13 * i) := strAt_ext s _ _ 0 (by omega) (Nat.le_refl _)
   have hk' : strAt s (13 * i) ≤ 1 := by unfold okS at hk; simpa using hk
   have n1 : s19_F [[.v (.string ((s.extract (13 * i) s.size).extract 0 13))]] = some [dN (noteAt s (13 * i))] := by
    rw [ext_take s _ (by omega), note_of _ (by simp; omega), noteAt_ext s _ _ (Nat.le_refl _) (by omega)]
   have n2 : (notesOf s (i + 1)).map dN = (notesOf s i).map dN ++ [dN (noteAt s (13 * i))] := by rw [notesOf_succ, List.map_append]; rfl
   simp only [aC, aI, aB, aT, aL, aP, aF, aN, aZ, oC_cons, oZ_nil, oN_nil, oI_v, oB_v, oT_v, oL_l, oP_p, oF_f, oR_of, joinO_eq, joinsO_eq, inrO_some, inlO_some, oK_true, if_true, condO_true, condO_false, cond_true, cond_false, str_ne _ (show 0 < (s.extract (13 * i) s.size).size by rw [hz]; omega)]
   rw [oK_of q0, show Int.toNat 0 = 0 from rfl, b0, dgt_false hk']
   simp only [aC, aI, aB, aT, aL, aP, aF, aN, aZ, oC_cons, oZ_nil, oN_nil, oI_v, oB_v, oT_v, oL_l, oP_p, oF_f, oR_of, joinO_eq, joinsO_eq, inrO_some, inlO_some, oK_true, if_true, condO_true, condO_false, cond_true, cond_false]
   rw [oK_of q1, show Int.toNat 13 = 13 from rfl, n1]
   simp only [aC, aI, aB, aT, aL, aP, aF, aN, aZ, oC_cons, oZ_nil, oN_nil, oI_v, oB_v, oT_v, oL_l, oP_p, oF_f, oR_of, joinO_eq, joinsO_eq, inrO_some, inlO_some, oK_true, if_true, condO_true, condO_false, cond_true, cond_false, dN]
   rw [oA_of (by simp [notesOf_len]; omega) (by simp [notesOf_len]; omega), oK_of q1, ext_ext s _ _ (by omega), n2]
   rfl
  ·intro i hi hk _
   have hz := ext_size s (13 * i) (by omega)
   have q0 : (decide (0 ≤ 0) && decide (0 < (((s.extract (13 * i) s.size).size : Nat) : Int))) = true := by rw [hz]; simp; omega
   have b0 : strAt (s.extract (13 * i) s.size) 0 = strAt s (13 * i) := strAt_ext s _ _ 0 (by omega) (Nat.le_refl _)
   have hk' : 1 < strAt s (13 * i) := by unfold okS at hk; simp at hk; omega
   simp only [aC, aI, aB, aT, aL, aP, aF, aN, aZ, oC_cons, oZ_nil, oN_nil, oI_v, oB_v, oT_v, oL_l, oP_p, oF_f, oR_of, joinO_eq, joinsO_eq, inrO_some, inlO_some, oK_true, if_true, condO_true, condO_false, cond_true, cond_false, str_ne _ (show 0 < (s.extract (13 * i) s.size).size by rw [hz]; omega)]
   rw [oK_of q0, show Int.toNat 0 = 0 from rfl, b0, dgt_true hk']
   rfl
  ·intro _
   have hz := ext_size s (13 * m) (by omega)
   simp only [aC, aI, aB, aT, aL, aP, aF, aN, aZ, oC_cons, oZ_nil, oN_nil, oI_v, oB_v, oT_v, oL_l, oP_p, oF_f, oR_of, joinO_eq, joinsO_eq, inrO_some, inlO_some, oK_true, if_true, condO_true, condO_false, cond_true, cond_false, str_eq0 _ (show (s.extract (13 * m) s.size).size = 0 by rw [hz]; omega)]
 ·rw [if_neg h]
  have : (!decide (s.size % 13 = 0) || decide (((s.size / 13 : Nat) : Int) > 4096)) = true := by
   by_cases h1 : s.size % 13 = 0
   ·rw [dgt_true (show (4096 : Int) < ((s.size / 13 : Nat) : Int) by omega), Bool.or_true]
   ·simp [h1]
  simp only [aC, aI, aB, aT, aL, aP, aF, aN, aZ, oC_cons, oZ_nil, oN_nil, oI_v, oB_v, oT_v, oL_l, oP_p, oF_f, oR_of, joinO_eq, joinsO_eq, inrO_some, inlO_some, oK_true, if_true, condO_true, condO_false, cond_true, cond_false, this]

theorem dec_ref (s : ByteArray) (hs : s.size ≤ 9223372036854775807) : s8_F [[.v (.string s)]] = some (decR s) := by
 unfold s8_F
 have e1 : wi ((s.size / 13 : Nat) : Int) = ((s.size / 13 : Nat) : Int) := wi_id (by omega)
 simp only [aC, aI, aB, aT, aL, aP, aF, aN, aZ, oC_cons, oZ_nil, oN_nil, oI_v, oB_v, oT_v, oL_l, oP_p, oF_f, oR_of, joinO_eq, joinsO_eq, inrO_some, inlO_some, oK_true, if_true, condO_true, condO_false, cond_true, cond_false, tmod13, tdiv13, e1, ne0]
 unfold decR
 by_cases h : s.size % 13 = 0 ∧ s.size / 13 ≤ 4096
 ·obtain ⟨h1, h2⟩ := h
  simp only [aC, aI, aB, aT, aL, aP, aF, aN, aZ, oC_cons, oZ_nil, oN_nil, oI_v, oB_v, oT_v, oL_l, oP_p, oF_f, oR_of, joinO_eq, joinsO_eq, inrO_some, inlO_some, oK_true, if_true, condO_true, condO_false, cond_true, cond_false, h1, h2, and_self, decide_true, Bool.not_true, Bool.false_or, dgt_false (show ((s.size / 13 : Nat) : Int) ≤ 4096 by omega)]
  have hsz : s.size = 13 * (s.size / 13) := by omega
  generalize s.size / 13 = m at *
  have hwi : ∀ i, wi (strAt s i) = strAt s i := fun i => by have := strAt_lt s i; exact wi_id (by omega)
  have hwu : ∀ i, wu (strAt s i) = strAt s i := fun i => by have := strAt_lt s i; exact wu_id (by omega)
  rw [loop_idx (d := [.l [], .v (.int .i64 0)]) (fun i => [.l ((notesOf s i).map dN), .v (.int .i64 ((13 * i : Nat) : Int))]) m (by omega) (okS s) (fun _ => some badD) (some [[.l ((notesOf s m).map dN)], [.v (.int .i64 0)]]) rfl]
  ·rcases scan_cases m (okS s) (fun _ => some badD) (some [[.l ((notesOf s m).map dN)], [.v (.int .i64 0)]]) with ⟨i, hi, hb, he⟩ | ⟨ha, he⟩
   ·rw [he]
    rcases scan_cases m (okS s) (fun _ => badD) [[.l ((notesOf s m).map dN)], [.v (.int .i64 0)]] with ⟨j, _, _, he2⟩ | ⟨ha2, _⟩
    ·rw [he2]
    ·rw [ha2 i hi] at hb; cases hb
   ·rw [he, scan_all ha]
  ·intro i hi hk _
   have hk' : strAt s (13 * i) ≤ 1 := by unfold okS at hk; simpa using hk
   have q : ∀ j, j < 13 → (decide (0 ≤ ((13 * i + j : Nat) : Int)) && decide (((13 * i + j : Nat) : Int) < ((s.size : Nat) : Int))) = true := fun j hj => by simp; omega
   have q0 := q 0 (by omega)
   rw [Nat.add_zero] at q0
   have w1 : wi (((13 * i : Nat) : Int) + 1) = ((13 * i + 1 : Nat) : Int) := by rw [wi_id (by omega)]; omega
   have w2 : wi (((13 * i : Nat) : Int) + 2) = ((13 * i + 2 : Nat) : Int) := by rw [wi_id (by omega)]; omega
   have w3 : wi (((13 * i : Nat) : Int) + 3) = ((13 * i + 3 : Nat) : Int) := by rw [wi_id (by omega)]; omega
   have w4 : wi (((13 * i : Nat) : Int) + 4) = ((13 * i + 4 : Nat) : Int) := by rw [wi_id (by omega)]; omega
   have w5 : wi (((13 * i : Nat) : Int) + 5) = ((13 * i + 5 : Nat) : Int) := by rw [wi_id (by omega)]; omega
   have w13 : wi (((13 * i : Nat) : Int) + 13) = ((13 * (i + 1) : Nat) : Int) := by rw [wi_id (by omega)]; omega
   have n2 : (notesOf s (i + 1)).map dN = (notesOf s i).map dN ++ [dN (noteAt s (13 * i))] := by rw [notesOf_succ, List.map_append]; rfl
   simp only [aC, aI, aB, aT, aL, aP, aF, aN, aZ, oC_cons, oZ_nil, oN_nil, oI_v, oB_v, oT_v, oL_l, oP_p, oF_f, oR_of, joinO_eq, joinsO_eq, inrO_some, inlO_some, oK_true, if_true, condO_true, condO_false, cond_true, cond_false, w1, w2, w3, w4, w5, w13]
   rw [condO_pos (dlt_true (show ((13 * i : Nat) : Int) < ((s.size : Nat) : Int) by omega)), oK_of q0, ofNat_lit, dgt_false hk']
   simp only [aC, aI, aB, aT, aL, aP, aF, aN, aZ, oC_cons, oZ_nil, oN_nil, oI_v, oB_v, oT_v, oL_l, oP_p, oF_f, oR_of, joinO_eq, joinsO_eq, inrO_some, inlO_some, oK_true, if_true, condO_true, condO_false, cond_true, cond_false]
   rw [oK_of q0, oK_of (q 1 (by omega)), oK_of (q 2 (by omega)), oK_of (q 3 (by omega)), oK_of (q 4 (by omega))]
   simp only [ofNat_lit, hwi]
   rw [loopO_run (d := [.v (.int .i64 0), .v (.int .u64 0)]) (fun k => [.v (.int .i64 (k : Int)), .v (.int .u64 (sumB s (13 * i + 5) k))]) 8 (by decide) rfl]
   ·intro k hk8
    have f1 : wi (((13 * i + 5 : Nat) : Int) + (k : Int)) = ((13 * i + 5 + k : Nat) : Int) := by rw [wi_id (by omega)]; omega
    have f2 : wu (wi (8 * (k : Int))) = ((8 * k : Nat) : Int) := by rw [wi_id (by omega), wu_id (by omega)]; omega
    have p1 := part_lt s (13 * i + 5) k hk8
    have p2 := sum_lt64 s (13 * i + 5) (k + 1) (by omega)
    have q1 := q (5 + k) (by omega)
    rw [← Nat.add_assoc] at q1
    have q2 : decide (0 ≤ ((8 * k : Nat) : Int)) = true := decide_eq_true (by omega)
    simp only [aC, aI, aB, aT, aL, aP, aF, aN, aZ, oC_cons, oZ_nil, oN_nil, oI_v, oB_v, oT_v, oL_l, oP_p, oF_f, oR_of, joinO_eq, joinsO_eq, inrO_some, inlO_some, oK_true, if_true, condO_true, condO_false, cond_true, cond_false, dlt_true (show (k : Int) < 8 by omega), f1, f2]
    rw [oK_of q1, oK_of q2, ofNat_lit, ofNat_lit, hwu, show min (8 * k) 64 = 8 * k by omega, wu_id p1, wu_id (by simpa [sumB] using p2), wi_id (by omega)]
    rfl
   ·simp only [aC, aI, aB, aT, aL, aP, aF, aN, aZ, oC_cons, oZ_nil, oN_nil, oI_v, oB_v, oT_v, oL_l, oP_p, oF_f, oR_of, joinO_eq, joinsO_eq, inrO_some, inlO_some, oK_true, if_true, condO_true, condO_false, cond_true, cond_false, dlt_false (show (8 : Int) ≤ ((8 : Nat) : Int) by omega)]
    rw [oA_of (by simp [notesOf_len]; omega) (by simp [notesOf_len]; omega), n2]
    rfl
  ·intro i hi hk _
   have hk' : 1 < strAt s (13 * i) := by unfold okS at hk; simp at hk; omega
   have q0 : (decide (0 ≤ ((13 * i : Nat) : Int)) && decide (((13 * i : Nat) : Int) < ((s.size : Nat) : Int))) = true := by simp; omega
   simp only [aC, aI, aB, aT, aL, aP, aF, aN, aZ, oC_cons, oZ_nil, oN_nil, oI_v, oB_v, oT_v, oL_l, oP_p, oF_f, oR_of, joinO_eq, joinsO_eq, inrO_some, inlO_some, oK_true, if_true, condO_true, condO_false, cond_true, cond_false]
   rw [condO_pos (dlt_true (show ((13 * i : Nat) : Int) < ((s.size : Nat) : Int) by omega)), oK_of q0, ofNat_lit, dgt_true hk']
   rfl
  ·intro _
   simp only [aC, aI, aB, aT, aL, aP, aF, aN, aZ, oC_cons, oZ_nil, oN_nil, oI_v, oB_v, oT_v, oL_l, oP_p, oF_f, oR_of, joinO_eq, joinsO_eq, inrO_some, inlO_some, oK_true, if_true, condO_true, condO_false, cond_true, cond_false, dlt_false (show ((s.size : Nat) : Int) ≤ ((13 * m : Nat) : Int) by omega)]
 ·rw [if_neg h]
  have : (!decide (s.size % 13 = 0) || decide (((s.size / 13 : Nat) : Int) > 4096)) = true := by
   by_cases h1 : s.size % 13 = 0
   ·rw [dgt_true (show (4096 : Int) < ((s.size / 13 : Nat) : Int) by omega), Bool.or_true]
   ·simp [h1]
  simp only [aC, aI, aB, aT, aL, aP, aF, aN, aZ, oC_cons, oZ_nil, oN_nil, oI_v, oB_v, oT_v, oL_l, oP_p, oF_f, oR_of, joinO_eq, joinsO_eq, inrO_some, inlO_some, oK_true, if_true, condO_true, condO_false, cond_true, cond_false, this]
end Go.Proofs.YtmhlgjmepkcniaaGreatDoor
