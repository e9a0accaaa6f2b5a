/- Trace: the models' laws, the third part: bytes to notes. -/
import Derived.Test.YtmhlgjmepkcniaaGreatDoorTr2
import Derived.Laws.Strings
namespace Go.Proofs.YtmhlgjmepkcniaaGreatDoor
open Go Go.Cw Go.Dw Go.Proofs
set_option linter.unusedVariables false
set_option linter.unusedSimpArgs false
set_option maxRecDepth 100000

theorem strAt_list (s : ByteArray) (i : Nat) : strAt s i = match s.data.toList[i]? with | some b => (b.toNat : Int) | none => 0 := by
 unfold strAt
 by_cases h : i < s.size
 ·have e1 : s[i]? = some s[i] := getElem?_pos s i h
  have e2 : s.data.toList[i]? = some s.data.toList[i] := List.getElem?_eq_getElem (by simpa using h)
  rw [e1, e2]; rfl
 ·have e1 : s[i]? = none := getElem?_neg s i h
  have e2 : s.data.toList[i]? = none := List.getElem?_eq_none (by simpa using Nat.le_of_not_lt h)
  rw [e1, e2]
theorem strAt_lt (s : ByteArray) (i : Nat) : 0 ≤ strAt s i ∧ strAt s i < 256 := by
 rw [strAt_list]
 split
 ·rename_i b _
  have := b.toNat_lt
  omega
 ·omega
theorem strAt_ext (s : ByteArray) (a b i : Nat) (h : a + i < b) (hb : b ≤ s.size) : strAt (s.extract a b) i = strAt s (a + i) := by
 rw [strAt_list, strAt_list]
 have e : (s.extract a b).data.toList[i]? = s.data.toList[a + i]? := by
  rw [ByteArray.data_extract, Array.toList_extract, List.extract_eq_take_drop, List.getElem?_take, if_pos (by omega), List.getElem?_drop]
 rw [e]

def sumB (s : ByteArray) (o : Nat) : Nat → Int
 | 0 => 0
 | k + 1 => sumB s o k + strAt s (o + k) * 2 ^ (8 * k)
theorem pow8 (k : Nat) : (2 : Int) ^ (8 * (k + 1)) = 256 * 2 ^ (8 * k) := by
 rw [show 8 * (k + 1) = 8 * k + 8 by omega, Int.pow_add]
 omega
theorem pow_pos8 (k : Nat) : (0 : Int) < 2 ^ (8 * k) := Int.pow_pos (by decide)
theorem sumB_lt (s : ByteArray) (o : Nat) : ∀ k, 0 ≤ sumB s o k ∧ sumB s o k < 2 ^ (8 * k)
 | 0 => by simp [sumB]
 | k + 1 => by
   obtain ⟨h1, h2⟩ := sumB_lt s o k
   obtain ⟨h3, h4⟩ := strAt_lt s (o + k)
   have h5 := pow_pos8 k
   have h6 : strAt s (o + k) * 2 ^ (8 * k) ≤ 255 * 2 ^ (8 * k) := Int.mul_le_mul_of_nonneg_right (by omega) (Int.le_of_lt h5)
   have h7 : 0 ≤ strAt s (o + k) * 2 ^ (8 * k) := Int.mul_nonneg h3 (Int.le_of_lt h5)
   simp only [sumB]
   rw [pow8]
   omega
theorem pow_le64 {k : Nat} (h : k ≤ 8) : (2 : Int) ^ (8 * k) ≤ 18446744073709551616 := by
 have : k = 0 ∨ k = 1 ∨ k = 2 ∨ k = 3 ∨ k = 4 ∨ k = 5 ∨ k = 6 ∨ k = 7 ∨ k = 8 := by omega
 rcases this with rfl | rfl | rfl | rfl | rfl | rfl | rfl | rfl | rfl <;> decide
theorem part_lt (s : ByteArray) (o k : Nat) (h : k < 8) : 0 ≤ strAt s (o + k) * 2 ^ (8 * k) ∧ strAt s (o + k) * 2 ^ (8 * k) < 18446744073709551616 := by
 have h1 := sumB_lt s o k
 have h2 := sumB_lt s o (k + 1)
 have h3 := pow_le64 (k := k + 1) (by omega)
 simp only [sumB] at h2
 have h5 := pow_pos8 k
 have h7 : 0 ≤ strAt s (o + k) * 2 ^ (8 * k) := Int.mul_nonneg (strAt_lt s (o + k)).1 (Int.le_of_lt h5)
 omega
theorem sum_lt64 (s : ByteArray) (o k : Nat) (h : k ≤ 8) : 0 ≤ sumB s o k ∧ sumB s o k < 18446744073709551616 := by
 have h1 := sumB_lt s o k
 have h3 := pow_le64 h
 omega
theorem or_sum (s : ByteArray) (o k : Nat) (h : k < 8) : wu ((BitVec.toNat ((BitVec.ofInt 64 (sumB s o k)) ||| (BitVec.ofInt 64 (strAt s (o + k) * 2 ^ (8 * k)))) : Nat) : Int) = sumB s o (k + 1) := by
 obtain ⟨a, ha⟩ : ∃ a : Nat, sumB s o k = (a : Int) := ⟨(sumB s o k).toNat, by have := (sumB_lt s o k).1; omega⟩
 obtain ⟨b, hb⟩ : ∃ b : Nat, strAt s (o + k) = (b : Int) := ⟨(strAt s (o + k)).toNat, by have := (strAt_lt s (o + k)).1; omega⟩
 have h1 := (sumB_lt s o k).2
 have h2 := part_lt s o k h
 have h3 := sum_lt64 s o (k + 1) (by omega)
 have hs : sumB s o (k + 1) = (a : Int) + (b : Int) * 2 ^ (8 * k) := by simp only [sumB, ha, hb]
 rw [ha] at h1
 obtain ⟨P, hP⟩ : ∃ P : Nat, P = 2 ^ (8 * k) := ⟨_, rfl⟩
 have hP' : (2 : Int) ^ (8 * k) = (P : Int) := by rw [hP]; simp
 rw [hs] at h3 ⊢
 rw [hb] at h2 ⊢
 rw [ha]
 rw [hP'] at h1 h2 h3 ⊢
 rw [← Int.natCast_mul] at h2 h3 ⊢
 have p1 : a < 18446744073709551616 := by omega
 have p2 : b * P < 18446744073709551616 := by omega
 have h1' : a < 2 ^ (8 * k) := by omega
 rw [BitVec.toNat_or, BitVec.ofInt_natCast, BitVec.ofInt_natCast, BitVec.toNat_ofNat, BitVec.toNat_ofNat, Nat.mod_eq_of_lt (by simpa using p1), Nat.mod_eq_of_lt (by simpa using p2)]
 have e1 : a ||| b * P = a + b * P := by
  have := Nat.two_pow_add_eq_or_of_lt h1' b
  rw [Nat.or_comm, hP, Nat.mul_comm, ← this, Nat.add_comm]
 rw [e1, wu_id (by omega)]
 omega

def noteAt (s : ByteArray) (o : Nat) : Nt := ⟨strAt s o == 1, strAt s (o + 1), strAt s (o + 2), strAt s (o + 3), 1, strAt s (o + 4), sumB s (o + 5) 8⟩
def notesOf (s : ByteArray) (k : Nat) : List Nt := (List.range k).map fun i => noteAt s (13 * i)
theorem notesOf_len (s : ByteArray) (k : Nat) : (notesOf s k).length = k := by simp [notesOf]
theorem notesOf_succ (s : ByteArray) (k : Nat) : notesOf s (k + 1) = notesOf s k ++ [noteAt s (13 * k)] := by simp [notesOf, List.range_succ]
theorem sumB_ext (s : ByteArray) (a b o : Nat) (hb : b ≤ s.size) : ∀ k, a + o + k ≤ b → sumB (s.extract a b) o k = sumB s (a + o) k
 | 0, _ => rfl
 | k + 1, h => by
   simp only [sumB]
   rw [sumB_ext s a b o hb k (by omega), strAt_ext s a b (o + k) (by omega) hb, Nat.add_assoc]
theorem noteAt_ext (s : ByteArray) (a b : Nat) (h : a + 13 ≤ b) (hb : b ≤ s.size) : noteAt (s.extract a b) 0 = noteAt s a := by
 unfold noteAt
 rw [strAt_ext s a b 0 (by omega) hb, strAt_ext s a b (0 + 1) (by omega) hb, strAt_ext s a b (0 + 2) (by omega) hb, strAt_ext s a b (0 + 3) (by omega) hb, strAt_ext s a b (0 + 4) (by omega) hb, sumB_ext s a b (0 + 5) hb 8 (by omega)]
 simp
theorem ofNat_lit (n : Nat) : Int.toNat (n : Int) = n := Int.toNat_natCast n

theorem note_of (c : ByteArray) (hc : c.size = 13) : s19_F [[.v (.string c)]] = some [dN (noteAt c 0)] := by
 have hb := strAt_lt c
 have hwi : ∀ i, wi (strAt c i) = strAt c i := fun i => by have := hb i; exact wi_id (by omega)
 have hwu : ∀ i, wu (strAt c i) = strAt c i := fun i => by have := hb i; exact wu_id (by omega)
 unfold s19_F
 have k2 : ((decide (0 ≤ 2)) && (decide (2 < (((ByteArray.size c) : Nat) : Int)))) = true := by rw [hc]; rfl
 have k3 : ((decide (0 ≤ 3)) && (decide (3 < (((ByteArray.size c) : Nat) : Int)))) = true := by rw [hc]; rfl
 have k0 : ((decide (0 ≤ 0)) && (decide (0 < (((ByteArray.size c) : Nat) : Int)))) = true := by rw [hc]; rfl
 have k1 : ((decide (0 ≤ 1)) && (decide (1 < (((ByteArray.size c) : Nat) : Int)))) = true := by rw [hc]; rfl
 have k4 : ((decide (0 ≤ 4)) && (decide (4 < (((ByteArray.size c) : Nat) : Int)))) = true := by rw [hc]; rfl
 simp only [aC, aI, aB, aT, aL, aP, aF, aN, aZ, oC_cons, oZ_nil, oN_nil, oI_v, oB_v, oL_l, oP_p, oF_f, oR_of, joinO_eq, joinsO_eq, inrO_some, inlO_some, oK_true, if_true, condO_true, condO_false, cond_true, cond_false]
 rw [oK_of k2, oK_of k3, oK_of k0, oK_of k1, oK_of k4, loopO_run (d := [.v (.int .i64 0), .v (.int .u64 0)]) (fun k => [.v (.int .i64 (k : Int)), .v (.int .u64 (sumB c 5 k))]) 8 (by decide) rfl]
 ·intro k hk
  have e1 : wi (5 + (k : Int)) = ((5 + k : Nat) : Int) := by rw [wi_id (by omega)]; omega
  have e2 : wi (8 * (k : Int)) = ((8 * k : Nat) : Int) := by rw [wi_id (by omega)]; omega
  have e3 : min (Int.toNat ((8 * k : Nat) : Int)) 64 = 8 * k := by omega
  have q1 : (decide (0 ≤ ((5 + k : Nat) : Int)) && decide (((5 + k : Nat) : Int) < (((ByteArray.size c) : Nat) : Int))) = true := by rw [hc]; simp; omega
  have q2 : decide (0 ≤ ((8 * k : Nat) : Int)) = true := decide_eq_true (by omega)
  have q3 : wu (strAt c (5 + k) * 2 ^ (8 * k)) = strAt c (5 + k) * 2 ^ (8 * k) := wu_id (part_lt c 5 k hk)
  simp only [aC, aI, aB, aT, aL, aP, aF, aN, aZ, oC_cons, oZ_nil, oN_nil, oI_v, oB_v, oL_l, oP_p, oF_f, oR_of, joinO_eq, joinsO_eq, inrO_some, inlO_some, oK_true, if_true, condO_true, condO_false, cond_true, cond_false, dlt_true (show (k : Int) < 8 by omega), e1, e2]
  rw [oK_of q1, oK_of q2, ofNat_lit, ofNat_lit, hwu, show min (8 * k) 64 = 8 * k by omega, q3, or_sum c 5 k hk, wi_id (by omega)]; rfl
 ·simp only [aC, aI, aB, aT, aL, aP, aF, aN, aZ, oC_cons, oZ_nil, oN_nil, oI_v, oB_v, oL_l, oP_p, oF_f, oR_of, joinO_eq, joinsO_eq, inrO_some, inlO_some, oK_true, if_true, condO_true, condO_false, cond_true, cond_false, dlt_false (show (8 : Int) ≤ ((8 : Nat) : Int) by omega)]
  simp only [hwi]
  rfl
end Go.Proofs.YtmhlgjmepkcniaaGreatDoor
