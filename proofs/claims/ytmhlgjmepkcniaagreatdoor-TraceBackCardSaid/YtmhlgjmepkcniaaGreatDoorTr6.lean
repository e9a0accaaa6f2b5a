/- Trace: the models' laws, the sixth part: TraceBack. -/
import Derived.Test.YtmhlgjmepkcniaaGreatDoorTr5
namespace Go.Proofs.YtmhlgjmepkcniaaGreatDoor
open Go Go.Cw Go.Dw Go.Proofs
set_option linter.unusedVariables false
set_option linter.unusedSimpArgs false
set_option maxRecDepth 100000

def Nt.In (x : Nt) : Prop := (0 ≤ x.kind ∧ x.kind < 256) ∧ 0 ≤ x.sum ∧ x.sum < 18446744073709551616
theorem strOf_size (l : List Int) : (strOf l).size = l.length := by
 unfold strOf
 rw [ByteArray.size]
 simp
theorem strAt_of (l : List Int) (i : Nat) (n : Int) (h : l[i]? = some n) (h0 : 0 ≤ n ∧ n < 256) : strAt (strOf l) i = n := by
 rw [strAt_list]
 unfold strOf
 simp only [List.toList_toArray, List.getElem?_map, h, Option.map_some, UInt8.toNat_ofNat']
 have : n.toNat % 2 ^ 8 = n.toNat := Nat.mod_eq_of_lt (by omega)
 rw [this]
 exact Int.toNat_of_nonneg h0.1
theorem enc1_wf (x : Nt) (h : x.In) (i : Nat) (n : Int) (hi : (enc1 x)[i]? = some n) : 0 ≤ n ∧ n < 256 := by
 have hm := List.mem_of_getElem? hi
 unfold enc1 hd5 uptoB at hm
 rcases List.mem_append.1 hm with hm | hm
 ·simp only [List.mem_cons, List.not_mem_nil, or_false, w8_eq] at hm
  obtain ⟨⟨k1, k2⟩, _⟩ := h
  rcases hm with rfl | rfl | rfl | rfl | rfl <;> omega
 ·obtain ⟨k, _, rfl⟩ := List.mem_map.1 hm
  unfold byteN
  omega
theorem encL_get : ∀ (l : List Nt) (i j : Nat) (x : Nt), l[i]? = some x → j < 13 → (encL l)[13 * i + j]? = (enc1 x)[j]?
 | [], i, j, x, h, _ => by cases h
 | y :: l, 0, j, x, h, hj => by
   obtain rfl := Option.some.inj h
   simp only [encL, List.flatMap_cons]
   rw [List.getElem?_append_left (by rw [enc1_len]; omega)]
   congr 1
   omega
 | y :: l, i + 1, j, x, h, hj => by
   have := encL_get l i j x h hj
   simp only [encL, List.flatMap_cons] at this ⊢
   rw [List.getElem?_append_right (by rw [enc1_len]; omega), enc1_len, show 13 * (i + 1) + j - 13 = 13 * i + j by omega]
   exact this
theorem byteN_sum (n : Int) (h0 : 0 ≤ n) : ∀ k, (∀ o s, (∀ j, j < k → strAt s (o + j) = byteN n j) → sumB s o k = n % 2 ^ (8 * k))
 | 0, o, s, _ => by simp only [sumB]; omega
 | k + 1, o, s, h => by
   simp only [sumB]
   rw [byteN_sum n h0 k o s (fun j hj => h j (by omega)), h k (by omega), pow8]
   unfold byteN
   obtain ⟨P, hP⟩ : ∃ P : Int, P = 2 ^ (8 * k) := ⟨_, rfl⟩
   have hpos : 0 < P := by rw [hP]; exact pow_pos8 k
   rw [← hP]
   have e1 : n % (256 * P) = n % P + P * (n / P % 256) := by
    obtain ⟨N, rfl⟩ : ∃ N : Nat, n = (N : Int) := ⟨n.toNat, by omega⟩
    obtain ⟨p, rfl⟩ : ∃ p : Nat, P = (p : Int) := ⟨P.toNat, by omega⟩
    have h2 := congrArg (Nat.cast : Nat → Int) (Nat.mod_mul (x := N) (a := p) (b := 256))
    push_cast at h2
    rw [Int.mul_comm 256]
    exact h2
   rw [e1, Int.mul_comm]
theorem byB_wi {n : Int} (h : byB n = true) : 0 ≤ n ∧ n < 256 := by
 unfold byB at h
 simpa using h

theorem noteAt_enc (l : List Nt) (hin : ∀ x ∈ l, x.In) (hok : l.all okN = true) (i : Nat) (x : Nt) (hx : l[i]? = some x) : noteAt (strOf (encL l)) (13 * i) = x ∧ strAt (strOf (encL l)) (13 * i) ≤ 1 := by
 have hxm := List.mem_of_getElem? hx
 have hx1 := hin x hxm
 have hx2 := List.all_eq_true.1 hok x hxm
 unfold okN at hx2
 simp only [Bool.and_eq_true, beq_iff_eq] at hx2
 obtain ⟨o1, o2, o3, o4⟩ := hx2
 have o2 := byB_wi o2
 have o3 := byB_wi o3
 have o4 := byB_wi o4
 have at_ : ∀ j n, j < 13 → (enc1 x)[j]? = some n → strAt (strOf (encL l)) (13 * i + j) = n := fun j n hj hn => strAt_of _ _ _ (by rw [encL_get l i j x hx hj, hn]) (enc1_wf x hx1 j n hn)
 have a0 := at_ 0 _ (by omega) rfl
 have a1 := at_ 1 _ (by omega) rfl
 have a2 := at_ 2 _ (by omega) rfl
 have a3 := at_ 3 _ (by omega) rfl
 have a4 := at_ 4 _ (by omega) rfl
 rw [Nat.add_zero] at a0
 have a5 : sumB (strOf (encL l)) (13 * i + 5) 8 = x.sum % 2 ^ (8 * 8) := byteN_sum x.sum hx1.2.1 8 _ _ fun j hj => by
  rw [Nat.add_assoc]
  refine at_ (5 + j) _ (by omega) ?_
  unfold enc1
  rw [List.getElem?_append_right (by simp [hd5])]
  simp [hd5, uptoB, hj]
 have a6 : x.sum % 2 ^ (8 * 8) = x.sum := Int.emod_eq_of_lt hx1.2.1 (by have := hx1.2.2; simpa using this)
 refine ⟨?_, ?_⟩
 ·unfold noteAt
  rw [a0, a1, a2, a3, a4, a5, a6]
  simp only [w8_eq]
  rw [Int.emod_eq_of_lt o2.1 o2.2, Int.emod_eq_of_lt o3.1 o3.2, Int.emod_eq_of_lt o4.1 o4.2]
  obtain ⟨thr, who, kind, twho, times, err, sum⟩ := x
  simp only at o1
  subst o1
  cases thr <;> rfl
 ·rw [a0, w8_eq]
  cases x.thr <;> decide
theorem dec_enc (l : List Nt) (hin : ∀ x ∈ l, x.In) (hok : l.all okN = true) (hl : l.length ≤ 4096) : decR (strOf (encL l)) = [[.l (l.map dN)], [.v (.int .i64 0)]] := by
 unfold decR
 have hsz : (strOf (encL l)).size = 13 * l.length := by rw [strOf_size, encL_len]
 rw [hsz, if_pos ⟨by omega, by omega⟩, show 13 * l.length / 13 = l.length by omega, scan_all]
 ·congr 3
  congr 1
  apply List.ext_getElem?
  intro i
  by_cases hi : i < l.length
  ·obtain ⟨x, hx⟩ := get_of hi
   rw [hx]
   unfold notesOf
   rw [List.getElem?_map, List.getElem?_range hi]
   simp only [Option.map_some]
   rw [(noteAt_enc l hin hok i x hx).1]
  ·rw [List.getElem?_eq_none (by rw [notesOf_len]; omega), List.getElem?_eq_none (by omega)]
 ·intro i hi
  obtain ⟨x, hx⟩ := get_of hi
  unfold okS
  exact decide_eq_true (noteAt_enc l hin hok i x hx).2

theorem byB_at (s : ByteArray) (i : Nat) : byB (strAt s i) = true := by
 have := strAt_lt s i
 unfold byB
 simp only [Bool.and_eq_true, decide_eq_true_eq]
 omega
theorem okN_at (s : ByteArray) (o : Nat) : okN (noteAt s o) = true := by
 unfold okN noteAt
 simp only [byB_at, Bool.and_self, beq_self_eq_true]
theorem sumB_mod (s : ByteArray) (o : Nat) (k n : Nat) (h : k < n) : sumB s o n / 2 ^ (8 * k) % 256 = strAt s (o + k) := by
 induction n with
 | zero => omega
 | succ n ih =>
   simp only [sumB]
   by_cases hk : k < n
   ·obtain ⟨d, rfl⟩ : ∃ d, n = k + 1 + d := ⟨n - (k + 1), by omega⟩
    have e : (2 : Int) ^ (8 * (k + 1 + d)) = 2 ^ (8 * k) * (256 * 2 ^ (8 * d)) := by
     rw [show 8 * (k + 1 + d) = 8 * k + 8 + 8 * d by omega, Int.pow_add, Int.pow_add, Int.mul_assoc]
     congr 1
    have e2 : sumB s o (k + 1 + d) + strAt s (o + (k + 1 + d)) * 2 ^ (8 * (k + 1 + d)) = sumB s o (k + 1 + d) + 2 ^ (8 * k) * (256 * (2 ^ (8 * d) * strAt s (o + (k + 1 + d)))) := by
     rw [e]
     congr 1
     rw [Int.mul_comm, Int.mul_assoc, Int.mul_assoc]
    rw [e2, Int.add_mul_ediv_left _ _ (Int.ne_of_gt (pow_pos8 k)), Int.add_mul_emod_self_left]
    exact ih hk
   ·obtain rfl : k = n := by omega
    have h1 := sumB_lt s o k
    have h2 := strAt_lt s (o + k)
    rw [Int.mul_comm, Int.add_mul_ediv_left _ _ (Int.ne_of_gt (pow_pos8 k)), Int.ediv_eq_zero_of_lt h1.1 h1.2, Int.zero_add, Int.emod_eq_of_lt h2.1 h2.2]
theorem enc1_at (s : ByteArray) (o : Nat) (h : strAt s o ≤ 1) (j : Nat) (hj : j < 13) : (enc1 (noteAt s o))[j]? = some (strAt s (o + j)) := by
 have hb := strAt_lt s
 have h8 : ∀ i, w8 (strAt s i) = strAt s i := fun i => by rw [w8_eq]; have := hb i; omega
 have h0 : w8 (cond (strAt s o == 1) 1 0) = strAt s o := by
  have := hb o
  have : strAt s o = 0 ∨ strAt s o = 1 := by omega
  rcases this with h | h <;> rw [h] <;> rfl
 unfold enc1
 by_cases h5 : j < 5
 ·rw [List.getElem?_append_left (by simpa [hd5] using h5)]
  unfold hd5 noteAt
  have : j = 0 ∨ j = 1 ∨ j = 2 ∨ j = 3 ∨ j = 4 := by omega
  rcases this with rfl | rfl | rfl | rfl | rfl
  ·simp only [List.getElem?_cons_zero, h0, Nat.add_zero]
  ·simp only [List.getElem?_cons_succ, List.getElem?_cons_zero, h8]
  ·simp only [List.getElem?_cons_succ, List.getElem?_cons_zero]
  ·simp only [List.getElem?_cons_succ, List.getElem?_cons_zero, h8]
  ·simp only [List.getElem?_cons_succ, List.getElem?_cons_zero, h8]
 ·rw [List.getElem?_append_right (by simpa [hd5] using Nat.le_of_not_lt h5)]
  have e : (hd5 (noteAt s o)).length = 5 := rfl
  rw [e]
  unfold uptoB
  rw [List.getElem?_map, List.getElem?_range (by omega)]
  simp only [Option.map_some]
  unfold byteN noteAt
  simp only
  rw [sumB_mod s (o + 5) (j - 5) 8 (by omega), show o + 5 + (j - 5) = o + j by omega]
theorem enc_dec (s : ByteArray) (m : Nat) (hs : s.size = 13 * m) (hok : ∀ i, i < m → okS s i = true) : (strOf (encL (notesOf s m))).data.toList = s.data.toList := by
 apply List.ext_getElem?
 intro i
 have hlen : (encL (notesOf s m)).length = 13 * m := by rw [encL_len, notesOf_len]
 by_cases hi : i < 13 * m
 ·have hx : (notesOf s m)[i / 13]? = some (noteAt s (13 * (i / 13))) := by
   unfold notesOf
   rw [List.getElem?_map, List.getElem?_range (by omega)]
   rfl
  have hk := hok (i / 13) (by omega)
  unfold okS at hk
  have h1 := encL_get (notesOf s m) (i / 13) (i % 13) _ hx (Nat.mod_lt _ (by decide))
  rw [enc1_at s _ (of_decide_eq_true hk) _ (Nat.mod_lt _ (by decide)), show 13 * (i / 13) + i % 13 = i by omega] at h1
  have hsl : s.data.toList.length = s.size := by simp
  have hlt : i < s.data.toList.length := by omega
  have h2 : s.data.toList[i]? = some s.data.toList[i] := List.getElem?_eq_getElem hlt
  rw [h2]
  have h3 := strAt_list s i
  rw [h2] at h3
  simp only at h3
  unfold strOf
  simp only [List.toList_toArray, List.getElem?_map, h1, Option.map_some, h3]
  congr 1
  apply UInt8.toNat_inj.1
  have := (s.data.toList[i]).toNat_lt
  simp
 ·have h3 : s.data.toList.length = s.size := by simp
  have h4 : (strOf (encL (notesOf s m))).data.toList.length = (strOf (encL (notesOf s m))).size := by simp
  rw [List.getElem?_eq_none (by rw [h4, strOf_size]; omega), List.getElem?_eq_none (by omega)]

theorem law_back (l : List Nt) (s : ByteArray) (hl : l.length < 9223372036854775807) (hin : ∀ x ∈ l, x.In) (hs : s.size ≤ 9223372036854775807) :
 s4_F [[.l (l.map dN)], [.v (.string s)]] = some [[.v (.bool true)]] := by
 unfold s4_F
 have hlen : (l.map dN).length = l.length := List.length_map ..
 -- what is read
 have back : ∃ (N : List Nt) (k : Int) (b : ByteArray) (c : Int), decR s = [[.l (N.map dN)], [.v (.int .i64 k)]] ∧ N.length ≤ 4096 ∧ encR N = [[.v (.string b)], [.v (.int .i64 c)]] ∧ (((k != 0) && ((((N.map dN).length : Nat) : Int) == 0)) || (((k == 0) && (c == 0)) && ((ByteArray.toList b) == (ByteArray.toList s)))) = true := by
  unfold decR
  split
  ·rename_i h
   rcases scan_cases (s.size / 13) (okS s) (fun _ => badD) [[.l ((notesOf s (s.size / 13)).map dN)], [.v (.int .i64 0)]] with ⟨i, _, _, he⟩ | ⟨ha, he⟩
   ·exact ⟨[], 2, _, _, he, Nat.zero_le _, rfl, rfl⟩
   ·have h1 : (notesOf s (s.size / 13)).all okN = true := List.all_eq_true.2 fun x hx => by
     unfold notesOf at hx
     obtain ⟨i, _, rfl⟩ := List.mem_map.1 hx
     exact okN_at s _
    refine ⟨notesOf s (s.size / 13), 0, strOf (encL (notesOf s (s.size / 13))), 0, he, by rw [notesOf_len]; exact h.2, ?_, ?_⟩
    ·unfold encR
     rw [if_pos ⟨by rw [notesOf_len]; exact h.2, h1⟩]
    ·have := enc_dec s (s.size / 13) (by omega) ha
     rw [ByteArray.toList_eq, ByteArray.toList_eq, this]
     simp
  ·exact ⟨[], 2, _, _, rfl, Nat.zero_le _, rfl, rfl⟩
 obtain ⟨N, k, b, c, e1, hN, e2, e3⟩ := back
 by_cases h : l.length ≤ 4096 ∧ l.all okN = true
 ·have e4 : encR l = [[.v (.string (strOf (encL l)))], [.v (.int .i64 0)]] := by unfold encR; rw [if_pos h]
  have hsz : (strOf (encL l)).size = 13 * l.length := by rw [strOf_size, encL_len]
  have e5 := dec_enc l hin h.2 h.1
  have e6 : wi (13 * ((l.length : Nat) : Int)) = (((strOf (encL l)).size : Nat) : Int) := by rw [hsz, wi_id (by omega)]; omega
  simp only [aC, aI, aB, aT, aL, aP, aF, aN, aZ, oC_cons, oZ_nil, oN_nil, oI_v, oB_v, oT_v, oL_l, oP_p, oF_f, oR_of, joinO_eq, joinsO_eq, inrO_some, inlO_some, oK_true, if_true, condO_true, condO_false, cond_true, cond_false, lives_F, enc_impl l (by omega), e4, dec_impl s hs, e1, enc_impl N (by omega), e2, e3, dec_impl (strOf (encL l)) (by rw [hsz]; omega), e5, same_of l l (by omega) rfl, hlen, e6, bne_self_eq_false, beq_self_eq_true, Bool.not_true, Bool.not_false, Bool.or_self]
 ·have e4 : encR l = badE := by unfold encR; rw [if_neg h]
  have e7 : ((2 : Int) == 0) = false := rfl
  simp only [aC, aI, aB, aT, aL, aP, aF, aN, aZ, oC_cons, oZ_nil, oN_nil, oI_v, oB_v, oT_v, oL_l, oP_p, oF_f, oR_of, joinO_eq, joinsO_eq, inrO_some, inlO_some, oK_true, if_true, condO_true, condO_false, cond_true, cond_false, lives_F, enc_impl l (by omega), e4, badE, e7, dec_impl s hs, e1, enc_impl N (by omega), e2, e3, Bool.not_true, Bool.not_false, Bool.or_self]
end Go.Proofs.YtmhlgjmepkcniaaGreatDoor
