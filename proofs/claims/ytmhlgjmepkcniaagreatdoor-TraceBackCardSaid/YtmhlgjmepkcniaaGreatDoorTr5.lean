/- Trace: the models' laws, the fifth part: lists that are held against each other; TraceCodes. -/
import Derived.Test.YtmhlgjmepkcniaaGreatDoorTr4
namespace Go.Proofs.YtmhlgjmepkcniaaGreatDoor
open Go Go.Cw Go.Dw Go.Proofs
set_option linter.unusedVariables false
set_option linter.unusedSimpArgs false
set_option maxRecDepth 100000

def eqN (x y : Nt) : Bool := (((x.thr == y.thr) && ((x.who == y.who) && (((x.kind == y.kind) && ((x.twho == y.twho) && true)) && ((x.times == y.times) && true)))) && ((x.err == y.err) && ((x.sum == y.sum) && true)))
theorem eqN_self (x : Nt) : eqN x x = true := by simp [eqN]
theorem same_of (l m : List Nt) (hl : l.length < 9223372036854775807) (h : l = m) : s12_F [[.l (l.map dN)], [.l (m.map dN)]] = some [[.v (.bool true)]] := by
 subst h
 unfold s12_F
 have hlen : (l.map dN).length = l.length := List.length_map ..
 simp only [aC, aI, aB, aT, aL, aP, aF, aN, aZ, oC_cons, oZ_nil, oN_nil, oI_v, oB_v, oT_v, oL_l, oP_p, oF_f, oR_of, joinO_eq, joinsO_eq, inrO_some, inlO_some, oK_true, if_true, condO_true, condO_false, cond_true, cond_false, hlen, bne_self_eq_false]
 rw [loopO_run (d := [.v (.int .i64 0)]) (fun i => [.v (.int .i64 (i : Int))]) l.length (by omega) rfl]
 ·intro i hi
  obtain ⟨x, hx⟩ := get_of hi
  simp only [aC, aI, aB, aT, aL, aP, aF, aN, aZ, oC_cons, oZ_nil, oN_nil, oI_v, oB_v, oT_v, oL_l, oP_p, oF_f, oR_of, joinO_eq, joinsO_eq, inrO_some, inlO_some, oK_true, if_true, condO_true, condO_false, cond_true, cond_false, dlt_true (show (i : Int) < (l.length : Int) by omega), oX_map hx, dN, beq_self_eq_true, Bool.and_self, Bool.not_true]
  rw [wi_id (by omega)]; rfl
 ·simp only [aC, aI, aB, aT, aL, aP, aF, aN, aZ, oC_cons, oZ_nil, oN_nil, oI_v, oB_v, oT_v, oL_l, oP_p, oF_f, oR_of, joinO_eq, joinsO_eq, inrO_some, inlO_some, oK_true, if_true, condO_true, condO_false, cond_true, cond_false, dlt_false (show (l.length : Int) ≤ (l.length : Int) from Int.le_refl _)]

def okA (l m : List Nt) (i : Nat) : Bool := match l[i]?, m[i]? with | some x, some y => eqN x y | _, _ => false
abbrev outA (i : Int) (e : Int) : List (List D) := [[.v (.int .i64 i)], [.v (.int .i64 e)]]
def apR (l m : List Nt) : List (List D) := scan (max l.length m.length) (okA l m) (fun i => outA i 0) (outA 0 3)
theorem scan_at {β : Type} {n : Nat} {ok : Nat → Bool} {B : Nat → β} {E : β} {i : Nat} (hi : i < n) (hk : ok i = false) (hall : ∀ j, j < i → ok j = true) : scan n ok B E = B i := by
 unfold scan
 have : (List.range n).find? (fun i => !ok i) = some i := by
  rw [List.find?_range_eq_some]
  exact ⟨by simp [hk], List.mem_range.2 hi, fun j hj => by simp [hall j hj]⟩
 rw [this]
theorem scan_first {β : Type} (n : Nat) (ok : Nat → Bool) (B : Nat → β) (E : β) : (∃ i, i < n ∧ ok i = false ∧ (∀ j, j < i → ok j = true) ∧ scan n ok B E = B i) ∨ ((∀ i, i < n → ok i = true) ∧ scan n ok B E = E) := by
 unfold scan
 cases h : (List.range n).find? (fun i => !ok i) with
 | none => exact .inr ⟨fun i hi => by simpa using List.find?_eq_none.1 h i (List.mem_range.2 hi), rfl⟩
 | some i =>
   rw [List.find?_range_eq_some] at h
   exact .inl ⟨i, List.mem_range.1 h.2.1, by simpa using h.1, fun j hj => by simpa using h.2.2 j hj, rfl⟩

theorem ap_impl (l m : List Nt) (hl : l.length < 9223372036854775807) (hm : m.length < 9223372036854775807) : s9_F [[.l (l.map dN)], [.l (m.map dN)]] = some (apR l m) := by
 unfold s9_F
 have hlen : (l.map dN).length = l.length := List.length_map ..
 have hlen2 : (m.map dN).length = m.length := List.length_map ..
 simp only [aC, aI, aB, aT, aL, aP, aF, aN, aZ, oC_cons, oZ_nil, oN_nil, oI_v, oB_v, oT_v, oL_l, oP_p, oF_f, oR_of, joinO_eq, joinsO_eq, inrO_some, inlO_some, oK_true, if_true, condO_true, condO_false, cond_true, cond_false, hlen, hlen2]
 have hmin : minI ((l.length : Nat) : Int) ((m.length : Nat) : Int) = ((min l.length m.length : Nat) : Int) := by rw [minI_eq]; omega
 simp only [hmin]
 rw [loop_idx (d := [.v (.int .i64 0)]) (fun i => [.v (.int .i64 (i : Int))]) (min l.length m.length) (by omega) (okA l m) (fun i => some (outA i 0)) (cond (((l.length : Nat) : Int) == ((m.length : Nat) : Int)) (some (outA 0 3)) (some (outA ((min l.length m.length : Nat) : Int) 0))) rfl]
 ·unfold apR
  rcases scan_first (min l.length m.length) (okA l m) (fun i => some (outA i 0)) (cond (((l.length : Nat) : Int) == ((m.length : Nat) : Int)) (some (outA 0 3)) (some (outA ((min l.length m.length : Nat) : Int) 0))) with ⟨i, hi, hk, ha, he⟩ | ⟨ha, he⟩
  ·rw [he, scan_at (by omega) hk ha]
  ·rw [he]
   by_cases hh : l.length = m.length
   ·rw [show (((l.length : Nat) : Int) == ((m.length : Nat) : Int)) = true by simp [hh], scan_all (fun i hi => ha i (by omega))]
    rfl
   ·rw [show (((l.length : Nat) : Int) == ((m.length : Nat) : Int)) = false by simp; omega, scan_at (i := min l.length m.length) (by omega) ?_ ha]
    ·rfl
    ·unfold okA
     rcases Nat.lt_or_ge l.length m.length with h | h
     ·rw [List.getElem?_eq_none (by omega)]
     ·rw [show m[min l.length m.length]? = none from List.getElem?_eq_none (by omega)]
      cases l[min l.length m.length]? <;> rfl
 ·intro i hi hk _
  obtain ⟨x, hx⟩ := get_of (l := l) (i := i) (by omega)
  obtain ⟨y, hy⟩ := get_of (l := m) (i := i) (by omega)
  have hk' : eqN x y = true := by unfold okA at hk; rw [hx, hy] at hk; exact hk
  unfold eqN at hk'
  simp only [aC, aI, aB, aT, aL, aP, aF, aN, aZ, oC_cons, oZ_nil, oN_nil, oI_v, oB_v, oT_v, oL_l, oP_p, oF_f, oR_of, joinO_eq, joinsO_eq, inrO_some, inlO_some, oK_true, if_true, condO_true, condO_false, cond_true, cond_false, dlt_true (show (i : Int) < ((min l.length m.length : Nat) : Int) by omega), oX_map hx, oX_map hy, dN]
  rw [hk', wi_id (by omega)]; rfl
 ·intro i hi hk _
  obtain ⟨x, hx⟩ := get_of (l := l) (i := i) (by omega)
  obtain ⟨y, hy⟩ := get_of (l := m) (i := i) (by omega)
  have hk' : eqN x y = false := by unfold okA at hk; rw [hx, hy] at hk; exact hk
  unfold eqN at hk'
  simp only [aC, aI, aB, aT, aL, aP, aF, aN, aZ, oC_cons, oZ_nil, oN_nil, oI_v, oB_v, oT_v, oL_l, oP_p, oF_f, oR_of, joinO_eq, joinsO_eq, inrO_some, inlO_some, oK_true, if_true, condO_true, condO_false, cond_true, cond_false, dlt_true (show (i : Int) < ((min l.length m.length : Nat) : Int) by omega), oX_map hx, oX_map hy, dN]
  rw [hk']; rfl
 ·intro _
  simp only [aC, aI, aB, aT, aL, aP, aF, aN, aZ, oC_cons, oZ_nil, oN_nil, oI_v, oB_v, oT_v, oL_l, oP_p, oF_f, oR_of, joinO_eq, joinsO_eq, inrO_some, inlO_some, oK_true, if_true, condO_true, condO_false, cond_true, cond_false, dlt_false (show ((min l.length m.length : Nat) : Int) ≤ ((min l.length m.length : Nat) : Int) from Int.le_refl _)]

theorem ap_ref (l m : List Nt) (hl : l.length < 9223372036854775807) (hm : m.length < 9223372036854775807) : s10_F [[.l (l.map dN)], [.l (m.map dN)]] = some (apR l m) := by
 unfold s10_F
 have hlen : (l.map dN).length = l.length := List.length_map ..
 have hlen2 : (m.map dN).length = m.length := List.length_map ..
 simp only [aC, aI, aB, aT, aL, aP, aF, aN, aZ, oC_cons, oZ_nil, oN_nil, oI_v, oB_v, oT_v, oL_l, oP_p, oF_f, oR_of, joinO_eq, joinsO_eq, inrO_some, inlO_some, oK_true, if_true, condO_true, condO_false, cond_true, cond_false, hlen, hlen2]
 rw [loop_idx (d := [.v (.int .i64 0)]) (fun i => [.v (.int .i64 (i : Int))]) (max l.length m.length) (by omega) (okA l m) (fun i => some (outA i 0)) (some (outA 0 3)) rfl]
 ·unfold apR
  rcases scan_first (max l.length m.length) (okA l m) (fun i => some (outA i 0)) (some (outA 0 3)) with ⟨i, hi, hk, ha, he⟩ | ⟨ha, he⟩
  ·rw [he, scan_at hi hk ha]
  ·rw [he, scan_all ha]
 ·intro i hi hk _
  unfold okA at hk
  cases hx : l[i]? with
  | none => rw [hx] at hk; cases hk
  | some x =>
    cases hy : m[i]? with
    | none => rw [hx, hy] at hk; cases hk
    | some y =>
      rw [hx, hy] at hk
      have hk' : eqN x y = true := hk
      unfold eqN at hk'
      have il : i < l.length := (List.getElem?_eq_some_iff.1 hx).1
      have im : i < m.length := (List.getElem?_eq_some_iff.1 hy).1
      have gx : (l.map dN)[i]? = some (dN x) := by rw [List.getElem?_map, hx]; rfl
      have gy : (m.map dN)[i]? = some (dN y) := by rw [List.getElem?_map, hy]; rfl
      have c1 : decide ((i : Int) < ((l.length : Nat) : Int)) = true := dlt_true (by omega)
      have c2 : decide ((i : Int) < ((m.length : Nat) : Int)) = true := dlt_true (by omega)
      have c3 : decide ((i : Int) ≥ ((l.length : Nat) : Int)) = false := dge_false (by omega)
      have c4 : decide ((i : Int) ≥ ((m.length : Nat) : Int)) = false := dge_false (by omega)
      have c5 : decide (0 ≤ (i : Int)) = true := decide_eq_true (by omega)
      simp only [aC, aI, aB, aT, aL, aP, aF, aN, aZ, oC_cons, oZ_nil, oN_nil, oI_v, oB_v, oT_v, oL_l, oP_p, oF_f, oR_of, joinO_eq, joinsO_eq, inrO_some, inlO_some, oK_true, if_true, condO_true, condO_false, cond_true, cond_false, c1, c2, c3, c4, c5, Bool.or_self, Bool.not_false, Bool.not_true, Bool.and_self, Bool.false_or, Int.toNat_natCast, gx, gy, oE_of, dN]
      rw [hk', wi_id (by omega)]; rfl
 ·intro i hi hk _
  unfold okA at hk
  have c5 : decide (0 ≤ (i : Int)) = true := decide_eq_true (by omega)
  by_cases hb : i < l.length ∧ i < m.length
  ·obtain ⟨x, hx⟩ := get_of hb.1
   obtain ⟨y, hy⟩ := get_of hb.2
   rw [hx, hy] at hk
   have hk' : eqN x y = false := hk
   unfold eqN at hk'
   have gx : (l.map dN)[i]? = some (dN x) := by rw [List.getElem?_map, hx]; rfl
   have gy : (m.map dN)[i]? = some (dN y) := by rw [List.getElem?_map, hy]; rfl
   have c1 : decide ((i : Int) < ((l.length : Nat) : Int)) = true := dlt_true (by omega)
   have c2 : decide ((i : Int) < ((m.length : Nat) : Int)) = true := dlt_true (by omega)
   have c3 : decide ((i : Int) ≥ ((l.length : Nat) : Int)) = false := dge_false (by omega)
   have c4 : decide ((i : Int) ≥ ((m.length : Nat) : Int)) = false := dge_false (by omega)
   simp only [aC, aI, aB, aT, aL, aP, aF, aN, aZ, oC_cons, oZ_nil, oN_nil, oI_v, oB_v, oT_v, oL_l, oP_p, oF_f, oR_of, joinO_eq, joinsO_eq, inrO_some, inlO_some, oK_true, if_true, condO_true, condO_false, cond_true, cond_false, c1, c2, c3, c4, c5, Bool.or_self, Bool.not_false, Bool.not_true, Bool.and_self, Bool.false_or, Int.toNat_natCast, gx, gy, oE_of, dN]
   rw [hk']; rfl
  ·have c1 : (decide ((i : Int) < ((l.length : Nat) : Int)) || decide ((i : Int) < ((m.length : Nat) : Int))) = true := by
    simp only [Bool.or_eq_true, decide_eq_true_eq]; omega
   have c2 : (decide ((i : Int) ≥ ((l.length : Nat) : Int)) || decide ((i : Int) ≥ ((m.length : Nat) : Int))) = true := by
    simp only [Bool.or_eq_true, decide_eq_true_eq]; omega
   simp only [aC, aI, aB, aT, aL, aP, aF, aN, aZ, oC_cons, oZ_nil, oN_nil, oI_v, oB_v, oT_v, oL_l, oP_p, oF_f, oR_of, joinO_eq, joinsO_eq, inrO_some, inlO_some, oK_true, if_true, condO_true, condO_false, cond_true, cond_false, c1, c2, Bool.not_true, Bool.not_false, Bool.true_or, oE_of]
 ·intro _
  have c1 : (decide (((max l.length m.length : Nat) : Int) < ((l.length : Nat) : Int)) || decide (((max l.length m.length : Nat) : Int) < ((m.length : Nat) : Int))) = false := by
   simp only [Bool.or_eq_false_iff, decide_eq_false_iff_not]; omega
  simp only [aC, aI, aB, aT, aL, aP, aF, aN, aZ, oC_cons, oZ_nil, oN_nil, oI_v, oB_v, oT_v, oL_l, oP_p, oF_f, oR_of, joinO_eq, joinsO_eq, inrO_some, inlO_some, oK_true, if_true, condO_true, condO_false, cond_true, cond_false, c1]

theorem encR_form (l : List Nt) : ∃ b n, encR l = [[.v (.string b)], [.v (.int .i64 n)]] := by
 unfold encR
 split
 ·exact ⟨_, _, rfl⟩
 ·exact ⟨_, _, rfl⟩
theorem decR_form (s : ByteArray) : ∃ (N : List Nt) (n : Int), N.length ≤ 4096 ∧ decR s = [[.l (N.map dN)], [.v (.int .i64 n)]] := by
 unfold decR
 split
 ·rename_i h
  rcases scan_cases (s.size / 13) (okS s) (fun _ => badD) [[.l ((notesOf s (s.size / 13)).map dN)], [.v (.int .i64 0)]] with ⟨i, _, _, he⟩ | ⟨_, he⟩
  ·exact ⟨[], _, Nat.zero_le _, he⟩
  ·exact ⟨_, _, by rw [notesOf_len]; exact h.2, he⟩
 ·exact ⟨[], _, Nat.zero_le _, rfl⟩
theorem apR_form (l m : List Nt) : ∃ a b, apR l m = outA a b := by
 unfold apR
 rcases scan_cases (max l.length m.length) (okA l m) (fun i => outA i 0) (outA 0 3) with ⟨i, _, _, he⟩ | ⟨_, he⟩
 ·exact ⟨_, _, he⟩
 ·exact ⟨_, _, he⟩
theorem lives_F : s11_F [] = some [[.v (.bool true)]] := rfl

theorem law_codes (l m : List Nt) (s : ByteArray) (hl : l.length < 9223372036854775807) (hm : m.length < 9223372036854775807) (hs : s.size ≤ 9223372036854775807) :
 s3_F [[.l (l.map dN)], [.l (m.map dN)], [.v (.string s)]] = some [[.v (.bool true)]] := by
 unfold s3_F
 obtain ⟨b, n, e1⟩ := encR_form l
 obtain ⟨N, k, hN, e2⟩ := decR_form s
 obtain ⟨p, q, e3⟩ := apR_form l m
 simp only [aC, aI, aB, aT, aL, aP, aF, aN, aZ, oC_cons, oZ_nil, oN_nil, oI_v, oB_v, oT_v, oL_l, oP_p, oF_f, oR_of, joinO_eq, joinsO_eq, inrO_some, inlO_some, oK_true, if_true, condO_true, condO_false, cond_true, cond_false, enc_impl l (by omega), enc_ref l (by omega), dec_impl s hs, dec_ref s hs, ap_impl l m hl hm, ap_ref l m hl hm, lives_F, e1, e2, e3, outA, beq_self_eq_true, Bool.and_self, same_of N N (by omega) rfl]
end Go.Proofs.YtmhlgjmepkcniaaGreatDoor
