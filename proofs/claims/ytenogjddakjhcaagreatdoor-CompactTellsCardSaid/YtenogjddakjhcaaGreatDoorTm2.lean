/- Laws of the models: moves behind moves. -/
import Derived.Test.YtenogjddakjhcaaGreatDoorTm
namespace Go.Proofs.YtenogjddakjhcaaGreatDoor
open Go Go.Cw Go.Dw Go.Proofs
set_option linter.unusedVariables false
set_option linter.unusedSimpArgs false
set_option maxRecDepth 100000

abbrev smallM (zs : List Mv) : Prop := zs.length * 16 ≤ 140737488351232
theorem smallM.big {zs : List Mv} (h : smallM zs) : big zs := by unfold smallM at h; unfold Go.Proofs.YtenogjddakjhcaaGreatDoor.big; omega

def thenA (zs ys : List Mv) : List (List D) := match thenM zs ys with | some l => [[.l (l.map dMv)], [.v (.int .i64 0)]] | none => [[.l []], [.v (.int .i64 3)]]
theorem m7 (zs ys : List Mv) (hz : smallM zs) (hy : smallM ys) : s7_F [[.l (dM zs)], [.l (dM ys)]] = some (thenA zs ys) := by
 show thenD (dM zs) (dM ys) = _
 unfold thenD dM
 rw [unM_d, unM_d]
 simp only [if_pos (show zs.length * 16 ≤ 140737488351232 ∧ ys.length * 16 ≤ 140737488351232 from ⟨hz, hy⟩)]
 rfl

def inn (t : List (List D)) (ys : List Mv) (a b : Int) (j : Nat) : List D :=
 match (ys.take j).find? fun n => n.1.1 == b with
 | none => [.l t, .v (.bool false), .v (.int .i64 (j : Int))]
 | some n => [.l (t ++ [[.v (.int .u64 a), .v (.int .u64 n.1.2)]]), .v (.bool true), .v (.int .i64 (j : Int))]
theorem find_take {ys : List Mv} {p : Mv → Bool} {j : Nat} {y : Mv} (h : ys[j]? = some y) : (ys.take (j + 1)).find? p = match (ys.take j).find? p with | some n => some n | none => if p y then some y else none := by
 have e : ys.take (j + 1) = ys.take j ++ [y] := by rw [List.take_add_one, h]; rfl
 rw [e, List.find?_append]
 cases (ys.take j).find? p with
 | some n => rfl
 | none =>
   simp only [Option.none_or, List.find?_cons, List.find?_nil]
   cases p y <;> rfl

theorem m8 (zs ys : List Mv) (hz : smallM zs) (hy : smallM ys) : s8_F [[.l (dM zs)], [.l (dM ys)]] = some (thenA zs ys) := by
 unfold s8_F
 simp only [aC, aI, aB, aT, aL, aP, aF, aN, aZ, oC_cons, oZ_nil, oN_nil, oI_v, oB_v, oL_l, oP_p, oF_f, oR_of, joinO_eq, joinsO_eq, inrO_some, inlO_some, oK_true, if_true, condO_true, condO_false, cond_true, cond_false]
 have hz' := hz.big
 have hy' := hy.big
 unfold big at hz' hy'
 unfold smallM at hz hy
 refine loopO_inv (fun d => ∃ k l, k ≤ zs.length ∧ thenM (zs.take k) ys = some l ∧ d = [.l (l.map dMv), .v (.int .i64 ((k : Nat) : Int))]) (fun d => match d with | [_, .v (.int _ i)] => zs.length - i.toNat | _ => 0) ⟨0, [], Nat.zero_le _, by simp [thenM], rfl⟩ (by simp; omega) ?_
 rintro d ⟨k, l, hk, hl, rfl⟩
 by_cases hlt : k < zs.length
 ·have hm : zs[k]? = some zs[k] := List.getElem?_eq_getElem hlt
  have hll : l.length = k := by rw [thenM_len hl, List.length_take]; omega
  have hs := thenM_snoc hm hl
  simp only [aC, aI, aB, aT, aL, aP, aF, aN, aZ, oC_cons, oZ_nil, oN_nil, oI_v, oB_v, oL_l, oP_p, oF_f, oR_of, joinO_eq, joinsO_eq, inrO_some, inlO_some, oK_true, if_true, condO_true, condO_false, cond_true, cond_false, dM_len, Int.ofNat_lt, hlt, decide_true, oX_of (dM_get hm)]
  rw [loopO_run (X := match ys.find? fun n => n.1.1 == zs[k].1.2 with | none => some (.inr [[.l []], [.v (.int .i64 3)]]) | some n => some (.inl [.l (l.map dMv ++ [[.v (.int .u64 zs[k].1.1), .v (.int .u64 n.1.2)]]), .v (.int .i64 (wi ((k : Int) + 1)))])) (inn (l.map dMv) ys zs[k].1.1 zs[k].1.2) ys.length (by omega) (by simp [inn]) ?_ ?_]
  rotate_left
  ·intro j hj
   have hy1 : ys[j]? = some ys[j] := List.getElem?_eq_getElem hj
   have e := find_take (p := fun n => n.1.1 == zs[k].1.2) hy1
   unfold inn
   rw [e]
   cases hf : (ys.take j).find? fun n => n.1.1 == zs[k].1.2 with
   | some n =>
     simp only [aC, aI, aB, aT, aL, aP, aF, aN, aZ, oC_cons, oZ_nil, oN_nil, oI_v, oB_v, oL_l, oP_p, oF_f, oR_of, joinO_eq, joinsO_eq, inrO_some, inlO_some, oK_true, if_true, condO_true, condO_false, cond_true, cond_false, dM_len, Int.ofNat_lt, hj, decide_true, oX_of (dM_get hy1), Bool.not_true, Bool.false_and]
     rw [wi_id (by omega)]
     rfl
   | none =>
     simp only [aC, aI, aB, aT, aL, aP, aF, aN, aZ, oC_cons, oZ_nil, oN_nil, oI_v, oB_v, oL_l, oP_p, oF_f, oR_of, joinO_eq, joinsO_eq, inrO_some, inlO_some, oK_true, if_true, condO_true, condO_false, cond_true, cond_false, dM_len, Int.ofNat_lt, hj, decide_true, oX_of (dM_get hy1), Bool.not_false, Bool.true_and]
     cases hp : ys[j].1.1 == zs[k].1.2 with
     | true =>
       simp only [aC, aI, aB, aT, aL, aP, aF, aN, aZ, oC_cons, oZ_nil, oN_nil, oI_v, oB_v, oL_l, oP_p, oF_f, oR_of, joinO_eq, joinsO_eq, inrO_some, inlO_some, oK_true, if_true, condO_true, condO_false, cond_true, cond_false]
       rw [oA_of (by simp; omega) (by simp; omega), wi_id (by omega)]
       rfl
     | false =>
       simp only [aC, aI, aB, aT, aL, aP, aF, aN, aZ, oC_cons, oZ_nil, oN_nil, oI_v, oB_v, oL_l, oP_p, oF_f, oR_of, joinO_eq, joinsO_eq, inrO_some, inlO_some, oK_true, if_true, condO_true, condO_false, cond_true, cond_false]
       rw [wi_id (by omega)]
       rfl
  ·unfold inn
   rw [List.take_length]
   cases hf : ys.find? fun n => n.1.1 == zs[k].1.2 with
   | some n => simp only [aC, aI, aB, aT, aL, aP, aF, aN, aZ, oC_cons, oZ_nil, oN_nil, oI_v, oB_v, oL_l, oP_p, oF_f, oR_of, joinO_eq, joinsO_eq, inrO_some, inlO_some, oK_true, if_true, condO_true, condO_false, cond_true, cond_false, dM_len, Int.lt_irrefl, decide_false, Bool.not_true]
   | none => simp only [aC, aI, aB, aT, aL, aP, aF, aN, aZ, oC_cons, oZ_nil, oN_nil, oI_v, oB_v, oL_l, oP_p, oF_f, oR_of, joinO_eq, joinsO_eq, inrO_some, inlO_some, oK_true, if_true, condO_true, condO_false, cond_true, cond_false, dM_len, Int.lt_irrefl, decide_false, Bool.not_false]
  ·cases hf : ys.find? fun n => n.1.1 == zs[k].1.2 with
   | none =>
     rw [hf] at hs
     refine .inr ?_
     unfold thenA
     rw [thenM_none hs]
   | some n =>
     rw [hf] at hs
     refine .inl ⟨_, rfl, ⟨k + 1, _, hlt, hs, ?_⟩, ?_⟩
     ·rw [wi_id (by omega)]
      simp [dMv]
     ·simp only
      rw [wi_id (by omega)]
      simp; omega
 ·obtain rfl : k = zs.length := by omega
  rw [List.take_length] at hl
  refine .inr ?_
  simp only [aC, aI, aB, aT, aL, aP, aF, aN, aZ, oC_cons, oZ_nil, oN_nil, oI_v, oB_v, oL_l, oP_p, oF_f, oR_of, joinO_eq, joinsO_eq, inrO_some, inlO_some, oK_true, if_true, condO_true, condO_false, cond_true, cond_false, dM_len, Int.lt_irrefl, decide_false]
  unfold thenA
  rw [hl]

theorem law_tells (zs ys : List Mv) (id : Int) (hz : smallM zs) (hy : smallM ys) : s3_F [[.l (dM zs)], [.l (dM ys)], [.v (.int .u64 id)]] = some [[.v (.bool true)]] := by
 unfold s3_F
 have e9 : s9_F [] = some [[.v (.bool true)]] := rfl
 simp only [aC, aI, aB, aT, aL, aP, aF, aN, aZ, oC_cons, oZ_nil, oN_nil, oI_v, oB_v, oL_l, oP_p, oF_f, oR_of, joinO_eq, joinsO_eq, inrO_some, inlO_some, oK_true, if_true, condO_true, condO_false, cond_true, cond_false, m5 zs id hz.big, m6 zs id hz.big, m7 zs ys hz hy, m8 zs ys hz hy, e9]
 unfold thenA
 cases h : thenM zs ys with
 | none =>
   have e := m10 [] (by unfold big; decide)
   simp only [dM, List.map_nil] at e
   simp only [aC, aI, aB, aT, aL, aP, aF, aN, aZ, oC_cons, oZ_nil, oN_nil, oI_v, oB_v, oL_l, oP_p, oF_f, oR_of, joinO_eq, joinsO_eq, inrO_some, inlO_some, oK_true, if_true, condO_true, condO_false, cond_true, cond_false, e, beq_self_eq_true, Bool.and_self]
 | some l =>
   have hl := thenM_len h
   have e := m10 l (by have := hz.big; unfold big at this ⊢; omega)
   simp only [dM] at e
   simp only [aC, aI, aB, aT, aL, aP, aF, aN, aZ, oC_cons, oZ_nil, oN_nil, oI_v, oB_v, oL_l, oP_p, oF_f, oR_of, joinO_eq, joinsO_eq, inrO_some, inlO_some, oK_true, if_true, condO_true, condO_false, cond_true, cond_false, e, beq_self_eq_true, Bool.and_self]

theorem then_first {ys : List Mv} : ∀ {zs l : List Mv}, thenM zs ys = some l → l.map (fun m => m.1.1) = zs.map (fun m => m.1.1) ∧ ∀ (i : Nat) m, zs[i]? = some m → ∃ n, ys.find? (fun n => n.1.1 == m.1.2) = some n ∧ (l[i]?.getD mv0).1.2 = n.1.2
 | [], l, h => by
   obtain rfl := Option.some.inj h
   exact ⟨rfl, fun i m h => by simp at h⟩
 | m :: r, l, h => by
   simp only [thenM] at h
   split at h
   ·cases h
   ·rename_i n hn
    cases hr : thenM r ys with
    | none => rw [hr] at h; cases h
    | some l' =>
      rw [hr] at h
      obtain rfl := Option.some.inj h
      obtain ⟨h1, h2⟩ := then_first hr
      refine ⟨by simp [h1], fun i x hx => ?_⟩
      cases i with
      | zero =>
        obtain rfl := Option.some.inj hx
        exact ⟨n, hn, rfl⟩
      | succ i => exact h2 i x hx
theorem find_idx {α : Type} (p : α → Bool) : ∀ l : List α, l.find? p = (l.findIdx? p).bind fun i => l[i]?
 | [] => rfl
 | x :: l => by
   rw [List.find?_cons, List.findIdx?_cons]
   cases p x with
   | true => rfl
   | false =>
     simp only [find_idx p l]
     cases l.findIdx? p <;> simp

theorem law_then (zs ys : List Mv) (id : Int) (hz : smallM zs) (hy : smallM ys) : s4_F [[.l (dM zs)], [.l (dM ys)], [.v (.int .u64 id)]] = some [[.v (.bool true)]] := by
 unfold s4_F
 have e9 : s9_F [] = some [[.v (.bool true)]] := rfl
 simp only [aC, aI, aB, aT, aL, aP, aF, aN, aZ, oC_cons, oZ_nil, oN_nil, oI_v, oB_v, oL_l, oP_p, oF_f, oR_of, joinO_eq, joinsO_eq, inrO_some, inlO_some, oK_true, if_true, condO_true, condO_false, cond_true, cond_false, m7 zs ys hz hy, e9, Bool.not_true]
 unfold thenA
 cases h : thenM zs ys with
 | none =>
   simp only [aC, aI, aB, aT, aL, aP, aF, aN, aZ, oC_cons, oZ_nil, oN_nil, oI_v, oB_v, oL_l, oP_p, oF_f, oR_of, joinO_eq, joinsO_eq, inrO_some, inlO_some, oK_true, if_true, condO_true, condO_false, cond_true, cond_false, show ((3 : Int) != 0) = true from rfl, List.length_nil]
   rfl
 | some l =>
   have hl := thenM_len h
   have hlb : big l := by have := hz.big; unfold big at this ⊢; omega
   obtain ⟨f1, f2⟩ := then_first h
   have el := m5 l id hlb
   simp only [dM] at el
   have e0 : ((0 : Int) != 0) = false := rfl
   simp only [aC, aI, aB, aT, aL, aP, aF, aN, aZ, oC_cons, oZ_nil, oN_nil, oI_v, oB_v, oL_l, oP_p, oF_f, oR_of, joinO_eq, joinsO_eq, inrO_some, inlO_some, oK_true, if_true, condO_true, condO_false, cond_true, cond_false, e0, m5 zs id hz.big, el, m5 ys (whereM zs id).1 hy.big]
   -- where the id stands
   have hidx : l.findIdx? (fun m => m.1.1 == id) = zs.findIdx? (fun m => m.1.1 == id) := by
    have a1 : ∀ q : List Mv, q.findIdx? (fun m => m.1.1 == id) = (q.map fun m => m.1.1).findIdx? (· == id) := fun q => by rw [List.findIdx?_map]; rfl
    rw [a1, a1, f1]
   by_cases h0 : id = 0
   ·subst h0
    simp only [whereM, if_true, show ((7 : Int) != 0) = true from rfl, cond_true]
    rfl
   ·simp only [whereM, if_neg h0, hidx]
    cases hf : zs.findIdx? (fun m => m.1.1 == id) with
    | none =>
      simp only [show ((3 : Int) != 0) = true from rfl, cond_true]
      rfl
    | some i =>
      obtain ⟨hi, _⟩ := List.findIdx?_eq_some_iff_getElem.1 hf
      have hm : zs[i]? = some zs[i] := List.getElem?_eq_getElem hi
      obtain ⟨n, k1, k2⟩ := f2 i _ hm
      have hlen : (l.map dMv).length = (dM zs).length := by rw [List.length_map, dM_len, hl]
      simp only [hm, Option.getD_some, k2, e0, cond_false, hlen, beq_self_eq_true, Bool.true_and]
      by_cases hz0 : zs[i].1.2 = 0
      ·rw [hz0]; rfl
      ·rw [find_idx] at k1
       simp only [if_neg hz0]
       cases hg : ys.findIdx? (fun n => n.1.1 == zs[i].1.2) with
       | none => rw [hg] at k1; cases k1
       | some j =>
         rw [hg] at k1
         simp only [Option.bind_some] at k1
         simp only [k1, Option.getD_some, beq_self_eq_true, Bool.and_self, Bool.or_true]
end Go.Proofs.YtenogjddakjhcaaGreatDoor
