/- Laws of the models: where moves lead. -/
import Derived.Test.YtenogjddakjhcaaGreatDoorZl
namespace Go.Proofs.YtenogjddakjhcaaGreatDoor
open Go Go.Cw Go.Dw Go.Proofs
set_option linter.unusedVariables false
set_option linter.unusedSimpArgs false
set_option maxRecDepth 100000

theorem wi_id {x : Int} (h : -9223372036854775808 ≤ x ∧ x < 9223372036854775808) : wi x = x := wrap_i64_of h.1 h.2
theorem bne_self (a : Int) : (a != a) = false := bne_self_eq_false a
abbrev dM (zs : List Mv) : List (List D) := zs.map dMv
abbrev big (zs : List Mv) : Prop := zs.length < 9223372036854775807

theorem loop_find {ρ : Type} {step : List D → Option (List D ⊕ ρ)} (zs : List Mv) (p : Mv → Bool) (R : Nat → Mv → Option ρ) (E : Option ρ) (hn : big zs)
 (hs : ∀ (i : Nat) m, zs[i]? = some m → step [.v (.int .i64 i)] = cond (p m) (inrO (R i m)) (some (.inl [.v (.int .i64 (wi ((i : Int) + 1)))]))) (he : step [.v (.int .i64 (zs.length : Int))] = inrO E) :
 loopO [.v (.int .i64 0)] step = match zs.findIdx? p with | some i => R i (zs[i]?.getD mv0) | none => E := by
 refine loopO_inv (fun d => ∃ i : Nat, i ≤ zs.length ∧ d = [.v (.int .i64 i)] ∧ ∀ j m, j < i → zs[j]? = some m → p m = false) (fun d => match d with | [.v (.int _ i)] => zs.length - i.toNat | _ => 0) ⟨0, Nat.zero_le _, rfl, fun j m h => by omega⟩ (by simp; unfold big at hn; omega) ?_
 rintro d ⟨i, hi, rfl, hp⟩
 by_cases hlt : i < zs.length
 ·have hm : zs[i]? = some zs[i] := List.getElem?_eq_getElem hlt
  rw [hs i _ hm]
  cases hpi : p zs[i] with
  | true =>
    refine .inr ?_
    have e : zs.findIdx? p = some i := List.findIdx?_eq_some_iff_getElem.2 ⟨hlt, hpi, fun j hj => by
     have := hp j _ hj (List.getElem?_eq_getElem (by omega))
     simp [this]⟩
    rw [e]
    simp only [hm, Option.getD_some]
    rfl
  | false =>
    refine .inl ⟨_, rfl, ⟨i + 1, hlt, by rw [wi_id (by unfold big at hn; omega)]; rfl, fun j m hj hjm => ?_⟩, ?_⟩
    ·rcases Nat.lt_succ_iff_lt_or_eq.1 hj with hh | hh
     ·exact hp j m hh hjm
     ·subst hh
      obtain rfl := Option.some.inj (hm.symm.trans hjm)
      exact hpi
    ·simp only
     rw [wi_id (by unfold big at hn; omega)]
     simp; omega
 ·obtain rfl : i = zs.length := by omega
  rw [he]
  refine .inr ?_
  have e : zs.findIdx? p = none := List.findIdx?_eq_none_iff.2 fun x hx => by
   obtain ⟨j, hj, rfl⟩ := List.getElem_of_mem hx
   exact hp j _ hj (List.getElem?_eq_getElem hj)
  rw [e]

theorem dM_len (zs : List Mv) : (dM zs).length = zs.length := List.length_map ..
theorem dM_get {zs : List Mv} {i : Nat} {m : Mv} (h : zs[i]? = some m) : (dM zs)[i]? = some [.v (.int .u64 m.1.1), .v (.int .u64 m.1.2)] := by
 unfold dM; rw [List.getElem?_map, h]; rfl
theorem lt_of {zs : List Mv} {i : Nat} {m : Mv} (h : zs[i]? = some m) : i < zs.length := (List.getElem?_eq_some_iff.1 h).1

def idxM (zs : List Mv) (id : Int) : Int := match zs.findIdx? (fun m => m.1.1 == id) with | some i => (i : Int) | none => -1
def whereM (zs : List Mv) (id : Int) : Int × Int := if id = 0 then (0, 7) else match zs.findIdx? (fun m => m.1.1 == id) with | some i => ((zs[i]?.getD mv0).1.2, 0) | none => (0, 3)

theorem m6 (zs : List Mv) (id : Int) (hn : big zs) : s6_F [[.l (dM zs)], [.v (.int .u64 id)]] = some [[.v (.int .u64 (whereM zs id).1)], [.v (.int .i64 (whereM zs id).2)]] := by
 unfold s6_F whereM
 by_cases h0 : id = 0
 ·subst h0
  simp only [aC, aI, aB, aT, aL, aP, aF, aN, aZ, oC_cons, oZ_nil, oN_nil, oI_v, oB_v, oL_l, oP_p, oF_f, oR_of, joinO_eq, joinsO_eq, inrO_some, inlO_some, oK_true, if_true, condO_true, condO_false, cond_true, cond_false, beq_self_eq_true]
 ·have hb : (id == 0) = false := by simpa using h0
  simp only [aC, aI, aB, aT, aL, aP, aF, aN, aZ, oC_cons, oZ_nil, oN_nil, oI_v, oB_v, oL_l, oP_p, oF_f, oR_of, joinO_eq, joinsO_eq, inrO_some, inlO_some, oK_true, if_true, condO_true, condO_false, cond_true, cond_false, hb, if_neg h0]
  rw [loop_find zs (fun m => m.1.1 == id) (fun i m => some [[.v (.int .u64 m.1.2)], [.v (.int .i64 0)]]) (some [[.v (.int .u64 0)], [.v (.int .i64 3)]]) hn]
  ·cases zs.findIdx? (fun m => m.1.1 == id) <;> rfl
  ·intro i m hm
   simp only [aC, aI, aB, aT, aL, aP, aF, aN, aZ, oC_cons, oZ_nil, oN_nil, oI_v, oB_v, oL_l, oP_p, oF_f, oR_of, joinO_eq, joinsO_eq, inrO_some, inlO_some, oK_true, if_true, condO_true, condO_false, cond_true, cond_false, oX_of (dM_get hm), dM_len, Int.ofNat_lt, lt_of hm, decide_true]
  ·simp only [aC, aI, aB, aT, aL, aP, aF, aN, aZ, oC_cons, oZ_nil, oN_nil, oI_v, oB_v, oL_l, oP_p, oF_f, oR_of, joinO_eq, joinsO_eq, inrO_some, inlO_some, oK_true, if_true, condO_true, condO_false, cond_true, cond_false, dM_len, Int.lt_irrefl, decide_false]

theorem m12 (a b c : Int) : s12_F [[.v (.int .u64 a), .v (.int .u64 b)], [.p [.v (.int .u64 c)]]] = some [[.v (.bool (a == c))]] := by
 unfold s12_F
 simp only [aC, aI, aB, aT, aL, aP, aF, aN, aZ, oC_cons, oZ_nil, oN_nil, oI_v, oB_v, oL_l, oP_p, oF_f, oR_of, joinO_eq, joinsO_eq, inrO_some, inlO_some, oK_true, if_true, condO_true, condO_false, cond_true, cond_false]
theorem m11 (zs : List Mv) (id : Int) (hn : big zs) : s11_F [[.l (dM zs)], [.f [.p [.v (.int .u64 id)]]]] = some [[.v (.int .i64 (idxM zs id))]] := by
 unfold s11_F idxM
 simp only [aC, aI, aB, aT, aL, aP, aF, aN, aZ, oC_cons, oZ_nil, oN_nil, oI_v, oB_v, oL_l, oP_p, oF_f, oR_of, joinO_eq, joinsO_eq, inrO_some, inlO_some, oK_true, if_true, condO_true, condO_false, cond_true, cond_false]
 rw [loop_find zs (fun m => m.1.1 == id) (fun i m => some [[.v (.int .i64 i)]]) (some [[.v (.int .i64 (-1))]]) hn]
 ·cases zs.findIdx? (fun m => m.1.1 == id) <;> rfl
 ·intro i m hm
  simp only [aC, aI, aB, aT, aL, aP, aF, aN, aZ, oC_cons, oZ_nil, oN_nil, oI_v, oB_v, oL_l, oP_p, oF_f, oR_of, joinO_eq, joinsO_eq, inrO_some, inlO_some, oK_true, if_true, condO_true, condO_false, cond_true, cond_false, oX_of (dM_get hm), dM_len, Int.ofNat_lt, lt_of hm, decide_true, m12]
 ·simp only [aC, aI, aB, aT, aL, aP, aF, aN, aZ, oC_cons, oZ_nil, oN_nil, oI_v, oB_v, oL_l, oP_p, oF_f, oR_of, joinO_eq, joinsO_eq, inrO_some, inlO_some, oK_true, if_true, condO_true, condO_false, cond_true, cond_false, dM_len, Int.lt_irrefl, decide_false]
theorem m5 (zs : List Mv) (id : Int) (hn : big zs) : s5_F [[.l (dM zs)], [.v (.int .u64 id)]] = some [[.v (.int .u64 (whereM zs id).1)], [.v (.int .i64 (whereM zs id).2)]] := by
 unfold s5_F whereM
 by_cases h0 : id = 0
 ·subst h0
  simp only [aC, aI, aB, aT, aL, aP, aF, aN, aZ, oC_cons, oZ_nil, oN_nil, oI_v, oB_v, oL_l, oP_p, oF_f, oR_of, joinO_eq, joinsO_eq, inrO_some, inlO_some, oK_true, if_true, condO_true, condO_false, cond_true, cond_false, beq_self_eq_true]
 ·have hb : (id == 0) = false := by simpa using h0
  simp only [aC, aI, aB, aT, aL, aP, aF, aN, aZ, oC_cons, oZ_nil, oN_nil, oI_v, oB_v, oL_l, oP_p, oF_f, oR_of, joinO_eq, joinsO_eq, inrO_some, inlO_some, oK_true, if_true, condO_true, condO_false, cond_true, cond_false, hb, if_neg h0, m11 zs id hn, idxM]
  cases hf : zs.findIdx? (fun m => m.1.1 == id) with
  | none => simp
  | some i =>
    obtain ⟨hi, _⟩ := List.findIdx?_eq_some_iff_getElem.1 hf
    have hm : zs[i]? = some zs[i] := List.getElem?_eq_getElem hi
    have hlt : decide (((i : Nat) : Int) < 0) = false := decide_eq_false (by omega)
    simp only [aC, aI, aB, aT, aL, aP, aF, aN, aZ, oC_cons, oZ_nil, oN_nil, oI_v, oB_v, oL_l, oP_p, oF_f, oR_of, joinO_eq, joinsO_eq, inrO_some, inlO_some, oK_true, if_true, condO_true, condO_false, cond_true, cond_false, hlt, oX_of (dM_get hm), hm, Option.getD_some]

theorem m10 (zs : List Mv) (hn : big zs) : s10_F [[.l (dM zs)], [.l (dM zs)]] = some [[.v (.bool true)]] := by
 unfold s10_F
 simp only [aC, aI, aB, aT, aL, aP, aF, aN, aZ, oC_cons, oZ_nil, oN_nil, oI_v, oB_v, oL_l, oP_p, oF_f, oR_of, joinO_eq, joinsO_eq, inrO_some, inlO_some, oK_true, if_true, condO_true, condO_false, cond_true, cond_false, bne_self]
 rw [loop_find zs (fun _ => false) (fun _ _ => none) (some [[.v (.bool true)]]) hn]
 ·have e : zs.findIdx? (fun _ => false) = none := List.findIdx?_eq_none_iff.2 fun _ _ => rfl
  rw [e]
 ·intro i m hm
  simp only [aC, aI, aB, aT, aL, aP, aF, aN, aZ, oC_cons, oZ_nil, oN_nil, oI_v, oB_v, oL_l, oP_p, oF_f, oR_of, joinO_eq, joinsO_eq, inrO_some, inlO_some, oK_true, if_true, condO_true, condO_false, cond_true, cond_false, oX_of (dM_get hm), dM_len, Int.ofNat_lt, lt_of hm, decide_true, beq_self_eq_true, Bool.and_self, Bool.not_true]
 ·simp only [aC, aI, aB, aT, aL, aP, aF, aN, aZ, oC_cons, oZ_nil, oN_nil, oI_v, oB_v, oL_l, oP_p, oF_f, oR_of, joinO_eq, joinsO_eq, inrO_some, inlO_some, oK_true, if_true, condO_true, condO_false, cond_true, cond_false, dM_len, Int.lt_irrefl, decide_false]
end Go.Proofs.YtenogjddakjhcaaGreatDoor
