/- Laws of the models (workbench words: the trees' encoders; two equal things are the same). -/
import Derived.Test.YtpdphbialepgkaaGreatDoorZ3
namespace Go.Proofs.YtpdphbialepgkaaGreatDoor
open Go Go.Cw Go.Dw
set_option linter.unusedVariables false
set_option linter.unusedSimpArgs false
set_option maxRecDepth 100000

def uE (l : List Int) : List (List D) := l.map fun x => [.v (.int .u64 x)]
@[simp] theorem uE_len (l : List Int) : (uE l).length = l.length := List.length_map ..
theorem uE_get {l : List Int} {i : Nat} {x : Int} (h : l[i]? = some x) : (uE l)[i]? = some [.v (.int .u64 x)] := by
 unfold uE; rw [List.getElem?_map, h]; rfl
theorem wi_id {x : Int} (h : -9223372036854775808 ≤ x ∧ x < 9223372036854775808) : wi x = x := wrap_i64_of h.1 h.2
theorem wu_id {x : Int} (h : 0 ≤ x ∧ x < 18446744073709551616) : wu x = x := by
 have e : wu x = x % 18446744073709551616 := by
  show IntKind.wrap .u64 x = _
  simp [IntKind.wrap, IntKind.bits, IntKind.signed]
 rw [e]; omega

theorem loop_for {ρ : Type} {X : Option ρ} {step : List D → Option (List D ⊕ ρ)} (n : Nat) (hn : n < 9223372036854775808) (hs : ∀ i : Nat, i < n → step [.v (.int .i64 i)] = some (.inl [.v (.int .i64 (wi ((i : Int) + 1)))])) (he : step [.v (.int .i64 (n : Int))] = inrO X) : loopO [.v (.int .i64 0)] step = X :=
 loopO_run (fun i => [.v (.int .i64 (i : Int))]) n (by omega) rfl (fun i hi => by rw [hs i hi, wi_id (by omega)]; rfl) he

theorem eq_u (l : List Int) (hl : l.length < 9223372036854775808) : s143_F [[.l (uE l)], [.l (uE l)]] = some [[.v (.bool true)]] := by
 unfold s143_F
 simp only [aC, aI, aB, aT, aL, aP, aF, aN, aZ, oC_cons, oZ_nil, oN_nil, oI_v, oB_v, oL_l, oP_p, oF_f, oR_of, joinO_eq, joinsO_eq, inrO_some, inlO_some, oK_true, if_true, condO_true, condO_false, cond_true, cond_false, bne_self_eq_false]
 refine loop_for l.length hl (fun i hi => ?_) ?_
 ·obtain ⟨x, hx⟩ : ∃ x, l[i]? = some x := ⟨_, List.getElem?_eq_getElem hi⟩
  simp only [aC, aI, aB, aT, aL, aP, aF, aN, aZ, oC_cons, oZ_nil, oN_nil, oI_v, oB_v, oL_l, oP_p, oF_f, oR_of, joinO_eq, joinsO_eq, inrO_some, inlO_some, oK_true, if_true, condO_true, condO_false, cond_true, cond_false, oX_of (uE_get hx), uE_len, bne_self_eq_false, Int.ofNat_lt, hi, decide_true]
 ·simp only [aC, aI, aB, aT, aL, aP, aF, aN, aZ, oC_cons, oZ_nil, oN_nil, oI_v, oB_v, oL_l, oP_p, oF_f, oR_of, joinO_eq, joinsO_eq, inrO_some, inlO_some, oK_true, if_true, condO_true, condO_false, cond_true, cond_false, uE_len, Int.lt_irrefl, decide_false]
theorem eq_09 (l : List Int) (hl : l.length < 9223372036854775808) : s21_F [[.l (uE l)], [.l (uE l)]] = some [[.v (.bool true)]] := by
 unfold s21_F
 simp only [aC, aI, aB, aT, aL, aP, aF, aN, aZ, oC_cons, oZ_nil, oN_nil, oI_v, oB_v, oL_l, oP_p, oF_f, oR_of, joinO_eq, joinsO_eq, inrO_some, inlO_some, oK_true, if_true, condO_true, condO_false, cond_true, cond_false, bne_self_eq_false]
 refine loop_for l.length hl (fun i hi => ?_) ?_
 ·obtain ⟨x, hx⟩ : ∃ x, l[i]? = some x := ⟨_, List.getElem?_eq_getElem hi⟩
  simp only [aC, aI, aB, aT, aL, aP, aF, aN, aZ, oC_cons, oZ_nil, oN_nil, oI_v, oB_v, oL_l, oP_p, oF_f, oR_of, joinO_eq, joinsO_eq, inrO_some, inlO_some, oK_true, if_true, condO_true, condO_false, cond_true, cond_false, oX_of (uE_get hx), uE_len, bne_self_eq_false, Int.ofNat_lt, hi, decide_true]
 ·simp only [aC, aI, aB, aT, aL, aP, aF, aN, aZ, oC_cons, oZ_nil, oN_nil, oI_v, oB_v, oL_l, oP_p, oF_f, oR_of, joinO_eq, joinsO_eq, inrO_some, inlO_some, oK_true, if_true, condO_true, condO_false, cond_true, cond_false, uE_len, Int.lt_irrefl, decide_false]
theorem eq_sl (l : List Int) (hl : l.length < 9223372036854775808) : s222_F [[.l (uE l)], [.l (uE l)]] = some [[.v (.bool true)]] := by
 unfold s222_F
 simp only [aC, aI, aB, aT, aL, aP, aF, aN, aZ, oC_cons, oZ_nil, oN_nil, oI_v, oB_v, oL_l, oP_p, oF_f, oR_of, joinO_eq, joinsO_eq, inrO_some, inlO_some, oK_true, if_true, condO_true, condO_false, cond_true, cond_false, bne_self_eq_false]
 refine loop_for l.length hl (fun i hi => ?_) ?_
 ·obtain ⟨x, hx⟩ : ∃ x, l[i]? = some x := ⟨_, List.getElem?_eq_getElem hi⟩
  simp only [aC, aI, aB, aT, aL, aP, aF, aN, aZ, oC_cons, oZ_nil, oN_nil, oI_v, oB_v, oL_l, oP_p, oF_f, oR_of, joinO_eq, joinsO_eq, inrO_some, inlO_some, oK_true, if_true, condO_true, condO_false, cond_true, cond_false, oX_of (uE_get hx), uE_len, bne_self_eq_false, Int.ofNat_lt, hi, decide_true]
 ·simp only [aC, aI, aB, aT, aL, aP, aF, aN, aZ, oC_cons, oZ_nil, oN_nil, oI_v, oB_v, oL_l, oP_p, oF_f, oR_of, joinO_eq, joinsO_eq, inrO_some, inlO_some, oK_true, if_true, condO_true, condO_false, cond_true, cond_false, uE_len, Int.lt_irrefl, decide_false]
theorem eq_01 (n : Int) (l : List Int) (hl : l.length < 9223372036854775808) : s218_F [[.v (.int .i64 n), .l (uE l)], [.v (.int .i64 n), .l (uE l)]] = some [[.v (.bool true)]] := by
 unfold s218_F
 simp only [aC, aI, aB, aT, aL, aP, aF, aN, aZ, oC_cons, oZ_nil, oN_nil, oI_v, oB_v, oL_l, oP_p, oF_f, oR_of, joinO_eq, joinsO_eq, inrO_some, inlO_some, oK_true, if_true, condO_true, condO_false, cond_true, cond_false, bne_self_eq_false, Bool.or_self]
 refine loop_for l.length hl (fun i hi => ?_) ?_
 ·obtain ⟨x, hx⟩ : ∃ x, l[i]? = some x := ⟨_, List.getElem?_eq_getElem hi⟩
  simp only [aC, aI, aB, aT, aL, aP, aF, aN, aZ, oC_cons, oZ_nil, oN_nil, oI_v, oB_v, oL_l, oP_p, oF_f, oR_of, joinO_eq, joinsO_eq, inrO_some, inlO_some, oK_true, if_true, condO_true, condO_false, cond_true, cond_false, oX_of (uE_get hx), uE_len, bne_self_eq_false, Int.ofNat_lt, hi, decide_true]
 ·simp only [aC, aI, aB, aT, aL, aP, aF, aN, aZ, oC_cons, oZ_nil, oN_nil, oI_v, oB_v, oL_l, oP_p, oF_f, oR_of, joinO_eq, joinsO_eq, inrO_some, inlO_some, oK_true, if_true, condO_true, condO_false, cond_true, cond_false, uE_len, Int.lt_irrefl, decide_false]
theorem eq_03 (n : Int) (l : List Int) (hl : l.length < 9223372036854775808) : s144_F [[.v (.int .i64 n), .l (uE l)], [.v (.int .i64 n), .l (uE l)]] = some [[.v (.bool true)]] := by
 unfold s144_F
 simp only [aC, aI, aB, aT, aL, aP, aF, aN, aZ, oC_cons, oZ_nil, oN_nil, oI_v, oB_v, oL_l, oP_p, oF_f, oR_of, joinO_eq, joinsO_eq, inrO_some, inlO_some, oK_true, if_true, condO_true, condO_false, cond_true, cond_false, eq_01 n l hl]
theorem eq_05 : s145_F [[.l []], [.l []]] = some [[.v (.bool true)]] := by
 unfold s145_F
 simp only [aC, aI, aB, aT, aL, aP, aF, aN, aZ, oC_cons, oZ_nil, oN_nil, oI_v, oB_v, oL_l, oP_p, oF_f, oR_of, joinO_eq, joinsO_eq, inrO_some, inlO_some, oK_true, if_true, condO_true, condO_false, cond_true, cond_false, bne_self_eq_false]
 exact loop_for 0 (by decide) (fun i hi => absurd hi (Nat.not_lt_zero _)) (by simp only [aC, aI, aB, aT, aL, aP, aF, aN, aZ, oC_cons, oZ_nil, oN_nil, oI_v, oB_v, oL_l, oP_p, oF_f, oR_of, joinO_eq, joinsO_eq, inrO_some, inlO_some, oK_true, if_true, condO_true, condO_false, cond_true, cond_false, List.length_nil, Int.lt_irrefl, decide_false])
theorem eq_10 : s19_F [[.l []], [.l []]] = some [[.v (.bool true)]] := by
 unfold s19_F
 simp only [aC, aI, aB, aT, aL, aP, aF, aN, aZ, oC_cons, oZ_nil, oN_nil, oI_v, oB_v, oL_l, oP_p, oF_f, oR_of, joinO_eq, joinsO_eq, inrO_some, inlO_some, oK_true, if_true, condO_true, condO_false, cond_true, cond_false, bne_self_eq_false]
 exact loop_for 0 (by decide) (fun i hi => absurd hi (Nat.not_lt_zero _)) (by simp only [aC, aI, aB, aT, aL, aP, aF, aN, aZ, oC_cons, oZ_nil, oN_nil, oI_v, oB_v, oL_l, oP_p, oF_f, oR_of, joinO_eq, joinsO_eq, inrO_some, inlO_some, oK_true, if_true, condO_true, condO_false, cond_true, cond_false, List.length_nil, Int.lt_irrefl, decide_false])
theorem eq_08 : s20_F [[.l []], [.l []]] = some [[.v (.bool true)]] := by
 unfold s20_F
 simp only [aC, aI, aB, aT, aL, aP, aF, aN, aZ, oC_cons, oZ_nil, oN_nil, oI_v, oB_v, oL_l, oP_p, oF_f, oR_of, joinO_eq, joinsO_eq, inrO_some, inlO_some, oK_true, if_true, condO_true, condO_false, cond_true, cond_false, bne_self_eq_false]
 exact loop_for 0 (by decide) (fun i hi => absurd hi (Nat.not_lt_zero _)) (by simp only [aC, aI, aB, aT, aL, aP, aF, aN, aZ, oC_cons, oZ_nil, oN_nil, oI_v, oB_v, oL_l, oP_p, oF_f, oR_of, joinO_eq, joinsO_eq, inrO_some, inlO_some, oK_true, if_true, condO_true, condO_false, cond_true, cond_false, List.length_nil, Int.lt_irrefl, decide_false])
theorem eq_12 (k : Nat) (hk : k < 9223372036854775808) : s62_F [[.l (List.replicate k [.l []])], [.l (List.replicate k [.l []])]] = some [[.v (.bool true)]] := by
 unfold s62_F
 simp only [aC, aI, aB, aT, aL, aP, aF, aN, aZ, oC_cons, oZ_nil, oN_nil, oI_v, oB_v, oL_l, oP_p, oF_f, oR_of, joinO_eq, joinsO_eq, inrO_some, inlO_some, oK_true, if_true, condO_true, condO_false, cond_true, cond_false, bne_self_eq_false]
 have e := eq_09 [] (by decide)
 simp only [uE, List.map_nil] at e
 refine loop_for k hk (fun i hi => ?_) ?_
 ·have hx : (List.replicate k [D.l []])[i]? = some [.l []] := by rw [List.getElem?_replicate, if_pos hi]
  simp only [aC, aI, aB, aT, aL, aP, aF, aN, aZ, oC_cons, oZ_nil, oN_nil, oI_v, oB_v, oL_l, oP_p, oF_f, oR_of, joinO_eq, joinsO_eq, inrO_some, inlO_some, oK_true, if_true, condO_true, condO_false, cond_true, cond_false, oX_of hx, List.length_replicate, Int.ofNat_lt, hi, decide_true, e, Bool.not_true]
 ·simp only [aC, aI, aB, aT, aL, aP, aF, aN, aZ, oC_cons, oZ_nil, oN_nil, oI_v, oB_v, oL_l, oP_p, oF_f, oR_of, joinO_eq, joinsO_eq, inrO_some, inlO_some, oK_true, if_true, condO_true, condO_false, cond_true, cond_false, List.length_replicate, Int.lt_irrefl, decide_false]
theorem eq_07 (l : List Int) (hl : l.length < 9223372036854775808) (n : Int) (u : List Int) (hu : u.length < 9223372036854775808) : s61_F [[.l (uE l), .v (.int .i64 n), .l (uE u), .l []], [.l (uE l), .v (.int .i64 n), .l (uE u), .l []]] = some [[.v (.bool true)]] := by
 unfold s61_F
 simp only [aC, aI, aB, aT, aL, aP, aF, aN, aZ, oC_cons, oZ_nil, oN_nil, oI_v, oB_v, oL_l, oP_p, oF_f, oR_of, joinO_eq, joinsO_eq, inrO_some, inlO_some, oK_true, if_true, condO_true, condO_false, cond_true, cond_false, eq_u l hl, eq_03 n u hu, eq_05, Bool.and_self]
theorem eq_13 (b : Bool) (l : List Int) (hl : l.length < 9223372036854775808) (n : Int) (u : List Int) (hu : u.length < 9223372036854775808) (k m : Nat) (hk : k < 9223372036854775808) (hm : m < 9223372036854775808) :
 s18_F [[.v (.bool b), .l (uE l), .v (.int .i64 n), .l (uE u), .l [], .l (List.replicate k [.l []]), .l (List.replicate m [.v (.int .u64 0), .v (.int .i64 0)])], [.v (.bool b), .l (uE l), .v (.int .i64 n), .l (uE u), .l [], .l (List.replicate k [.l []]), .l (List.replicate m [.v (.int .u64 0), .v (.int .i64 0)])]] = some [[.v (.bool true)]] := by
 unfold s18_F
 simp only [aC, aI, aB, aT, aL, aP, aF, aN, aZ, oC_cons, oZ_nil, oN_nil, oI_v, oB_v, oL_l, oP_p, oF_f, oR_of, joinO_eq, joinsO_eq, inrO_some, inlO_some, oK_true, if_true, condO_true, condO_false, cond_true, cond_false, bne_self_eq_false, Bool.or_self, Bool.not_false, eq_07 l hl n u hu, eq_12 k hk, Bool.not_true]
 refine loop_for m hm (fun i hi => ?_) ?_
 ·have hx : (List.replicate m [D.v (.int .u64 0), .v (.int .i64 0)])[i]? = some [.v (.int .u64 0), .v (.int .i64 0)] := by rw [List.getElem?_replicate, if_pos hi]
  simp only [aC, aI, aB, aT, aL, aP, aF, aN, aZ, oC_cons, oZ_nil, oN_nil, oI_v, oB_v, oL_l, oP_p, oF_f, oR_of, joinO_eq, joinsO_eq, inrO_some, inlO_some, oK_true, if_true, condO_true, condO_false, cond_true, cond_false, oX_of hx, List.length_replicate, Int.ofNat_lt, hi, decide_true, beq_self_eq_true, Bool.and_self, Bool.not_true]
 ·simp only [aC, aI, aB, aT, aL, aP, aF, aN, aZ, oC_cons, oZ_nil, oN_nil, oI_v, oB_v, oL_l, oP_p, oF_f, oR_of, joinO_eq, joinsO_eq, inrO_some, inlO_some, oK_true, if_true, condO_true, condO_false, cond_true, cond_false, List.length_replicate, Int.lt_irrefl, decide_false]
theorem eq_15 (c : Int) (b : Bool) (l : List Int) (hl : l.length < 9223372036854775808) (n : Int) (u : List Int) (hu : u.length < 9223372036854775808) (k m : Nat) (hk : k < 9223372036854775808) (hm : m < 9223372036854775808) :
 s7_F [[.v (.int .u8 c), .v (.bool b), .l (uE l), .v (.int .i64 n), .l (uE u), .l [], .l (List.replicate k [.l []]), .l (List.replicate m [.v (.int .u64 0), .v (.int .i64 0)]), .l [], .l [], .l [], .l []], [.v (.int .u8 c), .v (.bool b), .l (uE l), .v (.int .i64 n), .l (uE u), .l [], .l (List.replicate k [.l []]), .l (List.replicate m [.v (.int .u64 0), .v (.int .i64 0)]), .l [], .l [], .l [], .l []]] = some [[.v (.bool true)]] := by
 have e := eq_09 [] (by decide)
 simp only [uE, List.map_nil] at e
 unfold s7_F
 simp only [aC, aI, aB, aT, aL, aP, aF, aN, aZ, oC_cons, oZ_nil, oN_nil, oI_v, oB_v, oL_l, oP_p, oF_f, oR_of, joinO_eq, joinsO_eq, inrO_some, inlO_some, oK_true, if_true, condO_true, condO_false, cond_true, cond_false, bne_self_eq_false, Bool.or_self, Bool.not_false, eq_13 b l hl n u hu k m hk hm, eq_10, eq_08, e, Bool.not_true]
 exact loop_for 0 (by decide) (fun i hi => absurd hi (Nat.not_lt_zero _)) (by simp only [aC, aI, aB, aT, aL, aP, aF, aN, aZ, oC_cons, oZ_nil, oN_nil, oI_v, oB_v, oL_l, oP_p, oF_f, oR_of, joinO_eq, joinsO_eq, inrO_some, inlO_some, oK_true, if_true, condO_true, condO_false, cond_true, cond_false, List.length_nil, Int.lt_irrefl, decide_false])
end Go.Proofs.YtpdphbialepgkaaGreatDoor
