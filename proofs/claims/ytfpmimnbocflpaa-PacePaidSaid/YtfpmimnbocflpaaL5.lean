/- Laws: who pays what it owes each time has paid for the room. -/
import Derived.Test.YtfpmimnbocflpaaL3
namespace Go.Proofs.Ytfpmimnbocflpaa
open Go Go.Cw
set_option linter.unusedVariables false

/-- What holds between the rounds. -/
structure Paid (q : Pc) : Prop where
  typed : q.Typed
  right : q.Right
  on : q.on = true
  three : q.debts.length = 3
  none : ∀ d ∈ q.debts, d = 0
  paid : q.done = 1099511627776 ∨ (q.credit ≤ q.done ∧ q.made * q.est ≤ (q.done - q.credit) * q.room)

theorem work_on {p : Pc} (hr : p.Right) (hon : p.on = true) {who x : Int} (hw : -1 ≤ who ∧ who < (p.debts.length : Int)) (hx : x ≤ 1099511627776) : p.work who [x] = (p.work1 who x, 0) := by
  unfold Pc.work
  rw [if_pos hr, if_neg (by omega), if_neg (by rw [hon]; decide), if_neg]
  · rfl
  · rintro ⟨n, hn, h⟩
    rw [List.mem_singleton] at hn
    omega

theorem owe_bounds {p : Pc} (hp : p.Typed) (hr : p.Right) (hon : p.on = true) {x : Int} (hx : 0 ≤ x) : (0 ≤ p.owe x ∧ p.owe x ≤ 1099511627776) ∧ (p.owe x = 1099511627776 ∨ x * p.est ≤ p.owe x * p.room) := by
  obtain ⟨_, _, _, ⟨_, _, s3, s4, _⟩, h5, _⟩ := hr
  obtain ⟨e1, e2⟩ := h5 hon
  have m0 : 0 ≤ x * p.est := Int.mul_nonneg hx (by omega)
  have d0 : 0 ≤ x * p.est / p.room := Int.ediv_nonneg m0 (by omega)
  have hm : x * p.est % p.room + p.room * (x * p.est / p.room) = x * p.est := Int.emod_add_mul_ediv ..
  have hm0 : 0 ≤ x * p.est % p.room := Int.emod_nonneg _ (by omega)
  have hm1 : x * p.est % p.room < p.room := Int.emod_lt_of_pos _ (by omega)
  unfold Pc.owe
  generalize hq : x * p.est / p.room = q at *
  generalize hrm : x * p.est % p.room = r at *
  refine ⟨by split <;> omega, ?_⟩
  by_cases hb : 1099511627776 ≤ q + if r > 0 then 1 else 0
  · exact .inl (by omega)
  · refine .inr ?_
    rw [show min 1099511627776 (q + if r > 0 then 1 else 0) = q + if r > 0 then 1 else 0 by omega]
    by_cases h0 : r > 0
    · rw [if_pos h0, Int.add_mul, Int.one_mul, Int.mul_comm q]
      omega
    · rw [if_neg h0, Int.add_zero, Int.mul_comm q]
      omega

theorem alloc_on {p : Pc} (hr : p.Right) (hon : p.on = true) {who : Nat} (hw : who < p.debts.length) {x : Int} (hx : x ≤ 1048576) :
    p.alloc who x = (p.alloc1 who x, p.cost who x - min (p.cost who x) p.credit, 0) := by
  unfold Pc.alloc
  rw [if_pos hr, if_neg (by omega), if_neg (by omega), if_neg (by rw [hon]; decide), Int.toNat_natCast]

theorem alloc1_right {p : Pc} (hp : p.Typed) (hr : p.Right) (hon : p.on = true) (who : Nat) (x : Int) : (p.alloc1 who x).Typed ∧ (p.alloc1 who x).Right ∧ (p.alloc1 who x).on = true ∧ (p.alloc1 who x).debts.length = p.debts.length := by
  have hc : 0 ≤ p.cost who x ∧ p.cost who x ≤ 1099511627776 := sumS_bounds _ _
  have hm := sumS_bounds p.made x
  have hcr := hp.credit
  have hlen : (p.alloc1 who x).debts.length = p.debts.length := List.length_set ..
  have hcred : (p.alloc1 who x).credit = p.credit - min (p.cost who x) p.credit := rfl
  have hmade : (p.alloc1 who x).made = sumS p.made x := rfl
  have hdeb : ∀ d ∈ (p.alloc1 who x).debts, d ∈ p.debts ∨ (0 ≤ d ∧ d ≤ 1099511627776) := by
    intro d hd
    rcases List.mem_or_eq_of_mem_set hd with h | h
    · exact .inl h
    · exact .inr (by omega)
  obtain ⟨h1, h2, h3, ⟨s1, s2, s3, s4, s5, s6, s7, s8⟩, h5, h6⟩ := hr
  refine ⟨⟨hp.percent, hp.least, hp.live, hp.est, hp.room, by rw [hcred]; omega, hp.done, by rw [hmade]; omega, fun d hd => ?_, by rw [hlen]; exact hp.length⟩,
    ⟨by rw [hlen]; exact h1, h2, h3, ⟨s1, s2, s3, s4, by rw [hcred]; omega, s6, by rw [hmade]; omega, fun d hd => ?_⟩, h5, fun h => ?_⟩, hon, hlen⟩
  · rcases hdeb d hd with h | h
    · exact hp.debts d h
    · omega
  · rcases hdeb d hd with h | h
    · exact s8 d h
    · exact h.2
  · rw [show (p.alloc1 who x).on = p.on from rfl, hon] at h
    cases h

theorem zero_set {l : List Int} (h : ∀ d ∈ l, d = 0) (i : Nat) : ∀ d ∈ l.set i 0, d = 0 := by
  intro d hd
  rcases List.mem_or_eq_of_mem_set hd with h' | h'
  · exact h d h'
  · exact h'

theorem paid_round {q : Pc} (h : Paid q) {who : Nat} (hw : who < 3) {words s : Int} (hwd : 0 ≤ words ∧ words ≤ 1048576) (hs : 0 ≤ s ∧ s ≤ 1099511627776) :
    ∃ q1 q2 q3 o, q.work (-1) [s] = (q1, 0) ∧ q1.alloc who words = (q2, o, 0) ∧ q2.work who [o] = (q3, 0) ∧ Paid q3 ∧ (0 ≤ o ∧ o < 18446744073709551616) ∧ q1.Typed ∧ q2.Typed ∧ q3.debts.getD who 0 = 0 := by
  obtain ⟨t, r, on, l3, z, hpaid⟩ := h
  obtain ⟨t1, r1, on1⟩ := work1_right (who := -1) t r on hs.1
  have l1 : (q.work1 (-1) s).debts.length = 3 := by rw [Pc.work1_length]; exact l3
  have d1 : (q.work1 (-1) s).debts = q.debts := rfl
  have hcr1 := t1.credit
  have hz1 : (q.work1 (-1) s).debts.getD who 0 = 0 := z _ (getD_mem (by omega))
  obtain ⟨t2, r2, on2, l2⟩ := alloc1_right t1 r1 on1 who words
  have ho := owe_bounds t1 r1 on1 (x := words) hwd.1
  have hcost : (q.work1 (-1) s).cost who words = (q.work1 (-1) s).owe words := by
    unfold Pc.cost sumS
    rw [hz1]
    omega
  generalize hq1 : q.work1 (-1) s = q1 at *
  have ho2 : 0 ≤ q1.owe words - min (q1.owe words) q1.credit ∧ q1.owe words - min (q1.owe words) q1.credit ≤ 1099511627776 := by omega
  have hdone1 : q1.done = sumS q.done s := by rw [← hq1]; rfl
  have hcred1 : q1.credit = sumS q.credit s := by rw [← hq1]; rfl
  have hest1 : q1.est = q.est := by rw [← hq1]; rfl
  have hroom1 : q1.room = q.room := by rw [← hq1]; rfl
  have hmade1 : q1.made = q.made := by rw [← hq1]; rfl
  have hde2 : (q1.alloc1 who words).debts = q1.debts.set who (q1.owe words - min (q1.owe words) q1.credit) := by
    unfold Pc.alloc1
    rw [hcost]
  have hcr2 : (q1.alloc1 who words).credit = q1.credit - min (q1.owe words) q1.credit := by
    unfold Pc.alloc1
    rw [hcost]
  have hz2 : (q1.alloc1 who words).debts.getD who 0 = q1.owe words - min (q1.owe words) q1.credit := by
    rw [hde2]
    exact getD_set (by omega) _
  have hdone2 : (q1.alloc1 who words).done = q1.done := rfl
  have hmade2 : (q1.alloc1 who words).made = sumS q1.made words := rfl
  have hest2 : (q1.alloc1 who words).est = q1.est := rfl
  have hroom2 : (q1.alloc1 who words).room = q1.room := rfl
  generalize hq2 : q1.alloc1 who words = q2 at *
  obtain ⟨t3, r3, on3⟩ := work1_right (who := (who : Int)) t2 r2 on2 ho2.1
  have e3 := work_on r2 on2 (who := (who : Int)) (x := q1.owe words - min (q1.owe words) q1.credit) (by omega) ho2.2
  generalize hob : q1.owe words - min (q1.owe words) q1.credit = o at *
  have hpay : q2.pay who o = (0, q2.debts.set who 0) := by
    unfold Pc.pay
    rw [if_neg (by omega), Int.toNat_natCast, hz2]
    simp only [Prod.mk.injEq]
    exact ⟨by omega, by congr 1; omega⟩
  have hde3 : (q2.work1 who o).debts = q1.debts.set who 0 := by
    show (q2.pay who o).2 = _
    rw [hpay, hde2, List.set_set]
  have hcr3 : (q2.work1 who o).credit = sumS q2.credit 0 := by
    show sumS q2.credit (q2.pay who o).1 = _
    rw [hpay]
  have hdone3 : (q2.work1 who o).done = sumS q2.done o := rfl
  have hmade3 : (q2.work1 who o).made = q2.made := rfl
  have hest3 : (q2.work1 who o).est = q2.est := rfl
  have hroom3 : (q2.work1 who o).room = q2.room := rfl
  have hr0 := r
  obtain ⟨_, _, _, ⟨_, _, s3, s4, s5, s6, s7, _⟩, h5, _⟩ := hr0
  have := t.done
  have := t.credit
  have := t.made
  have hest0 := t.est
  have hroom0 := t.room
  refine ⟨q1, q2, q2.work1 who o, o, ?_, ?_, e3, ⟨t3, r3, on3, by rw [hde3, List.length_set]; exact l1, by rw [hde3]; exact zero_set (by rw [d1]; exact z) who, ?_⟩, by omega, t1, t2, by rw [hde3]; exact getD_set (by omega) 0⟩
  · rw [work_on r on (by omega) hs.2, hq1]
  · rw [alloc_on r1 on1 (by omega) hwd.2, hq2, hcost, hob]
  · rw [hcr3, hdone3, hmade3, hest3, hroom3, hest2, hroom2, hest1, hroom1, hmade2, hmade1, hdone2, hcr2]
    unfold sumS at *
    by_cases hsat : min 1099511627776 ((q1.done + o) % 18446744073709551616) = 1099511627776
    · exact .inl hsat
    · right
      have hd1 : q1.done < 1099511627776 := by omega
      have hd0 : q1.done = q.done + s := by omega
      rcases hpaid with h0 | ⟨hle, hmul⟩
      · omega
      · have hc1 : q1.credit = q.credit + s := by omega
        have hdd : min 1099511627776 ((q1.done + o) % 18446744073709551616) = q1.done + o := by omega
        have hcc : min 1099511627776 ((q1.credit - min (q1.owe words) q1.credit + 0) % 18446744073709551616) = q1.credit - min (q1.owe words) q1.credit := by omega
        rw [hdd, hcc]
        refine ⟨by omega, ?_⟩
        have hoo : q1.owe words ≠ 1099511627776 := by omega
        have hom := ho.2.resolve_left hoo
        rw [hest1, hroom1] at hom
        have hdiff : q1.done + o - (q1.credit - min (q1.owe words) q1.credit) = (q.done - q.credit) + q1.owe words := by omega
        rw [hdiff, Int.add_mul]
        have hmm : min 1099511627776 ((q.made + words) % 18446744073709551616) ≤ q.made + words := by omega
        have := Int.mul_le_mul_of_nonneg_right hmm hest0.1
        rw [Int.add_mul] at this
        omega

/-- The end of a round. -/
theorem paid_end {q : Pc} (h : Paid q) : ¬ (q.made ≥ q.room ∧ q.done < q.est ∧ q.done < 1099511627776) := by
  rintro ⟨h1, h2, h3⟩
  obtain ⟨t, r, on, _, _, hpaid⟩ := h
  obtain ⟨_, _, _, _, h5, _⟩ := r
  obtain ⟨e1, e2⟩ := h5 on
  have hc := t.credit
  rcases hpaid with h0 | ⟨hle, hmul⟩
  · omega
  · have a := Int.mul_le_mul_of_nonneg_right h1 (show 0 ≤ q.est by omega)
    have b : (q.done - q.credit) * q.room ≤ (q.est - 1) * q.room := Int.mul_le_mul_of_nonneg_right (by omega) (by omega)
    have b2 : (q.est - 1) * q.room = q.room * q.est - q.room := by rw [Int.sub_mul, Int.one_mul, Int.mul_comm]
    omega

/-- The beginning. -/
theorem paid_begin {a lv hp : Int} (ha : -9223372036854775808 ≤ a ∧ a < 9223372036854775808) (hl : 0 ≤ lv ∧ lv ≤ 1073741824) (hh : 0 ≤ hp ∧ hp ≤ 2147483648) (hr : (Pc.made1 a 1 3).Right) :
    ∃ q, Pc.begin { Pc.made1 a 1 3 with live := lv } hp = (q, 0) ∧ Paid q := by
  have t0 : Pc.Typed { Pc.made1 a 1 3 with live := lv } := by
    have := made_typed (n := 3) ha (b := 1) (by decide) (by decide)
    exact ⟨this.percent, this.least, ⟨hl.1, by show lv < _; omega⟩, this.est, this.room, this.credit, this.done, this.made, this.debts, this.length⟩
  have r0 : Pc.Right { Pc.made1 a 1 3 with live := lv } := by
    obtain ⟨h1, h2, h3, ⟨s1, s2, s3, s4, s5, s6, s7, s8⟩, h5, h6⟩ := hr
    exact ⟨h1, h2, h3, ⟨s1, by show lv ≤ _; omega, s3, s4, s5, s6, s7, s8⟩, h5, h6⟩
  have hg := goal_le t0 r0
  generalize hp0 : ({ Pc.made1 a 1 3 with live := lv } : Pc) = p0 at *
  have hon : p0.on = false := by rw [← hp0]; rfl
  have hlv : p0.live = lv := by rw [← hp0]
  have hmd : p0.made = 0 := by rw [← hp0]; rfl
  have hdn : p0.done = 0 := by rw [← hp0]; rfl
  have hcd : p0.credit = 0 := by rw [← hp0]; rfl
  have hdb : p0.debts = [0, 0, 0] := by rw [← hp0]; rfl
  have hst : p0.state false hp = 0 := by
    unfold Pc.state
    rw [if_neg (by rw [hon]; decide), if_neg (by omega)]
  refine ⟨p0.begin1 hp, ?_, ?_⟩
  · unfold Pc.begin
    rw [if_pos r0, if_neg (by rw [hst]; decide)]
  · have hest : (p0.begin1 hp).est = max 1 p0.live := rfl
    have hroom : (p0.begin1 hp).room = max (max 1 (p0.goal / 20)) (p0.goal - min p0.goal hp) := rfl
    have hb : (1 ≤ (p0.begin1 hp).est ∧ (p0.begin1 hp).est ≤ 1099511627776) ∧ (1 ≤ (p0.begin1 hp).room ∧ (p0.begin1 hp).room ≤ 1099511627776) := by
      rw [hest, hroom]
      omega
    obtain ⟨h1, h2, h3, ⟨s1, s2, s3, s4, s5, s6, s7, s8⟩, h5, h6⟩ := r0
    refine ⟨⟨t0.percent, t0.least, t0.live, by omega, by omega, t0.credit, t0.done, t0.made, t0.debts, t0.length⟩, ⟨h1, h2, h3, ⟨s1, s2, hb.1.2, hb.2.2, s5, s6, s7, s8⟩, fun _ => ⟨hb.1.1, hb.2.1⟩, fun h => by cases h⟩, rfl, ?_, ?_, .inr ⟨?_, ?_⟩⟩
    · show p0.debts.length = 3
      rw [hdb]; rfl
    · show ∀ d ∈ p0.debts, d = 0
      rw [hdb]
      decide
    · show p0.credit ≤ p0.done
      omega
    · show p0.made * _ ≤ (p0.done - p0.credit) * _
      rw [hmd, hdn, hcd]
      simp

theorem zero_typed : Pc.zero.Typed := ⟨by decide, by decide, by decide, by decide, by decide, by decide, by decide, by decide, by decide, by decide⟩

/-- Steps handed in. -/
structure StepsAt (w : World) (A : Option Addr) (n : Nat) : Prop where
  isSome : 0 < n → A.isSome = true
  cells : ∀ i, i < n → ∃ x y z, Cells w A (i * 3) [.int .u8 x, .int .u64 y, .int .u64 z] ∧ (0 ≤ x ∧ x < 256) ∧ (0 ≤ y ∧ y < 18446744073709551616) ∧ (0 ≤ z ∧ z < 18446744073709551616)
  max : n ≤ maxLen

theorem StepsAt.kept {w w' : World} {A : Option Addr} {n : Nat} (h : StepsAt w A n) (hF : Fr F0 w w') : StepsAt w' A n :=
  ⟨h.isSome, fun i hi => by
    obtain ⟨x, y, z, ⟨p, hp, hc⟩, ht⟩ := h.cells i hi
    refine ⟨x, y, z, ⟨p, hp, fun m hm => ?_⟩, ht⟩
    have := hc m hm
    rw [List.getElem?_eq_getElem hm] at this ⊢
    exact cell_kept this hF.keep (fun h => h), h.max⟩

theorem PacePaid_C (lv hp a : Int) (hlv : 0 ≤ lv ∧ lv < 18446744073709551616) (hhp : 0 ≤ hp ∧ hp < 18446744073709551616) (ha : -9223372036854775808 ≤ a ∧ a < 9223372036854775808) (w : World) {A : Option Addr} {n c : Nat} (hl : StepsAt w A n) :
    Ret Try.prog 6 #[.int .u64 lv, .int .u64 hp, .int .i64 a, .slice A n c] w fun v _ => v = .bool true := by
  refine besomlaw21_PacePaid_W _ _ _ _ _ _ w _ ?_
  refine RetM.use (lives_C w) fun v w1 hF1 hR => ?_
  subst hR
  refine ⟨_, rfl, _, rfl, hF1.stp0 _ _, fun hF1' => ⟨fun h => (by cases h), fun _ => ?_⟩⟩
  refine RetM.use (Make_R a 1 3 ha (by decide) w1) fun v w5 hF5 hR => ?_
  have hmk : (Pc.make a 1 3 = (Pc.made1 a 1 3, 0) ∧ (Pc.made1 a 1 3).Right) ∨ Pc.make a 1 3 = (Pc.zero, 1) := by
    unfold Pc.make
    by_cases hr : (Pc.made1 a 1 3).Right
    · exact .inl ⟨if_pos ⟨by decide, hr⟩, hr⟩
    · exact .inr (if_neg fun h => hr h.2)
  have hlm : 0 ≤ Int.tmod lv 1073741824 ∧ Int.tmod lv 1073741824 ≤ 1073741824 := by rw [tmod_pos hlv.1]; omega
  have hhm : 0 ≤ Int.tmod hp 2147483648 ∧ Int.tmod hp 2147483648 ≤ 2147483648 := by rw [tmod_pos hhp.1]; omega
  rcases hmk with ⟨hmk, hr⟩ | hmk
  · rw [hmk] at hR
    obtain ⟨A16, c18, rfl, hM⟩ := hR
    refine ⟨_, rfl, _, _, _, _, _, _, _, _, _, _, _, _, _, rfl, hF5.stp0 _ _, fun hF5' k20 hk20 _ w21 hc21 hF21 hlt21 => ?_⟩
    have s := ((hM.stay (ids := []) (by simp)).more hk20).chg hc21
    have tp : Pc.Typed { Pc.made1 a 1 3 with live := Int.tmod lv 1073741824 } := by
      have := made_typed (n := 3) ha (b := 1) (by decide) (by decide)
      exact ⟨this.percent, this.least, ⟨hlm.1, by show Int.tmod lv _ < _; omega⟩, this.est, this.room, this.credit, this.done, this.made, this.debts, this.length⟩
    obtain ⟨q0, hq0, paid0⟩ := paid_begin ha hlm hhm hr
    refine RetM.use (Begin_C { Pc.made1 a 1 3 with live := Int.tmod lv 1073741824 } tp (Int.tmod hp 2147483648) (by omega) w21 s.ints) fun v w24 hF24 hR => ?_
    rw [hq0] at hR
    obtain ⟨A35, c37, rfl, hM⟩ := hR
    have s := hM.stay hlt21
    refine ⟨_, rfl, _, _, _, _, _, _, _, _, _, _, _, _, _, rfl, hF24.stp0 _ _, fun hF24' => ⟨fun h => (by cases h), fun _ J40 hJ40 => ?_⟩⟩
    refine ⟨fun vs w' => ∃ (i : Nat) (q : Pc) (A : Option Addr) (c : Nat), vs = .int .i64 i :: q.vals A q.debts.length c ∧ i ≤ n ∧ Paid q ∧ Stay [k20] w' A q.debts ∧ (∀ k ∈ [k20], k < w'.heap.size),
      fun vs _ => match vs with | .int _ i :: _ => n - i.toNat | _ => 0, fun w56 hc56 hF56 => ⟨0, q0, A35, c37, rfl, Nat.zero_le _, paid0, s.chg hc56, fun k hk => Nat.lt_of_lt_of_le (hlt21 k hk) (Nat.le_trans hF24.size hc56.size)⟩, ?_⟩
    rintro m57 n58 n59 n60 b61 n62 n63 n64 n65 n66 A67 k68 k69 w70 hF70 ⟨i, q, A', c', hvs, hi, hq, s, hlt70⟩
    simp only [Pc.vals, List.cons.injEq, Value.int.injEq, Value.bool.injEq, Value.slice.injEq, true_and, and_true] at hvs
    obtain ⟨rfl, rfl, rfl, rfl, rfl, rfl, rfl, rfl, rfl, rfl, rfl, rfl, rfl⟩ := hvs
    refine ⟨fun h => ?_, fun h => hJ40 _ _ _ _ _ _ _ _ _ _ _ _ w70 hF70 rfl⟩
    have h := of_decide_eq_true h
    have hin : i < n := by omega
    have hl70 := hl.kept hF70
    obtain ⟨x1, x2, x3, hxc, hx1, hx2, hx3⟩ := hl70.cells i hin
    have hwt : ∃ who : Nat, who < 3 ∧ IntKind.wrap .i64 (Int.tmod x1 3) = (who : Int) := by
      rw [tmod_pos hx1.1, wrap_i64_of (by omega) (by omega)]
      exact ⟨(x1 % 3).toNat, by omega, by omega⟩
    obtain ⟨who, hwho, hwe⟩ := hwt
    have hwd : 0 ≤ Int.tmod x2 1048576 ∧ Int.tmod x2 1048576 ≤ 1048576 := by rw [tmod_pos hx2.1]; omega
    have hsd : 0 ≤ Int.tmod x3 1000 ∧ Int.tmod x3 1000 ≤ 1099511627776 := by rw [tmod_pos hx3.1]; omega
    obtain ⟨q1, q2, q3, o, e1, e2, e3, hq3, ho, t1, t2, hz3⟩ := paid_round hq hwho hwd hsd
    refine ⟨⟨by omega, h, hl.isSome (by omega)⟩, x1, x2, x3, by simpa using hxc, fun k74 hk74 _ => ⟨fun _ w75 hc75 hF75 => hJ40 _ _ _ _ _ _ _ _ _ _ _ _ w75 hF75 rfl, fun _ w76 hc76 hF76 hlt76 => ?_⟩⟩
    have s := (s.more hk74).chg hc76
    refine semUpon_build intT [Int.tmod x3 1000] rfl rfl (by decide) fun w79 hF79 hr79 hs79 => ?_
    have s := s.call hF79
    refine ⟨_, _, _, rfl, hF79.stp0 _ _, fun hF79' hlt79 => ?_⟩
    refine RetM.use (Work_C q hq.typed (-1) w79 s.ints ⟨hr79.ints, by decide, fun d hd => by rw [List.mem_singleton] at hd; omega⟩) fun v w85 hF85 hR => ?_
    rw [e1] at hR
    obtain ⟨A97, c98, rfl, hM⟩ := hR
    have s := hM.stay hlt79
    refine ⟨_, rfl, _, _, _, _, _, _, _, _, _, _, _, _, _, rfl, hF85.stp0 _ _, fun hF85' k100 hk100 _ w101 hc101 hF101 hlt101 => ?_⟩
    have s := (s.more hk100).chg hc101
    rw [hwe]
    refine RetM.use (Alloc_C q1 t1 who (Int.tmod x2 1048576) (by omega) w101 s.ints) fun v w104 hF104 hR => ?_
    rw [e2] at hR
    obtain ⟨A116, c117, rfl, hM⟩ := hR
    have s := hM.stay hlt101
    refine ⟨_, rfl, _, _, _, _, _, _, _, _, _, _, _, _, _, _, rfl, hF104.stp0 _ _, fun hF104' w120 hc120 hF120 hlt120 => ?_⟩
    have s := s.chg hc120
    refine semUpon_build intT [o] rfl rfl (by decide) fun w123 hF123 hr123 hs123 => ?_
    have s := s.call hF123
    refine ⟨_, _, _, rfl, hF123.stp0 _ _, fun hF123' hlt123 => ?_⟩
    refine RetM.use (Work_C q2 t2 who w123 s.ints ⟨hr123.ints, by decide, fun d hd => by rw [List.mem_singleton] at hd; omega⟩) fun v w129 hF129 hR => ?_
    rw [e3] at hR
    obtain ⟨A140, c142, rfl, hM⟩ := hR
    have s := hM.stay hlt123
    have h3 := hq3.three
    refine ⟨_, rfl, _, _, _, _, _, _, _, _, _, _, _, _, _, rfl, hF129.stp0 _ _, fun hF129' => ⟨fun _ => ⟨by omega, by show (who : Int) < (q3.debts.length : Int); omega, s.ints.isSome (by show 0 < q3.debts.length; omega)⟩, fun w144 hc144 hF144 => ⟨0, fun _ => ?_, fun hlt144 J147 hJ147 => ⟨fun _ => ?_, fun h => by simp at h⟩⟩⟩⟩
    · have hc := (s.chg hc144).ints.cell (getD_some (l := q3.debts) (i := who) (by omega))
      rw [hz3] at hc
      simpa using hc
    · have s := s.chg hc144
      refine RetM.use (check_C q3 hq3.typed w144 s.ints) fun v w153 hF153 hR => ?_
      subst hR
      rw [Pc.check_right hq3.right]
      refine ⟨_, rfl, _, rfl, hF153.stp0 _ _, hJ147 _ _ (hF144.trans hF153) ⟨fun h => (by simp at h), fun _ => ⟨fun h w150 _ _ => ?_, fun _ w151 hc151 hF151 => ⟨⟨i + 1, q3, A140, c142, ?_, by omega, hq3, ?_, ?_⟩, ?_⟩⟩⟩⟩
      · exfalso
        simp only [Bool.and_eq_true, decide_eq_true_eq] at h
        exact paid_end hq3 ⟨h.1.1, h.1.2, h.2⟩
      · rw [wrap_succ hin hl.max]
      · have s := (s.call hF153).chg hc151
        exact ⟨s.ints, fun q hq => ⟨(s.away q hq).1, fun hm => (s.away q hq).2 (by rw [List.mem_singleton] at hm; simp [hm])⟩⟩
      · intro k hk
        have := hlt70 k hk
        have := hlt144 k (by rw [List.mem_singleton] at hk; simp [hk])
        have := hF153.size
        have := hc151.size
        omega
      · rw [wrap_succ hin hl.max]
        show n - ((i + 1 : Nat) : Int).toNat < n - ((i : Nat) : Int).toNat
        omega
  · rw [hmk] at hR
    obtain ⟨A16, c18, rfl, hM⟩ := hR
    refine ⟨_, rfl, _, _, _, _, _, _, _, _, _, _, _, _, _, rfl, hF5.stp0 _ _, fun hF5' k20 hk20 _ w21 hc21 hF21 hlt21 => ?_⟩
    have s := ((hM.stay (ids := []) (by simp)).more hk20).chg hc21
    have tp : Pc.Typed { Pc.zero with live := Int.tmod lv 1073741824 } := by
      have := zero_typed
      exact ⟨this.percent, this.least, ⟨hlm.1, by show Int.tmod lv _ < _; omega⟩, this.est, this.room, this.credit, this.done, this.made, this.debts, this.length⟩
    refine RetM.use (Begin_C { Pc.zero with live := Int.tmod lv 1073741824 } tp (Int.tmod hp 2147483648) (by omega) w21 s.ints) fun v w24 hF24 hR => ?_
    obtain ⟨A35, c37, rfl, hM⟩ := hR
    exact ⟨_, rfl, _, _, _, _, _, _, _, _, _, _, _, _, _, rfl, hF24.stp0 _ _, fun hF24' => ⟨fun h w39 _ _ => rfl, fun h => (by simp at h)⟩⟩

end Go.Proofs.Ytfpmimnbocflpaa
