/- Laws: no step is lost. -/
import Derived.Test.YtfpmimnbocflpaaL2
namespace Go.Proofs.Ytfpmimnbocflpaa
open Go Go.Cw
set_option linter.unusedVariables false

theorem work_cases (p : Pc) (who : Int) (l : List Int) :
    p.work who l = (Pc.zero, 2) ∨ (∃ e, e ≠ 0 ∧ e ≠ 2 ∧ p.work who l = (p, e)) ∨
      (p.Right ∧ p.on = true ∧ (-1 ≤ who ∧ who < (p.debts.length : Int)) ∧ (∀ n ∈ l, n ≤ 1099511627776) ∧ p.work who l = (p.works who l, 0)) := by
  unfold Pc.work
  by_cases hr : p.Right
  · rw [if_pos hr]
    by_cases h1 : who < -1 ∨ who ≥ (p.debts.length : Int)
    · rw [if_pos h1]
      exact .inr (.inl ⟨11, by decide, by decide, rfl⟩)
    · rw [if_neg h1]
      by_cases h2 : p.on = false
      · rw [if_pos h2]
        exact .inr (.inl ⟨5, by decide, by decide, rfl⟩)
      · rw [if_neg h2]
        by_cases h3 : ∃ n ∈ l, n > 1099511627776
        · rw [if_pos h3]
          exact .inr (.inl ⟨1, by decide, by decide, rfl⟩)
        · rw [if_neg h3]
          refine .inr (.inr ⟨hr, by simpa using h2, by omega, fun n hn => ?_, rfl⟩)
          by_cases h : n ≤ 1099511627776
          · exact h
          · exact absurd ⟨n, hn, by omega⟩ h3
  · rw [if_neg hr]
    exact .inl rfl

theorem pay_le {p : Pc} (hd : ∀ d ∈ p.debts, 0 ≤ d ∧ d < 18446744073709551616) {M : Int} (hM : ∀ d ∈ p.debts, d ≤ M) {who n : Int} (hn : 0 ≤ n) : ∀ d ∈ (p.pay who n).2, d ≤ M := by
  unfold Pc.pay
  split
  · exact hM
  · intro d hm
    by_cases hi : who.toNat < p.debts.length
    · rcases List.mem_or_eq_of_mem_set hm with h | h
      · exact hM d h
      · have := hd _ (getD_mem hi)
        have := hM _ (getD_mem hi)
        omega
    · rw [List.set_eq_of_length_le (by omega)] at hm
      exact hM d hm

theorem work1_right {p : Pc} (hp : p.Typed) (hr : p.Right) (hon : p.on = true) {who n : Int} (hn : 0 ≤ n) : (p.work1 who n).Typed ∧ (p.work1 who n).Right ∧ (p.work1 who n).on = true := by
  obtain ⟨h1, h2, h3, ⟨s1, s2, s3, s4, s5, s6, s7, s8⟩, h5, h6⟩ := hr
  have b1 := sumS_bounds p.done n
  have b2 := sumS_bounds p.credit (p.pay who n).1
  refine ⟨⟨hp.percent, hp.least, hp.live, hp.est, hp.room, ⟨b2.1, ?_⟩, ⟨b1.1, ?_⟩, hp.made, Pc.pay_debts hp.debts hn, ?_⟩, ⟨?_, h2, h3, ⟨s1, s2, s3, s4, b2.2, b1.2, s7, pay_le hp.debts s8 hn⟩, h5, fun h => ?_⟩, hon⟩
  · show sumS _ _ < _
    omega
  · show sumS _ _ < _
    omega
  · rw [Pc.work1_length]
    exact hp.length
  · rw [Pc.work1_length]
    exact h1
  · rw [show (p.work1 who n).on = p.on from rfl, hon] at h
    cases h

theorem works_right {p : Pc} (hp : p.Typed) (hr : p.Right) (hon : p.on = true) {who : Int} (l : List Int) (hl : ∀ n ∈ l, 0 ≤ n) : (p.works who l).Typed ∧ (p.works who l).Right ∧ (p.works who l).on = true := by
  unfold Pc.works
  induction l generalizing p with
  | nil => exact ⟨hp, hr, hon⟩
  | cons x r ih =>
    obtain ⟨a, b, c⟩ := work1_right (who := who) hp hr hon (hl x (by simp))
    exact ih a b c fun n hn => hl n (by simp [hn])

/-- What somebody paid, up to the i-th debt. -/
def paidTo (p : Pc) (who x : Int) (i : Nat) : Int := if 0 ≤ who ∧ who < (i : Int) then min x (p.debts.getD who.toNat 0) else 0

theorem pay_at {p : Pc} {who x : Int} (hwho : -1 ≤ who ∧ who < (p.debts.length : Int)) (i : Nat) : (p.pay who x).2.getD i 0 = if who = (i : Int) then p.debts.getD i 0 - min x (p.debts.getD i 0) else p.debts.getD i 0 := by
  unfold Pc.pay
  by_cases h1 : who = -1
  · rw [if_pos h1, if_neg (by omega)]
  · rw [if_neg h1]
    simp only [List.getD_eq_getElem?_getD, List.getElem?_set]
    by_cases h2 : who = (i : Int)
    · rw [if_pos h2, if_pos (by omega), if_pos (by omega)]
      obtain rfl : who.toNat = i := by omega
      rfl
    · rw [if_neg h2, if_neg (by omega)]

theorem PaceWork_C (p : Pc) (hp : p.Typed) {A : Option Addr} {c : Nat} (who x : Int) (hx : 0 ≤ x ∧ x < 18446744073709551616) (w : World) (hl : Ints .u64 w A p.debts.length p.debts) :
    Ret Try.prog 7 #[p.val A p.debts.length c, .int .i64 who, .int .u64 x] w fun v _ => v = .bool true := by
  refine besomlaw21_PaceWork_W _ _ _ _ _ _ _ _ _ _ _ _ _ _ w _ ?_
  intro k0 hk0 _ w1 hc1 hF1 hlt1
  have old : ∀ {w'}, Fr F0 w w' → Ints .u64 w' A p.debts.length p.debts := fun hF => hl.kept hF.keep (fun _ _ h => h)
  refine RetM.use (lives_C w1) fun v w4 hF4 hR => ?_
  subst hR
  refine ⟨_, rfl, _, rfl, hF4.stp0 _ _, fun hF4' => ⟨fun h => (by cases h), fun _ hlt4 => ?_⟩⟩
  refine semUpon_build intT [x] rfl rfl (by decide) fun w9 hF9 hr9 hs9 => ?_
  refine ⟨_, _, _, rfl, hF9.stp0 _ _, fun hF9' hlt9 => ?_⟩
  refine RetM.use (Work_C p hp who w9 (old hF9') ⟨hr9.ints, by decide, fun d hd => (List.mem_singleton.1 hd) ▸ hx⟩) fun v w15 hF15 hR => ?_
  have hcases := work_cases p who [x]
  obtain ⟨A26, c28, rfl, hM⟩ := hR
  have s := hM.stay hlt9
  refine ⟨_, rfl, _, _, _, _, _, _, _, _, _, _, _, _, _, rfl, hF15.stp0 _ _, fun hF15' k30 hk30 _ => ⟨fun h w31 hc31 hF31 hlt31 J33 hJ33 => ⟨fun h1 => ?_, fun h1 => ⟨false, hJ33 _ _ hF31 ?_⟩⟩, fun h => ?_⟩⟩
  · have s := (s.more hk30).chg hc31
    have hq : (p.work who [x]).1 = p := by
      rcases hcases with e | ⟨e, _, _, e'⟩ | ⟨_, _, _, _, e⟩
      · rw [e] at h1
        cases h1
      · rw [e']
      · rw [e] at h
        cases h
    rw [hq] at s ⊢
    refine RetM.use (Same_C p p w31 hp.len (old hF31) s.ints) fun v w37 hF37 hR => ?_
    subst hR
    rw [Pc.same_iff.2 rfl]
    refine ⟨_, rfl, _, rfl, hF37.stp0 _ _, hJ33 _ _ (hF31.trans hF37) ?_⟩
    simp
  · rw [if_neg (by decide)] at h1
    have h1 : ((p.work who [x]).2 == 2) = true := by simpa using h1
    rw [h1]
    rfl
  · obtain ⟨hr, hon, hwho, hxm, e⟩ : p.Right ∧ p.on = true ∧ (-1 ≤ who ∧ who < (p.debts.length : Int)) ∧ (∀ n ∈ [x], n ≤ 1099511627776) ∧ p.work who [x] = (p.works who [x], 0) := by
      rcases hcases with e | ⟨e, h0, _, e'⟩ | h'
      · rw [e] at h; cases h
      · rw [e'] at h
        simp only [bne_eq_false_iff_eq] at h
        exact absurd h h0
      · exact h'
    have hxm := hxm x (by simp)
    obtain ⟨tq, rq, oq⟩ := works_right (who := who) hp hr hon [x] (fun n hn => by rw [List.mem_singleton] at hn; omega)
    have hq1 : p.works who [x] = p.work1 who x := rfl
    rw [e] at s ⊢
    have fin : ∀ {w'}, Fr F0 w w' → Ints .u64 w' A26 (p.works who [x]).debts.length (p.works who [x]).debts → Ret Try.prog 17 #[(p.works who [x]).val A26 (p.works who [x]).debts.length c28] w' fun v _ => v = .int .i64 0 := by
      intro w' hF hi
      refine (check_C _ tq w' hi).mono ?_
      rintro v w'' rfl
      rw [Pc.check_right rq]
    refine ⟨fun h1 w41 hc41 hF41 hlt41 => ?_, fun h1 J47 hJ47 => ?_⟩
    · have s := (s.more hk30).chg hc41
      refine RetM.use (fin hF41 s.ints) fun v w44 hF44 hR => ?_
      subst hR
      exact ⟨_, rfl, _, rfl, hF44.stp0 _ _, fun _ => rfl⟩
    · simp only [Bool.or_eq_false_iff, decide_eq_false_iff_not] at h1
      have hdone := hp.done
      have hcred := hp.credit
      have hlen : (p.works who [x]).debts.length = p.debts.length := (works_keep p who [x]).1
      have hdeb : (p.works who [x]).debts = (p.pay who x).2 := rfl
      have hpl := hp.len
      refine ⟨fun vs w' => ∃ i : Nat, vs = [.int .u64 (paidTo p who x i), .int .i64 i] ∧ i ≤ p.debts.length ∧ Stay [k0, k30] w' A26 (p.works who [x]).debts,
        fun vs _ => match vs with | [_, .int _ i] => p.debts.length - i.toNat | _ => 0, fun w61 hc61 hF61 => ⟨0, ?_, Nat.zero_le _, (s.more hk30).chg hc61⟩, ?_⟩
      · unfold paidTo
        rw [if_neg (by omega)]
        rfl
      · rintro m62 m63 w64 hF64 ⟨i, hvs, hi, s⟩
        obtain ⟨rfl, rfl⟩ : m62 = paidTo p who x i ∧ m63 = i := by simpa using hvs
        refine ⟨fun h2 => ?_, fun h2 => ?_⟩
        · have h2 := of_decide_eq_true h2
          have hin : i < p.debts.length := by omega
          have hiq : i < (p.works who [x]).debts.length := by omega
          have hA := (old hF64).isSome (by omega)
          have hA26 := s.ints.isSome (by omega)
          have hpd := hp.debts _ (getD_mem hin)
          have hqe : (p.works who [x]).debts.getD i 0 = if who = (i : Int) then p.debts.getD i 0 - min x (p.debts.getD i 0) else p.debts.getD i 0 := by
            rw [hdeb]
            exact pay_at hwho i
          refine ⟨⟨by omega, by omega, hA⟩, fun w65 hc65 hF65 => ?_⟩
          have s := s.chg hc65
          refine ⟨p.debts.getD i 0, by simpa using (old hF65).cell (getD_some hin), ⟨by omega, by show (i : Int) < ((p.works who [x]).debts.length : Int); omega, hA26⟩, (p.works who [x]).debts.getD i 0, by simpa using s.ints.cell (getD_some hiq), fun _ => ⟨by omega, by omega, hA⟩, fun w68 hc68 hF68 => ?_⟩
          have s := s.chg hc68
          refine ⟨p.debts.getD i 0, fun _ => by simpa using (old hF68).cell (getD_some hin), fun _ => ⟨by omega, by show (i : Int) < ((p.works who [x]).debts.length : Int); omega, hA26⟩, (p.works who [x]).debts.getD i 0, fun _ => by simpa using s.ints.cell (getD_some hiq), fun h3 => ?_, fun h3 => ⟨⟨i + 1, ?_, by omega, s⟩, ?_⟩⟩
          · exfalso
            rw [hqe] at h3
            by_cases hw : who = (i : Int)
            · simp [hw] at h3
            · simp [hw] at h3
          · rw [wrap_succ hin hpl, hqe]
            unfold paidTo
            by_cases hw : who = (i : Int)
            · have : who.toNat = i := by omega
              rw [if_pos hw, if_neg (by omega), if_pos (by omega), this]
              rw [wrap_u64_of (x := p.debts.getD i 0 - _) (by omega) (by omega), wrap_u64_of (by omega) (by omega)]
              congr 2
              omega
            · rw [if_neg hw, wrap_u64_of (x := p.debts.getD i 0 - _) (by omega) (by omega)]
              by_cases hw2 : 0 ≤ who ∧ who < (i : Int)
              · have hpw := hp.debts _ (getD_mem (l := p.debts) (i := who.toNat) (by omega))
                rw [if_pos hw2, if_pos (by omega), wrap_u64_of (by omega) (by omega)]
                congr 2
                omega
              · rw [if_neg hw2, if_neg (by omega), wrap_u64_of (by omega) (by omega)]
                congr 2
                omega
          · rw [wrap_succ hin hpl]
            show p.debts.length - ((i + 1 : Nat) : Int).toNat < p.debts.length - ((i : Nat) : Int).toNat
            omega
        · have h2 := of_decide_eq_false h2
          obtain rfl : i = p.debts.length := by omega
          refine hJ47 _ _ hF64 fun hlt J51 hJ51 => ?_
          have hw3 : who ≠ -1 → 0 ≤ p.debts.getD who.toNat 0 ∧ p.debts.getD who.toNat 0 ≤ 1099511627776 := by
            intro h
            have hi' : who.toNat < p.debts.length := by omega
            obtain ⟨_, _, _, ⟨_, _, _, _, _, _, _, s8⟩, _⟩ := hr
            exact ⟨(hp.debts _ (getD_mem hi')).1, s8 _ (getD_mem hi')⟩
          have e1 : (IntKind.wrap .u64 ((p.works who [x]).done - p.done) == x) = true := by
            rw [hq1]
            show (IntKind.wrap .u64 (sumS p.done x - p.done) == x) = true
            unfold sumS
            rw [show (p.done + x) % 18446744073709551616 = p.done + x by omega, wrap_u64_of (by omega) (by omega)]
            simp
            omega
          have e2 : (IntKind.wrap .u64 (IntKind.wrap .u64 ((p.works who [x]).credit - p.credit) + paidTo p who x p.debts.length) == x) = true := by
            rw [hq1]
            show (IntKind.wrap .u64 (IntKind.wrap .u64 (sumS p.credit (p.pay who x).1 - p.credit) + paidTo p who x p.debts.length) == x) = true
            unfold sumS paidTo Pc.pay
            by_cases hw : who = -1
            · rw [if_pos hw, if_neg (by omega)]
              simp only
              rw [show (p.credit + x) % 18446744073709551616 = p.credit + x by omega, wrap_u64_of (x := min _ _ - _) (by omega) (by omega), wrap_u64_of (by omega) (by omega)]
              simp
              omega
            · rw [if_neg hw, if_pos (by omega)]
              have := hw3 hw
              simp only
              rw [show (p.credit + (x - min x (p.debts.getD who.toNat 0))) % 18446744073709551616 = p.credit + (x - min x (p.debts.getD who.toNat 0)) by omega, wrap_u64_of (x := min _ _ - _) (by omega) (by omega), wrap_u64_of (by omega) (by omega)]
              simp only [beq_iff_eq]
              omega
          refine ⟨fun _ => ?_, fun h3 => ?_⟩
          · refine RetM.use (fin hF64 s.ints) fun v w55 hF55 hR => ?_
            subst hR
            refine ⟨_, rfl, _, rfl, hF55.stp0 _ _, hJ51 _ _ (hF64.trans hF55) ?_⟩
            rw [e1, e2]
            rfl
          · rw [e1, e2] at h3
            cases h3

end Go.Proofs.Ytfpmimnbocflpaa
