/- Contracts: whether a pacer is right; copies; one at work. -/
import Derived.Test.YtfpmimnbocflpaaC1
namespace Go.Proofs.Ytfpmimnbocflpaa
open Go Go.Cw
set_option linter.unusedVariables false

theorem Pc.Typed.len {p : Pc} (h : p.Typed) : p.debts.length ≤ maxLen := by
  have := h.length
  unfold maxLen
  omega

theorem still_C (p : Pc) (hp : p.Typed) {A : Option Addr} {c : Nat} (w : World) (hl : Ints .u64 w A p.debts.length p.debts) :
    Ret Try.prog 34 #[p.val A p.debts.length c] w fun v _ => v = .bool (decide ((p.est + p.room + p.credit + p.done + p.made) % 18446744073709551616 = 0 ∧ ∀ d ∈ p.debts, d = 0)) := by
  have hs : (IntKind.wrap .u64 (IntKind.wrap .u64 (IntKind.wrap .u64 (IntKind.wrap .u64 (p.est + p.room) + p.credit) + p.done) + p.made)) = (p.est + p.room + p.credit + p.done + p.made) % 18446744073709551616 := by
    simp only [wrap_u64]; omega
  have hx : (¬ ∃ d ∈ p.debts, d > 0) ↔ ∀ d ∈ p.debts, d = 0 := by
    constructor
    · intro h d hd
      have := (hp.debts d hd).1
      by_cases h1 : d > 0
      · exact absurd ⟨d, hd, h1⟩ h
      · omega
    · rintro h ⟨d, hd, h1⟩
      have := h d hd
      omega
  refine pace_still_W _ _ _ _ _ _ _ _ _ _ _ _ w _ ?_
  simp only [hs, ↓reduceIte]
  intro k0 _ _ w1 hc hF hlt J hJ
  have hl1 := hl.kept hF.keep (fun _ _ h => h)
  refine ⟨fun h => ?_, fun h => ⟨false, ?_⟩⟩
  · refine RetM.use (contains_C w1 hp.len hl1) fun v w2 hF2 hR => ?_
    subst hR
    refine ⟨_, rfl, _, rfl, hF2.stp0 _ _, hJ _ _ (hF.trans hF2) ?_⟩
    have h' : (p.est + p.room + p.credit + p.done + p.made) % 18446744073709551616 = 0 := by simpa using h
    rw [h, Bool.true_and, ← decide_not]
    exact congrArg Value.bool (decide_eq_decide.2 ⟨fun a => ⟨h', hx.1 a⟩, fun a => hx.2 a.2⟩)
  · refine hJ _ _ hF ?_
    have h' : ¬ (p.est + p.room + p.credit + p.done + p.made) % 18446744073709551616 = 0 := by simpa using h
    rw [h]
    exact congrArg Value.bool (decide_eq_false fun a => h' a.1).symm

theorem ite_max (a b : Int) : (if a > b then a else b) = max a b := by omega

theorem bounded_C (p : Pc) (hp : p.Typed) (h0 : 0 < p.debts.length) {A : Option Addr} {c : Nat} (w : World) (hl : Ints .u64 w A p.debts.length p.debts) :
    Ret Try.prog 33 #[p.val A p.debts.length c] w fun v _ => v = .bool (decide p.Small) := by
  refine pace_bounded_W _ _ _ _ _ _ _ _ _ _ _ _ w _ ?_
  intro k0 _ _ w1 hc hF hlt
  have hl1 := hl.kept hF.keep (fun _ _ h => h)
  refine RetM.use (max_C w1 hp.len h0 hl1) fun v w2 hF2 hR => ?_
  obtain ⟨m, rfl, hm⟩ := hR
  refine ⟨_, rfl, _, rfl, hF2.stp0 _ _, fun _ => ?_⟩
  refine congrArg Value.bool (decide_eq_decide.2 ?_)
  have := hm 1099511627776
  simp only [ite_max, Int.max_le]
  unfold Pc.Small
  constructor
  · rintro ⟨hb, h⟩
    refine ⟨?_, ?_, ?_, ?_, ?_, ?_, ?_, this.1 hb⟩ <;> omega
  · rintro ⟨h1, h2, h3, h4, h5, h6, h7, h8⟩
    have h9 := this.2 h8
    refine ⟨h9, ?_⟩
    omega

theorem Pc.check_right {p : Pc} (h : p.Right) : p.check = 0 := if_pos h
theorem Pc.check_wrong {p : Pc} (h : ¬ p.Right) : p.check = 2 := if_neg h

theorem check_C (p : Pc) (hp : p.Typed) {A : Option Addr} {c : Nat} (w : World) (hl : Ints .u64 w A p.debts.length p.debts) :
    Ret Try.prog 17 #[p.val A p.debts.length c] w fun v _ => v = .int .i64 p.check := by
  refine pace_Check_W _ _ _ _ _ _ _ _ _ _ _ _ w _ ?_
  intro k0 _ _
  refine ⟨fun h w1 hc hF => ?_, fun h w2 hc hF hlt J4 hJ4 => ?_⟩
  · rw [Pc.check_wrong]
    rintro ⟨⟨h1, h2⟩, _⟩
    simp at h
    omega
  have hl2 := hl.kept hF.keep (fun _ _ h => h)
  simp only [Bool.or_eq_false_iff, decide_eq_false_iff_not] at h
  have key : ∀ (b : Bool) (w3 : World), Fr F0 w w3 → (b = true → (1 ≤ p.percent ∧ p.percent ≤ 10000) ∧ 1 ≤ p.least ∧ p.Small) → (b = false → ¬ ((1 ≤ p.percent ∧ p.percent ≤ 10000) ∧ 1 ≤ p.least ∧ p.Small)) → J4 [.bool b] w3 := by
    intro b w3 hF3 ht hf
    refine hJ4 b w3 hF3 ⟨fun h1 => ?_, fun h1 hlt3 J8 hJ8 => ?_⟩
    · rw [Pc.check_wrong]
      rintro ⟨_, h2, h3, h4, _⟩
      cases b with
      | false => exact hf rfl ⟨h2, h3, h4⟩
      | true => simp at h1; omega
    · have hb : b = true := by
        cases b
        · simp at h1
        · rfl
      obtain ⟨h2, h3, h4⟩ := ht hb
      have hl3 := hl.kept hF3.keep (fun _ _ h => h)
      have key2 : ∀ (b : Bool) (w4 : World), Fr F0 w w4 → (p.on = false → (b = true ↔ p.Still)) → J8 [.bool b] w4 := by
        intro b w4 hF4 hs
        refine hJ8 b w4 hF4 ⟨fun h5 => ?_, fun h5 => ?_⟩
        · rw [Pc.check_wrong]
          rintro ⟨_, _, _, _, h6, h7⟩
          cases hon : p.on with
          | false =>
            have := (hs hon).2 (h7 hon)
            simp [hon, this] at h5
          | true =>
            have := h6 hon
            simp [hon, ite_min] at h5
            omega
        · rw [Pc.check_right]
          refine ⟨by omega, h2, h3, h4, fun hon => ?_, fun hon => ?_⟩
          · simp [hon, ite_min] at h5
            omega
          · simp [hon] at h5
            exact (hs hon).1 h5
      refine ⟨fun h5 => ?_, fun h5 => ⟨true, key2 _ _ hF3 fun hon => ?_⟩⟩
      · refine RetM.use (still_C p hp w3 hl3) fun v w4 hF4 hR => ?_
        subst hR
        refine ⟨_, rfl, _, rfl, hF4.stp0 _ _, key2 _ _ (hF3.trans hF4) fun hon => ?_⟩
        rw [decide_eq_true_eq]
        obtain ⟨_, _, s3, s4, s5, s6, s7, s8⟩ := h4
        have := hp.est; have := hp.room; have := hp.credit; have := hp.done; have := hp.made
        constructor
        · rintro ⟨a, b⟩
          exact ⟨by omega, by omega, by omega, by omega, by omega, b⟩
        · rintro ⟨a1, a2, a3, a4, a5, b⟩
          exact ⟨by omega, b⟩
      · simp [hon] at h5
  refine ⟨fun h1 => ?_, fun h1 => ⟨false, ?_⟩⟩
  · refine RetM.use (bounded_C p hp (by omega) w2 hl2) fun v w3 hF3 hR => ?_
    subst hR
    refine ⟨_, rfl, _, rfl, hF3.stp0 _ _, key _ _ (hF.trans hF3) (fun hb => ?_) (fun hb => ?_)⟩
    · simp at h1 hb
      exact ⟨⟨by omega, by omega⟩, by omega, hb⟩
    · simp at h1 hb
      exact fun h => hb h.2.2
  · refine key _ _ hF (fun hb => by cases hb) (fun _ => ?_)
    simp at h1
    omega

theorem intT : IntT Try.prog 23 22 .u64 8 := ⟨by kernel_rfl, by kernel_rfl⟩

theorem rcheck_C (p : Pc) (hp : p.Typed) {A : Option Addr} {c : Nat} (w : World) (hl : Ints .u64 w A p.debts.length p.debts) :
    Ret Try.prog 18 #[p.val A p.debts.length c] w fun v _ => v = .int .i64 p.check := by
  refine besomref21_Check_W _ _ _ _ _ _ _ _ _ _ _ _ w _ ?_
  intro k0 _ _
  refine ⟨fun h w1 hc hF => ?_, fun h w2 hc hF hlt => ?_⟩
  · rw [Pc.check_wrong]
    rintro ⟨⟨h1, h2⟩, h3, h4, ⟨h5, h6, _⟩, _⟩
    simp at h
    omega
  simp only [Bool.or_eq_false_iff, decide_eq_false_iff_not] at h
  refine semUpon_build intT [p.est, p.room, p.credit, p.done, p.made] rfl rfl (by decide) fun w5 hF5 hr5 hs5 => ?_
  refine ⟨_, _, _, rfl, hF5.stp0 _ _, fun hF5' hlt5 => ?_⟩
  have hl5 := hl.kept hF5'.keep (fun _ _ h => h)
  refine semUpon_append intT 0 hr5 (Nat.zero_le _) (Nat.zero_le _) hl5 (by omega) (by have := hp.len; unfold maxLen at *; omega) fun A' c' w11 hF11 hr11 _ => ?_
  refine ⟨_, _, _, rfl, hF11.stp0 _ _, fun hF11' => ?_⟩
  intro J hJ
  generalize hall : [p.est, p.room, p.credit, p.done, p.made] ++ p.debts = all at hr11
  have hlen : all.length = 5 + p.debts.length := by rw [← hall]; simp; omega
  have hi11 := hr11.ints
  refine ⟨fun vs w' => ∃ i : Nat, vs = [.int .i64 i] ∧ i ≤ all.length ∧ Ints .u64 w' A' (5 + p.debts.length) all ∧ ∀ j x, j < i → all[j]? = some x → x ≤ 1099511627776 ∧ (p.on = false → x ≤ 0), fun vs _ => match vs with | [.int _ i] => all.length - i.toNat | _ => 0, ⟨0, rfl, Nat.zero_le _, hi11, fun j x hj => absurd hj (Nat.not_lt_zero _)⟩, ?_⟩
  rintro m w20 hF20 ⟨i, hm, hi, hl20, hno⟩
  obtain rfl : m = i := by simpa using hm
  refine ⟨fun h1 => ?_, fun h1 => hJ w20 hF20 ⟨fun h2 => ?_, fun h2 => ?_⟩⟩
  · have h1 := of_decide_eq_true h1
    have hin : i < all.length := by omega
    refine ⟨⟨by omega, by omega, hr11.isSome⟩, all[i], by simpa using hl20.cell (List.getElem?_eq_getElem hin), fun h2 => ?_, fun h2 => ?_⟩
    · rw [Pc.check_wrong]
      rintro ⟨_, _, _, ⟨_, _, s3, s4, s5, s6, s7, s8⟩, _, h7⟩
      have hmem : ∀ d ∈ all, d ≤ 1099511627776 ∧ (p.on = false → d = 0) := by
        subst hall
        intro d hd
        simp only [List.cons_append, List.nil_append, List.mem_cons] at hd
        refine ⟨?_, fun hon => ?_⟩
        · rcases hd with rfl | rfl | rfl | rfl | rfl | hd
          · exact s3
          · exact s4
          · exact s5
          · exact s6
          · exact s7
          · exact s8 d hd
        · obtain ⟨u3, u4, u5, u6, u7, u8⟩ := h7 hon
          rcases hd with rfl | rfl | rfl | rfl | rfl | hd
          · exact u3
          · exact u4
          · exact u5
          · exact u6
          · exact u7
          · exact u8 d hd
      have hx := hmem _ (List.getElem_mem hin)
      cases hon : p.on with
      | true =>
        simp [hon] at h2
        omega
      | false =>
        have := hx.2 hon
        simp [hon] at h2
        omega
    · rw [wrap_succ hin (by have := hp.len; unfold maxLen at *; omega)]
      refine ⟨⟨i + 1, rfl, by omega, hl20, fun j x hj hx => ?_⟩, ?_⟩
      · by_cases hji : j = i
        · subst hji
          rw [List.getElem?_eq_getElem hin] at hx
          obtain rfl := Option.some.inj hx
          simp only [Bool.or_eq_false_iff, decide_eq_false_iff_not, Bool.and_eq_false_iff, Bool.not_eq_false'] at h2
          refine ⟨by omega, fun hon => ?_⟩
          rcases h2.2 with h3 | h3
          · rw [hon] at h3; cases h3
          · omega
        · exact hno j x (by omega) hx
      · show all.length - (((i + 1 : Nat) : Int)).toNat < all.length - ((i : Nat) : Int).toNat
        omega
  · rw [Pc.check_wrong]
    rintro ⟨_, _, _, _, h6, _⟩
    cases hon : p.on with
    | false => simp [hon] at h2
    | true =>
      have := h6 hon
      simp [hon] at h2
      omega
  · have h1 := of_decide_eq_false h1
    obtain rfl : i = all.length := by omega
    have hall2 : ∀ d ∈ all, d ≤ 1099511627776 ∧ (p.on = false → d ≤ 0) := fun d hd => by
      obtain ⟨j, hj, rfl⟩ := List.getElem_of_mem hd
      exact hno j _ hj (List.getElem?_eq_getElem hj)
    subst hall
    have g1 := hall2 p.est (by simp)
    have g2 := hall2 p.room (by simp)
    have g3 := hall2 p.credit (by simp)
    have g4 := hall2 p.done (by simp)
    have g5 := hall2 p.made (by simp)
    have g6 : ∀ d ∈ p.debts, d ≤ 1099511627776 ∧ (p.on = false → d ≤ 0) := fun d hd => hall2 d (by simp [hd])
    have := hp.est; have := hp.room; have := hp.credit; have := hp.done; have := hp.made
    rw [Pc.check_right]
    refine ⟨by omega, by omega, by omega, ⟨by omega, by omega, by omega, by omega, by omega, by omega, by omega, fun d hd => (g6 d hd).1⟩, fun hon => ?_, fun hon => ?_⟩
    · simp [hon] at h2
      omega
    · have h1 := g1.2 hon; have h2 := g2.2 hon; have h3 := g3.2 hon; have h4 := g4.2 hon; have h5 := g5.2 hon
      refine ⟨by omega, by omega, by omega, by omega, by omega, fun d hd => ?_⟩
      have := (g6 d hd).2 hon
      have := (hp.debts d hd).1
      omega

end Go.Proofs.Ytfpmimnbocflpaa
