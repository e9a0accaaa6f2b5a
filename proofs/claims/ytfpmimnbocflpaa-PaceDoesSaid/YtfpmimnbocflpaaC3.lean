/- Contracts: copies; one at work; what is asked of it. -/
import Derived.Test.YtfpmimnbocflpaaC2
import Derived.Test.YtfpmimnbocflpaaW2
namespace Go.Proofs.Ytfpmimnbocflpaa
open Go Go.Cw
set_option linter.unusedVariables false

/-- What is written as it was is as if it had not been written. -/
theorem own_back {g : Nat} {cs : List Value} {t : TypeId} {w w' : World} (h : Fr (· = g) w w') (hb : Box w g cs t) (hb' : Box w' g cs t) : Fr F0 w w' := by
  refine ⟨h.os, h.tape, h.output, h.size, fun k hk _ => ?_⟩
  by_cases hg : k = g
  · subst hg
    unfold Box at hb hb'
    rw [hb, hb']
  · exact h.block k hk hg

theorem RetM.own {P : Program} {g : Nat} {cs : List Value} {t : TypeId} {f : FuncId} {args : Array Value} {w : World} {R : Value → World → Prop} (hb : Box w g cs t) (h : RetM P (· = g) f args w fun v w' => Box w' g cs t ∧ R v w') : Ret P f args w R := by
  refine Calls.mono h ?_
  rintro e w' ⟨v, rfl, hf, hb', hr⟩
  exact ⟨v, rfl, own_back hf hb hb', hr⟩

theorem bytes_small {n : Nat} (h : n * 8 ≤ 140737488355328 - 4096) : (0 + n) * 8 ≤ 140737488355328 := by omega

theorem clone_C {l : List Int} {A : Option Addr} {n c : Nat} (w : World) (h0 : 0 < n) (hn : n * 8 ≤ 140737488355328 - 4096) (hl : Ints .u64 w A n l) :
    Ret Try.prog 41 #[.slice A n c] w fun v w' => ∃ A' c', v = .slice A' n c' ∧ Row .u64 22 w' A' n l ∧ New w.heap.size A' := by
  refine slices_Clone_suint64_uint64_W A n c w _ ⟨fun h => ?_, fun h => ?_⟩
  · simp [hl.isSome h0] at h
  · refine semUpon_build intT [] rfl rfl (by decide) fun w5 hF5 hr5 hs5 => ?_
    refine ⟨_, _, _, rfl, hF5.stp0 _ _, fun hF5' => ?_⟩
    have hl5 := hl.kept hF5'.keep (fun _ _ h => h)
    refine semUpon_append intT w.heap.size hr5 (Nat.le_refl _) (by omega) hl5 (bytes_small hn) (by unfold maxLen; omega) fun A' c' w11 hF11 hr11 hN => ?_
    simp only [Nat.zero_add, List.nil_append] at hr11 ⊢
    exact ⟨_, _, _, rfl, hF11.stp0 _ _, fun hF11' => ⟨_, _, rfl, hr11, hN⟩⟩

theorem copy_C (p : Pc) (hp : p.debts.length * 8 ≤ 140737488355328 - 4096) {A : Option Addr} {c : Nat} (w : World) (hl : Ints .u64 w A p.debts.length p.debts) :
    Ret Try.prog 19 #[p.val A p.debts.length c] w fun v w' => ∃ A' c', v = p.val A' p.debts.length c' ∧ Row .u64 22 w' A' p.debts.length p.debts ∧ New w.heap.size A' := by
  refine besomref21_Copy_W _ _ _ _ _ _ _ _ _ _ _ _ w _ ?_
  intro k0 hk0 _ k1 hk1 hk w2 hc2 hF2 hlt2
  have hs2 := hF2.size
  refine semUpon_build intT [] rfl rfl (by decide) fun w5 hF5 hr5 hs5 => ?_
  refine ⟨_, _, _, rfl, hF5.stp0 _ _, fun hF5' hlt5 => ?_⟩
  have hl5 := hl.kept hF5'.keep (fun _ _ h => h)
  refine semUpon_append intT w2.heap.size hr5 (Nat.le_refl _) (by omega) hl5 (bytes_small hp) (by unfold maxLen; omega) fun A' c' w11 hF11 hr11 hN => ?_
  simp only [Nat.zero_add, List.nil_append] at hr11 ⊢
  refine ⟨_, _, _, rfl, hF11.stp0 _ _, fun hF11' w15 hc15 hF15 => ⟨_, _, rfl, hr11.kept hc15.keep ?_, fun q hq => Nat.le_trans hs2 (hN q hq)⟩⟩
  intro q hq hmem
  have h1 := hN q hq
  have h2 := hlt2 _ hmem
  omega

theorem open_C (p : Pc) (hp : p.Typed) {A : Option Addr} {c : Nat} (w : World) (hl : Ints .u64 w A p.debts.length p.debts) :
    Ret Try.prog 28 #[p.val A p.debts.length c] w fun v w' =>
      (¬ p.Right ∧ v = .tuple #[.pointer none, .int .i64 2]) ∨
      (p.Right ∧ ∃ k A' c', v = .tuple #[.pointer (some ⟨k, 0, none⟩), .int .i64 0] ∧ w.heap.size ≤ k ∧ Box w' k (p.vals A' p.debts.length c') 56 ∧ Row .u64 22 w' A' p.debts.length p.debts ∧ New w.heap.size A' ∧ ∀ q, A' = some q → q.block ≠ k) := by
  refine pace_open_W _ _ _ _ _ _ _ _ _ _ _ _ w _ ?_
  intro k0 hk0 _ w1 hc1 hF1 hlt1
  have hl1 := hl.kept hF1.keep (fun _ _ h => h)
  refine RetM.use (check_C p hp w1 hl1) fun v w4 hF4 hR => ?_
  subst hR
  refine ⟨_, rfl, _, rfl, hF4.stp0 _ _, fun hF4' => ⟨fun h => ?_, fun h hlt4 => ?_⟩⟩
  · by_cases hr : p.Right
    · rw [Pc.check_right hr] at h; cases h
    · rw [Pc.check_wrong hr]
      exact .inl ⟨hr, rfl⟩
  · by_cases hr : p.Right
    · have hl4 := hl1.kept hF4.keep (fun _ _ h => h)
      refine RetM.use (clone_C w4 (by have := hr.1; omega) hp.length hl4) fun v w9 hF9 hR => ?_
      obtain ⟨A', c', rfl, hrow, hN⟩ := hR
      refine ⟨_, rfl, _, _, _, rfl, hF9.stp0 _ _, fun hF9' k14 hk14 hk w15 hc15 hF15 hbox => ?_⟩
      have := hF9'.size
      have := hF4'.size
      have hlt : ∀ q, A' = some q → q.block ≠ k14 := by
        rintro q rfl
        obtain ⟨_, b, r, hq, hB⟩ := hrow
        cases hq
        have := hB.lt
        show b ≠ k14
        omega
      refine .inr ⟨hr, k14, A', c', rfl, by omega, hbox, hrow.kept hc15.keep ?_, fun q hq => by have := hN q hq; omega, hlt⟩
      intro q hq hmem
      rcases List.mem_cons.1 hmem with h1 | h1
      · have := hN q hq
        have := hlt4 k0 (by simp)
        omega
      · exact hlt q hq (by simpa using h1)
    · rw [Pc.check_wrong hr] at h; cases h

/-- What a right one's numbers are. -/
theorem goal_wrap {a b : Int} (ha : 0 ≤ a) (ha' : a ≤ 1099511627776) (hb : 1 ≤ b) (hb' : b ≤ 10000) : IntKind.wrap .u64 (a + IntKind.wrap .u64 (Int.tdiv (IntKind.wrap .u64 (a * IntKind.wrap .u64 b)) 100)) = a + a * b / 100 := by
  have h1 : a * b ≤ 1099511627776 * 10000 := Int.mul_le_mul ha' hb' (by omega) (by omega)
  have h0 : 0 ≤ a * b := Int.mul_nonneg ha (by omega)
  rw [wrap_u64_of (x := b) (by omega) (by omega), wrap_u64_of (x := a * b) h0 (by omega), tdiv_pos h0, wrap_u64_of (x := a * b / 100) (by omega) (by omega), wrap_u64_of (by omega) (by omega)]

theorem goal_C (p : Pc) (hp : p.Typed) (hr : p.Right) {A : Option Addr} {n c g : Nat} (w : World) (hb : Box w g (p.vals A n c) 56) :
    Ret Try.prog 29 #[.pointer (some ⟨g, 0, none⟩)] w fun v _ => v = .int .u64 p.goal := by
  refine RetM.own hb ?_
  refine pace_meter_goal_W _ g _ _ _ _ _ _ _ _ _ _ _ _ w _ hb rfl ?_
  intro w0 hc hF hb0
  refine ⟨hb0, ?_⟩
  obtain ⟨h1, ⟨h2, h3⟩, h4, ⟨s1, s2, _⟩, _⟩ := hr
  have := hp.live
  rw [goal_wrap (by omega) s2 h2 h3, ite_max, ite_min]
  unfold Pc.goal
  rw [Int.max_comm]

theorem goal_le {p : Pc} (hp : p.Typed) (hr : p.Right) : p.live ≤ p.goal ∧ p.goal ≤ 1099511627776 ∧ p.least ≤ p.goal := by
  obtain ⟨h1, ⟨h2, h3⟩, h4, ⟨s1, s2, _⟩, _⟩ := hr
  have hl := hp.live
  have h0 : 0 ≤ p.live * p.percent := Int.mul_nonneg hl.1 (by omega)
  unfold Pc.goal
  omega

theorem trigger_C (p : Pc) (hp : p.Typed) (hr : p.Right) {A : Option Addr} {n c g : Nat} (w : World) (hb : Box w g (p.vals A n c) 56) :
    Ret Try.prog 30 #[.pointer (some ⟨g, 0, none⟩)] w fun v _ => v = .int .u64 p.trigger := by
  refine RetM.own hb ?_
  refine pace_meter_trigger_W _ g _ _ _ _ _ _ _ _ _ _ _ _ w _ hb rfl ?_
  intro w0 hc hF hlt hb0
  refine RetM.use (goal_C p hp hr w0 hb0) fun v w3 hF3 hR => ?_
  subst hR
  refine ⟨_, rfl, _, rfl, hF3.stp0 _ _, fun hF3' hb3 => ⟨hb3, ?_⟩⟩
  have hg := goal_le hp hr
  have hl := hp.live
  rw [wrap_u64_of (x := p.goal - p.live) (by omega) (by omega), wrap_u64_of (x := (p.goal - p.live) * 7) (by omega) (by omega), tdiv_pos (by omega), wrap_u64_of (x := (p.goal - p.live) * 7 / 10) (by omega) (by omega), wrap_u64_of (by omega) (by omega)]
  rfl

/-- Why something may not happen. -/
def Pc.state (p : Pc) (on : Bool) (n : Int) : Int := if p.on ≠ on then 5 else if n > 1099511627776 then 1 else 0

theorem state_C (p : Pc) {A : Option Addr} {n c g : Nat} (on : Bool) (x : Int) (w : World) (hb : Box w g (p.vals A n c) 56) :
    Ret Try.prog 35 #[.pointer (some ⟨g, 0, none⟩), .bool on, .int .u64 x] w fun v _ => v = .int .i64 (p.state on x) := by
  refine RetM.own hb ?_
  refine pace_meter_state_W _ g _ _ _ _ _ _ _ _ _ _ _ _ _ _ w _ hb rfl ?_
  unfold Pc.state
  refine ⟨fun h _ => ⟨hb, ?_⟩, fun h => ⟨fun h1 _ => ⟨hb, ?_⟩, fun h1 _ => ⟨hb, ?_⟩⟩⟩
  · rw [if_pos (by simpa using h)]
  · rw [if_neg (by simpa using h), if_pos (of_decide_eq_true h1)]
  · rw [if_neg (by simpa using h), if_neg (of_decide_eq_false h1)]

/-- What so many words cost. -/
def Pc.owe (p : Pc) (words : Int) : Int := min 1099511627776 (words * p.est / p.room + if words * p.est % p.room > 0 then 1 else 0)

theorem owe_C (p : Pc) (hp : p.Typed) (hr : p.Right) (hon : p.on = true) {A : Option Addr} {n c g : Nat} (x : Int) (hx : 0 ≤ x) (hx' : x ≤ 1048576) (w : World) (hb : Box w g (p.vals A n c) 56) :
    Ret Try.prog 37 #[.pointer (some ⟨g, 0, none⟩), .int .u64 x] w fun v _ => v = .int .u64 (p.owe x) := by
  refine RetM.own hb ?_
  refine pace_meter_owe_W _ g _ _ _ _ _ _ _ _ _ _ _ _ _ w _ hb rfl ?_
  obtain ⟨h1, ⟨h2, h3⟩, h4, ⟨s1, s2, s3, s4, _⟩, h5, _⟩ := hr
  obtain ⟨e1, e2⟩ := h5 hon
  have m0 : 0 ≤ x * p.est := Int.mul_nonneg hx (by omega)
  have m1 : x * p.est ≤ 1048576 * 1099511627776 := Int.mul_le_mul hx' s3 (by omega) (by omega)
  have d0 : 0 ≤ x * p.est / p.room := Int.ediv_nonneg m0 (by omega)
  have d1 : x * p.est / p.room ≤ x * p.est := Int.ediv_le_self _ m0
  rw [wrap_u64_of m0 (by omega), tdiv_pos m0, tmod_pos m0, wrap_u64_of d0 (by omega), wrap_u64_of (x := x * p.est / p.room + 1) (by omega) (by omega)]
  refine ⟨by omega, by omega, fun J hJ => ⟨fun h => ?_, fun h => ?_⟩⟩
  · refine hJ _ _ (Fr.refl _ _) fun hb' => ⟨hb', ?_⟩
    unfold Pc.owe
    rw [if_pos (of_decide_eq_true h), ite_min]
  · refine hJ _ _ (Fr.refl _ _) fun hb' => ⟨hb', ?_⟩
    unfold Pc.owe
    rw [if_neg (of_decide_eq_false h), ite_min, Int.add_zero]

theorem rgoal_C (p : Pc) (hp : p.Typed) (hr : p.Right) {A : Option Addr} {n c : Nat} (w : World) :
    Ret Try.prog 31 #[p.val A n c] w fun v _ => v = .int .u64 p.goal := by
  refine besomref21_goal_W _ _ _ _ _ _ _ _ _ _ _ _ w _ ?_
  obtain ⟨h1, ⟨h2, h3⟩, h4, ⟨s1, s2, _⟩, _⟩ := hr
  have := hp.live
  rw [goal_wrap (by omega) s2 h2 h3]
  intro k0 _ _ J hJ
  have key : ∀ (m : Int) (w3 : World), Fr F0 w w3 → m = max p.least (p.live + p.live * p.percent / 100) → J [.int .u64 m] w3 := by
    intro m w3 hF3 hm
    refine hJ m w3 hF3 fun hlt => ?_
    refine RetM.use (least_C _ _ _) fun v w6 hF6 hR => ?_
    subst hR
    refine ⟨_, rfl, _, rfl, hF6.stp0 _ _, fun _ => ?_⟩
    rw [hm]
    rfl
  refine ⟨fun h w9 hc hF => key _ _ hF ?_, fun h w9 hc hF => key _ _ hF ?_⟩
  · have := of_decide_eq_true h
    omega
  · have := of_decide_eq_false h
    omega

end Go.Proofs.Ytfpmimnbocflpaa
