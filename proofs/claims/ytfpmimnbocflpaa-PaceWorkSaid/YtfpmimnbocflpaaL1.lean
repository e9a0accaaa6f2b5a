/- Laws: what is asked of a pacer. -/
import Derived.Test.YtfpmimnbocflpaaC9
import Derived.Test.YtfpmimnbocflpaaW4
namespace Go.Proofs.Ytfpmimnbocflpaa
open Go Go.Cw
set_option linter.unusedVariables false

theorem new_away {N : Nat} {ids : List Nat} {w : World} {A : Option Addr} (h : New N A) (hids : ∀ k ∈ ids, k < N) : ∀ q, A = some q → ¬ q.block ∈ ids := fun q hq hm => by
  have := h q hq
  have := hids _ hm
  omega

theorem PaceAsks_C (p : Pc) (hp : p.Typed) {A : Option Addr} {c : Nat} (x a b n : Int) (hx : 0 ≤ x ∧ x < 18446744073709551616) (ha : -9223372036854775808 ≤ a ∧ a < 9223372036854775808) (hb : 0 ≤ b ∧ b < 18446744073709551616)
    (w : World) (hl : Ints .u64 w A p.debts.length p.debts) :
    Ret Try.prog 3 #[p.val A p.debts.length c, .int .u64 x, .int .i64 a, .int .u64 b, .int .i64 n] w fun v _ => v = .bool true := by
  refine besomlaw21_PaceAsks_W _ _ _ _ _ _ _ _ _ _ _ _ _ _ _ _ w _ ?_
  intro k0 hk0 _ w1 hc1 hF1 hlt1
  have hl1 := hl.kept hF1.keep (fun _ _ h => h)
  refine RetM.use (Goal_C p hp w1 hl1) fun v w4 hF4 hR => ?_
  subst hR
  refine ⟨_, rfl, _, _, _, rfl, hF4.stp0 _ _, fun hF4' hlt4 => ?_⟩
  have hl4 := hl1.kept hF4.keep (fun _ _ h => h)
  refine RetM.use (rGoal_C p hp w4 hl4) fun v w11 hF11 hR => ?_
  subst hR
  refine ⟨_, rfl, _, _, _, rfl, hF11.stp0 _ _, fun hF11' hlt11 => ?_⟩
  have hl11 := hl4.kept hF11.keep (fun _ _ h => h)
  refine RetM.use (Due_C p hp x w11 hl11) fun v w18 hF18 hR => ?_
  subst hR
  refine ⟨_, rfl, _, _, rfl, hF18.stp0 _ _, fun hF18' hlt18 => ?_⟩
  have hl18 := hl11.kept hF18.keep (fun _ _ h => h)
  refine RetM.use (rDue_C p hp x w18 hl18) fun v w24 hF24 hR => ?_
  subst hR
  refine ⟨_, rfl, _, _, rfl, hF24.stp0 _ _, fun hF24' hlt24 => ?_⟩
  have hl24 := hl18.kept hF24.keep (fun _ _ h => h)
  refine RetM.use (Make_R a b n ha hb w24) fun v w30 hF30 hR => ?_
  generalize hm : Pc.make a b n = m at hR
  obtain ⟨A41, c43, rfl, hM⟩ := hR
  have hl30 := hl24.kept hF30.keep (fun _ _ h => h)
  refine ⟨_, rfl, _, _, _, _, _, _, _, _, _, _, _, _, _, rfl, hF30.stp0 _ _, fun hF30' k45 hk45 _ w46 hc46 hF46 hlt46 => ?_⟩
  have hk0 := hlt24 k0 (by simp)
  have hi46 : Ints .u64 w46 A41 m.1.debts.length m.1.debts := hM.ints.kept hc46.keep (hM.away (by simp; omega))
  have hbelow : ∀ q, A41 = some q → m.1.debts ≠ [] → q.block < w46.heap.size := by
    rintro q rfl hne
    rcases hM with ⟨h, _⟩ | ⟨⟨_, b, r, hq, hB⟩, _⟩
    · exact absurd h hne
    · cases hq
      exact Nat.lt_of_lt_of_le hB.lt hc46.size
  refine RetM.use (rMake_R a b n ha hb w46) fun v w49 hF49 hR => ?_
  rw [hm] at hR
  obtain ⟨A60, c62, rfl, hM2⟩ := hR
  refine ⟨_, rfl, _, _, _, _, _, _, _, _, _, _, _, _, _, rfl, hF49.stp0 _ _, fun hF49' k64 hk64 _ w65 hc65 hF65 hlt65 => ?_⟩
  have hk0 := hlt46 k0 (by simp)
  have hk45' := hlt46 k45 (by simp)
  have hi65 : Ints .u64 w65 A60 m.1.debts.length m.1.debts := hM2.ints.kept hc65.keep (hM2.away (by simp; omega))
  have hi49 := hi46.kept hF49.keep (fun _ _ h => h)
  have hj65 : Ints .u64 w65 A41 m.1.debts.length m.1.debts := by
    by_cases hne : m.1.debts = []
    · rw [hne]
      exact ⟨rfl, fun h => absurd h (Nat.lt_irrefl _)⟩
    · refine hi49.kept hc65.keep fun q hq hm => ?_
      have h1 := hbelow q hq hne
      have h2 := hF49.size
      have h3 := hM.away (ids := [k0, k45]) (by simp; omega) q hq
      simp only [List.mem_cons, List.not_mem_nil, or_false] at hm h3
      omega
  have hl65 := hl.kept hF65.keep (fun _ _ h => h)
  refine RetM.use (lives_C w65) fun v w68 hF68 hR => ?_
  subst hR
  have hl68 := hl65.kept hF68.keep (fun _ _ h => h)
  have hi68 := hi65.kept hF68.keep (fun _ _ h => h)
  have hj68 := hj65.kept hF68.keep (fun _ _ h => h)
  have hmt : m.1.debts.length ≤ maxLen := by
    rw [← hm]
    unfold Pc.make maxLen
    split
    · simp [Pc.made1]; omega
    · simp
  refine ⟨_, rfl, _, rfl, hF68.stp0 _ _, fun hF68' hlt68 J72 hJ72 => ⟨fun _ => ?_, fun h => by simp at h⟩⟩
  refine RetM.use (Same_C m.1 m.1 w68 hmt hj68 hi68) fun v w94 hF94 hR => ?_
  subst hR
  have hl94 := hl68.kept hF94.keep (fun _ _ h => h)
  rw [Pc.same_iff.2 rfl]
  refine ⟨_, rfl, _, rfl, hF94.stp0 _ _, hJ72 _ _ (hF68'.trans hF94) fun hlt94 J76 hJ76 => ⟨fun _ => ?_, fun h => by simp at h⟩⟩
  refine RetM.use (check_C p hp w94 hl94) fun v w89 hF89 hR => ?_
  subst hR
  have hl89 := hl94.kept hF89.keep (fun _ _ h => h)
  refine ⟨_, rfl, _, rfl, hF89.stp0 _ _, hJ76 _ _ ((hF68'.trans hF94).trans hF89) fun hlt89 J80 hJ80 => ⟨fun _ => ?_, fun h => by simp at h⟩⟩
  refine RetM.use (rcheck_C p hp w89 hl89) fun v w84 hF84 hR => ?_
  subst hR
  refine ⟨_, rfl, _, rfl, hF84.stp0 _ _, hJ80 _ _ (((hF68'.trans hF94).trans hF89).trans hF84) ?_⟩
  simp

theorem trigger_le {p : Pc} (hp : p.Typed) (hr : p.Right) : p.live ≤ p.trigger ∧ p.trigger ≤ p.goal := by
  have := goal_le hp hr
  unfold Pc.trigger
  omega

theorem PaceOrder_C (p : Pc) (hp : p.Typed) {A : Option Addr} {c : Nat} (x : Int) (hx : 0 ≤ x ∧ x < 18446744073709551616) (w : World) (hl : Ints .u64 w A p.debts.length p.debts) :
    Ret Try.prog 5 #[p.val A p.debts.length c, .int .u64 x] w fun v _ => v = .bool true := by
  refine besomlaw21_PaceOrder_W _ _ _ _ _ _ _ _ _ _ _ _ _ w _ ?_
  intro k0 hk0 _ w1 hc1 hF1 hlt1
  refine RetM.use (lives_C w1) fun v w4 hF4 hR => ?_
  subst hR
  refine ⟨_, rfl, _, rfl, hF4.stp0 _ _, fun hF4' => ⟨fun h => (by cases h), fun _ hlt4 => ?_⟩⟩
  have hl4 := hl.kept hF4'.keep (fun _ _ h => h)
  refine RetM.use (Goal_C p hp w4 hl4) fun v w9 hF9 hR => ?_
  subst hR
  have hl9 := hl4.kept hF9.keep (fun _ _ h => h)
  refine ⟨_, rfl, _, _, _, rfl, hF9.stp0 _ _, fun hF9' => ⟨fun h => ?_, fun h hlt9 => ?_⟩⟩
  · unfold Pc.goals at h ⊢
    by_cases hr : p.Right
    · rw [if_pos hr] at h; cases h
    · rw [if_neg hr]; rfl
  · have hr : p.Right := by
      by_cases hr : p.Right
      · exact hr
      · unfold Pc.goals at h
        rw [if_neg hr] at h; cases h
    have ht := trigger_le hp hr
    have hg := goal_le hp hr
    refine RetM.use (Due_C p hp x w9 hl9) fun v w16 hF16 hR => ?_
    subst hR
    have hl16 := hl9.kept hF16.keep (fun _ _ h => h)
    refine ⟨_, rfl, _, _, rfl, hF16.stp0 _ _, fun hF16' hlt16 => ?_⟩
    refine RetM.use (Due_C p hp _ w16 hl16) fun v w22 hF22 hR => ?_
    subst hR
    refine ⟨_, rfl, _, _, rfl, hF22.stp0 _ _, fun hF22' => ?_⟩
    unfold Pc.due Pc.goals
    simp only [if_pos hr]
    have h1 : decide (p.trigger ≤ p.goal) = true := decide_eq_true ht.2
    have h2 : decide (p.trigger ≥ p.live) = true := decide_eq_true ht.1
    have h3 : decide (p.goal ≥ p.least) = true := decide_eq_true hg.2.2
    have h4 : decide (p.goal ≥ p.trigger) = true := decide_eq_true ht.2
    rw [h1, h2, h3]
    cases p.on <;> cases decide (x ≥ p.trigger) <;> rfl

end Go.Proofs.Ytfpmimnbocflpaa
