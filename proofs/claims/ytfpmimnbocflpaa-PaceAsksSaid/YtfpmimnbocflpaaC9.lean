/- Contracts: the document's answers. -/
import Derived.Test.YtfpmimnbocflpaaC8
namespace Go.Proofs.Ytfpmimnbocflpaa
open Go Go.Cw
set_option linter.unusedVariables false

theorem Mine.away {N : Nat} {w : World} {A : Option Addr} {l : List Int} {ids : List Nat} (h : Mine N w A l) (hids : ∀ k ∈ ids, k < N ∨ w.heap.size ≤ k) : ∀ q, A = some q → ¬ q.block ∈ ids := by
  rintro q rfl hm
  rcases h with ⟨_, h⟩ | ⟨h, hN⟩
  · cases h
  · have h1 := hN q rfl
    obtain ⟨_, b, r, hq, hB⟩ := h
    cases hq
    have h2 := hB.lt
    rcases hids _ hm with h3 | h3
    · exact absurd h3 (Nat.not_lt.2 h1)
    · exact absurd h2 (Nat.not_lt.2 h3)

theorem Make_R (a b n : Int) (ha : -9223372036854775808 ≤ a ∧ a < 9223372036854775808) (hb : 0 ≤ b ∧ b < 18446744073709551616) (w : World) :
    Ret Try.prog 13 #[.int .i64 a, .int .u64 b, .int .i64 n] w fun v w' => Res w.heap.size w' v (Pc.make a b n) := by
  refine (Make_C a b n ha hb w).mono ?_
  rintro v w' ⟨q, e, A, c, h1, h2, h3⟩
  rw [h1]
  exact ⟨A, c, h2, h3⟩

theorem rMake_R (a b n : Int) (ha : -9223372036854775808 ≤ a ∧ a < 9223372036854775808) (hb : 0 ≤ b ∧ b < 18446744073709551616) (w : World) :
    Ret Try.prog 14 #[.int .i64 a, .int .u64 b, .int .i64 n] w fun v w' => Res w.heap.size w' v (Pc.make a b n) := by
  refine (rMake_C a b n ha hb w).mono ?_
  rintro v w' ⟨q, e, A, c, h1, h2, h3⟩
  rw [h1]
  exact ⟨A, c, h2, h3⟩

def P1 : Pc := ⟨100, 10, 0, false, 0, 0, 0, 0, 0, [0, 0]⟩
def P2 : Pc := ⟨100, 10, 1000, false, 0, 0, 0, 0, 0, [0, 0]⟩
def P3 : Pc := ⟨100, 10, 1000, true, 1000, 300, 0, 0, 0, [0, 0]⟩
def P4 : Pc := ⟨100, 10, 1000, true, 1000, 300, 0, 0, 3, [0, 10]⟩
def P5 : Pc := ⟨100, 10, 1000, true, 1000, 300, 1, 11, 3, [0, 0]⟩
def P6 : Pc := ⟨100, 10, 5, false, 0, 0, 0, 0, 0, [0, 0]⟩

theorem e1 : Pc.make 100 10 2 = (P1, 0) := by kernel_rfl
theorem e2 : P2.goals = (2000, 1700, 0) := by kernel_rfl
theorem e3 : P2.due 1700 = (true, 0) := by kernel_rfl
theorem e4 : P2.begin 1700 = (P3, 0) := by kernel_rfl
theorem e5 : P3.alloc 1 3 = (P4, 10, 0) := by kernel_rfl
theorem e6 : P4.work 1 [4, 7] = (P5, 0) := by kernel_rfl
theorem e7 : P5.alloc 0 0 = (P5, 0, 0) := by kernel_rfl
theorem e8 : P5.end_ 5 = (P6, 0) := by kernel_rfl
theorem e9 : Pc.make 0 1 1 = (Pc.zero, 1) := by kernel_rfl
theorem e10 : P6.check = 0 := by kernel_rfl

theorem t2 : P2.Typed := ⟨by decide, by decide, by decide, by decide, by decide, by decide, by decide, by decide, by decide, by decide⟩
theorem t3 : P3.Typed := ⟨by decide, by decide, by decide, by decide, by decide, by decide, by decide, by decide, by decide, by decide⟩
theorem t4 : P4.Typed := ⟨by decide, by decide, by decide, by decide, by decide, by decide, by decide, by decide, by decide, by decide⟩
theorem t5 : P5.Typed := ⟨by decide, by decide, by decide, by decide, by decide, by decide, by decide, by decide, by decide, by decide⟩
theorem t6 : P6.Typed := ⟨by decide, by decide, by decide, by decide, by decide, by decide, by decide, by decide, by decide, by decide⟩

theorem lives_C (w : World) : Ret Try.prog 15 #[] w fun v _ => v = .bool true := by
  refine besomlaw21_lives_W w _ ?_
  refine RetM.use (Make_R 100 10 2 (by decide) (by decide) w) fun v w1 hF1 hR => ?_
  rw [e1] at hR
  obtain ⟨A12, c14, rfl, hM⟩ := hR
  refine ⟨_, rfl, _, _, _, _, _, _, _, _, _, _, _, _, _, rfl, hF1.stp0 _ _, fun hF1' k16 hk16 _ w17 hc17 hF17 hlt17 => ?_⟩
  have hi17 : Ints .u64 w17 A12 P2.debts.length P2.debts := hM.ints.kept hc17.keep (hM.away (by simp; omega))
  refine RetM.use (Goal_C P2 t2 w17 hi17) fun v w20 hF20 hR => ?_
  rw [e2] at hR
  subst hR
  have hi20 := hi17.kept hF20.keep (fun _ _ h => h)
  refine ⟨_, rfl, _, _, _, rfl, hF20.stp0 _ _, fun hF20' hlt20 => ?_⟩
  refine RetM.use (Due_C P2 t2 1700 w20 hi20) fun v w27 hF27 hR => ?_
  rw [e3] at hR
  subst hR
  have hi27 := hi20.kept hF27.keep (fun _ _ h => h)
  refine ⟨_, rfl, _, _, rfl, hF27.stp0 _ _, fun hF27' hlt27 => ?_⟩
  refine RetM.use (Begin_C P2 t2 1700 (by decide) w27 hi27) fun v w33 hF33 hR => ?_
  rw [e4] at hR
  obtain ⟨A44, c46, rfl, hM⟩ := hR
  refine ⟨_, rfl, _, _, _, _, _, _, _, _, _, _, _, _, _, rfl, hF33.stp0 _ _, fun hF33' w48 hc48 hF48 hlt48 => ?_⟩
  have hi48 : Ints .u64 w48 A44 P3.debts.length P3.debts := hM.ints.kept hc48.keep (hM.away (fun k hk => .inl (hlt27 k hk)))
  refine RetM.use (Alloc_C P3 t3 1 3 (by decide) w48 hi48) fun v w51 hF51 hR => ?_
  rw [e5] at hR
  obtain ⟨A62, c64, rfl, hM⟩ := hR
  refine ⟨_, rfl, _, _, _, _, _, _, _, _, _, _, _, _, _, _, rfl, hF51.stp0 _ _, fun hF51' k67 hk67 _ w68 hc68 hF68 hlt68 => ?_⟩
  have hk16 := hlt48 k16 (by simp)
  have hi68 : Ints .u64 w68 A62 P4.debts.length P4.debts := hM.ints.kept hc68.keep (hM.away (by simp; omega))
  refine semUpon_build intT [4, 7] rfl rfl (by decide) fun w71 hF71 hr71 hs71 => ?_
  have hi71 := hi68.kept hF71.keep (fun _ _ h => h)
  refine ⟨_, _, _, rfl, hF71.stp0 _ _, fun hF71' hlt71 => ?_⟩
  refine RetM.use (Work_C P4 t4 1 w71 hi71 ⟨hr71.ints, by decide, by decide⟩) fun v w77 hF77 hR => ?_
  rw [e6] at hR
  obtain ⟨A88, c90, rfl, hM⟩ := hR
  refine ⟨_, rfl, _, _, _, _, _, _, _, _, _, _, _, _, _, rfl, hF77.stp0 _ _, fun hF77' w92 hc92 hF92 hlt92 => ?_⟩
  have hi92 : Ints .u64 w92 A88 P5.debts.length P5.debts := hM.ints.kept hc92.keep (hM.away (fun k hk => .inl (hlt71 k hk)))
  refine RetM.use (Alloc_C P5 t5 0 0 (by decide) w92 hi92) fun v w95 hF95 hR => ?_
  rw [e7] at hR
  obtain ⟨A106, c108, rfl, hM⟩ := hR
  refine ⟨_, rfl, _, _, _, _, _, _, _, _, _, _, _, _, _, _, rfl, hF95.stp0 _ _, fun hF95' w111 hc111 hF111 hlt111 => ?_⟩
  have hi111 : Ints .u64 w111 A106 P5.debts.length P5.debts := hM.ints.kept hc111.keep (hM.away (fun k hk => .inl (hlt92 k hk)))
  refine RetM.use (End_C P5 t5 5 w111 hi111) fun v w114 hF114 hR => ?_
  rw [e8] at hR
  obtain ⟨A125, c127, rfl, hM⟩ := hR
  refine ⟨_, rfl, _, _, _, _, _, _, _, _, _, _, _, _, _, rfl, hF114.stp0 _ _, fun hF114' k129 hk129 _ w130 hc130 hF130 hlt130 => ?_⟩
  have hl16 := hlt111 k16 (by simp)
  have hl67 := hlt111 k67 (by simp)
  have hi130 : Ints .u64 w130 A125 P6.debts.length P6.debts := hM.ints.kept hc130.keep (hM.away (by simp; omega))
  have haw : ∀ q, A125 = some q → q.block < w130.heap.size := by
    intro q hq
    obtain ⟨p, hp, hc⟩ := hi130.2 (by decide)
    rw [hq] at hp
    cases hp
    have := cell_lt (hc 0 0 rfl)
    rwa [add_block] at this
  refine RetM.use (Make_R 0 1 1 (by decide) (by decide) w130) fun v w133 hF133 hR => ?_
  rw [e9] at hR
  obtain ⟨A144, c146, rfl, _⟩ := hR
  have hi133 := hi130.kept hF133.keep (fun _ _ h => h)
  refine ⟨_, rfl, _, _, _, _, _, _, _, _, _, _, _, _, _, rfl, hF133.stp0 _ _, fun hF133' k148 hk148 _ w149 hc149 hF149 hlt149 J151 hJ151 => ?_⟩
  have hi149 : Ints .u64 w149 A125 P6.debts.length P6.debts := hi133.kept hc149.keep (by
    intro q hq hm
    have h1 := hF133.size
    have h2 := haw q hq
    have h3 := hM.away (ids := [k16, k67, k129]) (by simp; omega) q hq
    simp only [List.mem_cons, List.not_mem_nil, or_false] at hm h3
    omega)
  refine ⟨fun h => ?_, fun h => (by cases h)⟩
  refine RetM.use (check_C P6 t6 w149 hi149) fun v w155 hF155 hR => ?_
  rw [e10] at hR
  subst hR
  exact ⟨_, rfl, _, rfl, hF155.stp0 _ _, hJ151 _ _ (hF149.trans hF155) rfl⟩

end Go.Proofs.Ytfpmimnbocflpaa
