/- Contracts: goals, what is due, what is made, and whether two are one. -/
import Derived.Test.YtfpmimnbocflpaaC3
namespace Go.Proofs.Ytfpmimnbocflpaa
open Go Go.Cw
set_option linter.unusedVariables false

/-- Nothing. -/
abbrev Pc.zero : Pc := ⟨0, 0, 0, false, 0, 0, 0, 0, 0, []⟩

/-- Debts in memory that nobody had before. -/
def Mine (N : Nat) (w : World) (A : Option Addr) (l : List Int) : Prop := (l = [] ∧ A = none) ∨ (Row .u64 22 w A l.length l ∧ New N A)

theorem Mine.ints {N : Nat} {w : World} {A : Option Addr} {l : List Int} (h : Mine N w A l) : Ints .u64 w A l.length l := by
  rcases h with ⟨rfl, rfl⟩ | ⟨h, _⟩
  · exact ⟨rfl, fun h => absurd h (Nat.lt_irrefl _)⟩
  · exact h.ints

theorem Mine.kept {N : Nat} {w w' : World} {A : Option Addr} {l : List Int} {B : Nat → Prop} (h : Mine N w A l) (hk : Keep B w w') (hb : ∀ p, A = some p → ¬ B p.block) : Mine N w' A l := by
  rcases h with h | ⟨h, h'⟩
  · exact .inl h
  · exact .inr ⟨h.kept hk hb, h'⟩

theorem Mine.mono {N N' : Nat} {w : World} {A : Option Addr} {l : List Int} (h : Mine N w A l) (hn : N' ≤ N) : Mine N' w A l := by
  rcases h with h | ⟨h, h'⟩
  · exact .inl h
  · exact .inr ⟨h, fun q hq => Nat.le_trans hn (h' q hq)⟩

/-- Its goal and its trigger. -/
def Pc.goals (p : Pc) : Int × Int × Int := if p.Right then (p.goal, p.trigger, 0) else (0, 0, 2)

theorem Goal_C (p : Pc) (hp : p.Typed) {A : Option Addr} {c : Nat} (w : World) (hl : Ints .u64 w A p.debts.length p.debts) :
    Ret Try.prog 9 #[p.val A p.debts.length c] w fun v _ => v = .tuple #[.int .u64 p.goals.1, .int .u64 p.goals.2.1, .int .i64 p.goals.2.2] := by
  refine pace_Goal_W _ _ _ _ _ _ _ _ _ _ _ _ w _ ?_
  intro k0 hk0 _ w1 hc1 hF1 hlt1
  have hl1 := hl.kept hF1.keep (fun _ _ h => h)
  refine RetM.use (open_C p hp w1 hl1) fun v w4 hF4 hR => ?_
  unfold Pc.goals
  rcases hR with ⟨hr, rfl⟩ | ⟨hr, k, A', c', rfl, hk, hbox, hrow, hN, hne⟩
  · refine ⟨_, rfl, _, _, rfl, hF4.stp0 _ _, fun hF4' => ⟨fun h => ?_, fun h => (by cases h)⟩⟩
    rw [if_neg hr]
  · refine ⟨_, rfl, _, _, rfl, hF4.stp0 _ _, fun hF4' => ⟨fun h => (by cases h), fun h hlt4 => ?_⟩⟩
    refine RetM.use (goal_C p hp hr w4 hbox) fun v w10 hF10 hR => ?_
    subst hR
    refine ⟨_, rfl, _, rfl, hF10.stp0 _ _, fun hF10' hlt10 => ?_⟩
    refine RetM.use (trigger_C p hp hr w10 (hbox.kept hF10.keep (fun h => h))) fun v w15 hF15 hR => ?_
    subst hR
    refine ⟨_, rfl, _, rfl, hF15.stp0 _ _, fun hF15' => ?_⟩
    rw [if_pos hr]

theorem trigger_wrap {p : Pc} (hp : p.Typed) (hr : p.Right) : IntKind.wrap .u64 (p.live + IntKind.wrap .u64 (Int.tdiv (IntKind.wrap .u64 (IntKind.wrap .u64 (p.goal - p.live) * 7)) 10)) = p.trigger := by
  have hg := goal_le hp hr
  have hl := hp.live
  rw [wrap_u64_of (x := p.goal - p.live) (by omega) (by omega), wrap_u64_of (x := (p.goal - p.live) * 7) (by omega) (by omega), tdiv_pos (by omega), wrap_u64_of (x := (p.goal - p.live) * 7 / 10) (by omega) (by omega), wrap_u64_of (by omega) (by omega)]
  rfl

theorem rGoal_C (p : Pc) (hp : p.Typed) {A : Option Addr} {c : Nat} (w : World) (hl : Ints .u64 w A p.debts.length p.debts) :
    Ret Try.prog 10 #[p.val A p.debts.length c] w fun v _ => v = .tuple #[.int .u64 p.goals.1, .int .u64 p.goals.2.1, .int .i64 p.goals.2.2] := by
  refine besomref21_Goal_W _ _ _ _ _ _ _ _ _ _ _ _ w _ ?_
  intro k0 hk0 _ w1 hc1 hF1 hlt1
  have hl1 := hl.kept hF1.keep (fun _ _ h => h)
  refine RetM.use (rcheck_C p hp w1 hl1) fun v w4 hF4 hR => ?_
  subst hR
  unfold Pc.goals
  refine ⟨_, rfl, _, rfl, hF4.stp0 _ _, fun hF4' => ⟨fun h => ?_, fun h hlt4 => ?_⟩⟩
  · by_cases hr : p.Right
    · rw [Pc.check_right hr] at h; cases h
    · rw [if_neg hr]
  · by_cases hr : p.Right
    · refine RetM.use (rgoal_C p hp hr w4) fun v w9 hF9 hR => ?_
      subst hR
      refine ⟨_, rfl, _, rfl, hF9.stp0 _ _, fun hF9' w12 hc12 hF12 => ?_⟩
      rw [if_pos hr, trigger_wrap hp hr]
    · rw [Pc.check_wrong hr] at h; cases h

/-- Whether a collection is due. -/
def Pc.due (p : Pc) (heap : Int) : Bool × Int := if p.Right then (!p.on && decide (heap ≥ p.trigger), 0) else (false, 2)

theorem Due_C (p : Pc) (hp : p.Typed) {A : Option Addr} {c : Nat} (x : Int) (w : World) (hl : Ints .u64 w A p.debts.length p.debts) :
    Ret Try.prog 11 #[p.val A p.debts.length c, .int .u64 x] w fun v _ => v = .tuple #[.bool (p.due x).1, .int .i64 (p.due x).2] := by
  refine pace_Due_W _ _ _ _ _ _ _ _ _ _ _ _ _ w _ ?_
  intro k0 hk0 _ w1 hc1 hF1 hlt1
  have hl1 := hl.kept hF1.keep (fun _ _ h => h)
  refine RetM.use (open_C p hp w1 hl1) fun v w4 hF4 hR => ?_
  unfold Pc.due
  rcases hR with ⟨hr, rfl⟩ | ⟨hr, k, A', c', rfl, hk, hbox, hrow, hN, hne⟩
  · refine ⟨_, rfl, _, _, rfl, hF4.stp0 _ _, fun hF4' => ⟨fun h => ?_, fun h => (by cases h)⟩⟩
    rw [if_neg hr]
  · refine ⟨_, rfl, _, _, rfl, hF4.stp0 _ _, fun hF4' => ⟨fun h => (by cases h), fun h => ⟨rfl, p.on, hbox.cell1 rfl, fun hlt4 J hJ => ⟨fun h1 => ?_, fun h1 => ⟨0, hJ _ _ hF4' ?_⟩⟩⟩⟩⟩
    · refine RetM.use (trigger_C p hp hr w4 hbox) fun v w5 hF5 hR => ?_
      subst hR
      refine ⟨_, rfl, _, rfl, hF5.stp0 _ _, hJ _ _ (hF4'.trans hF5) ?_⟩
      rw [if_pos hr]
    · rw [if_pos hr]
      cases hon : p.on with
      | true => simp
      | false => simp [hon] at h1

theorem rDue_C (p : Pc) (hp : p.Typed) {A : Option Addr} {c : Nat} (x : Int) (w : World) (hl : Ints .u64 w A p.debts.length p.debts) :
    Ret Try.prog 12 #[p.val A p.debts.length c, .int .u64 x] w fun v _ => v = .tuple #[.bool (p.due x).1, .int .i64 (p.due x).2] := by
  refine besomref21_Due_W _ _ _ _ _ _ _ _ _ _ _ _ _ w _ ?_
  intro k0 hk0 _ w1 hc1 hF1 hlt1
  have hl1 := hl.kept hF1.keep (fun _ _ h => h)
  refine RetM.use (rGoal_C p hp w1 hl1) fun v w4 hF4 hR => ?_
  subst hR
  refine ⟨_, rfl, _, _, _, rfl, hF4.stp0 _ _, fun hF4' => ?_⟩
  unfold Pc.due Pc.goals
  by_cases hr : p.Right
  · simp only [if_pos hr]; simp
  · simp only [if_neg hr]; simp

/-- One that is made. -/
def Pc.made1 (percent least : Int) (n : Nat) : Pc := ⟨percent, least, 0, false, 0, 0, 0, 0, 0, List.replicate n 0⟩

def Pc.make (percent least n : Int) : Pc × Int :=
  if (1 ≤ n ∧ n ≤ 4) ∧ (Pc.made1 percent least n.toNat).Right then (Pc.made1 percent least n.toNat, 0) else (Pc.zero, 1)

theorem made_typed {a b : Int} {n : Nat} (ha : -9223372036854775808 ≤ a ∧ a < 9223372036854775808) (hb : 0 ≤ b ∧ b < 18446744073709551616) (hn : n ≤ 4) : (Pc.made1 a b n).Typed := by
  refine ⟨ha, hb, by simp [Pc.made1], by simp [Pc.made1], by simp [Pc.made1], by simp [Pc.made1], by simp [Pc.made1], by simp [Pc.made1], ?_, by simp [Pc.made1]; omega⟩
  intro d hd
  obtain ⟨_, rfl⟩ := List.mem_replicate.1 hd
  decide

theorem Make_C (a b n : Int) (ha : -9223372036854775808 ≤ a ∧ a < 9223372036854775808) (hb : 0 ≤ b ∧ b < 18446744073709551616) (w : World) :
    Ret Try.prog 13 #[.int .i64 a, .int .u64 b, .int .i64 n] w fun v w' => ∃ q e A' c', Pc.make a b n = (q, e) ∧ v = .tuple #[q.val A' q.debts.length c', .int .i64 e] ∧ Mine w.heap.size w' A' q.debts := by
  refine pace_Make_W a b n w _ ?_
  intro k0 hk0 _
  refine ⟨fun h w1 hc hF => ?_, fun h w2 hc hF hlt => ?_⟩
  · refine ⟨Pc.zero, 1, none, 0, if_neg ?_, rfl, .inl ⟨rfl, rfl⟩⟩
    rintro ⟨⟨h1, h2⟩, _⟩
    simp at h
    omega
  · have hn : 1 ≤ n ∧ n ≤ 4 := by simp at h; omega
    obtain ⟨m, rfl⟩ : ∃ m : Nat, n = (m : Int) := ⟨n.toNat, by omega⟩
    have hm : m ≤ 4 := by omega
    have hs := hF.size
    refine semUpon_make intT (by omega) (by unfold maxLen; omega) (by omega) fun w5 hF5 hr5 hs5 => ?_
    refine ⟨_, _, _, rfl, hF5.stp0 _ _, fun hF5' k9 hk9 hk w10 hc10 hF10 hlt10 => ?_⟩
    have hlt0 := hlt k0 (by simp)
    have hno : ∀ q : Addr, some (⟨w2.heap.size, 0, none⟩ : Addr) = some q → q.block ∉ [k0, k9] := by
      rintro q hq hmem
      cases hq
      simp at hmem
      omega
    have hr10 := hr5.kept hc10.keep hno
    have hlen : (Pc.made1 a b m).debts.length = m := by simp [Pc.made1]
    have hi10 : Ints .u64 w10 (some ⟨w2.heap.size, 0, none⟩) (Pc.made1 a b m).debts.length (Pc.made1 a b m).debts := by rw [hlen]; exact hr10.ints
    have hck := check_C (c := m) (Pc.made1 a b m) (made_typed ha hb hm) w10 hi10
    rw [hlen] at hck
    refine RetM.use hck fun v w13 hF13 hR => ?_
    subst hR
    have hr13 := hr10.kept hF13.keep (fun _ _ h => h)
    refine ⟨_, rfl, _, rfl, hF13.stp0 _ _, fun hF13' => ⟨fun h w16 hc16 hF16 => ?_, fun h w17 hc17 hF17 => ?_⟩⟩
    · refine ⟨Pc.zero, 1, none, 0, if_neg ?_, rfl, .inl ⟨rfl, rfl⟩⟩
      rintro ⟨_, hr⟩
      rw [Int.toNat_natCast] at hr
      rw [Pc.check_right hr] at h
      cases h
    · refine ⟨Pc.made1 a b m, 0, some ⟨w2.heap.size, 0, none⟩, m, ?_, by rw [hlen]; rfl, .inr ⟨?_, ?_⟩⟩
      · refine if_pos ⟨hn, ?_⟩
        rw [Int.toNat_natCast]
        by_cases hr : (Pc.made1 a b m).Right
        · exact hr
        · rw [Pc.check_wrong hr] at h; cases h
      · rw [hlen]
        exact hr13.kept hc17.keep hno
      · intro q hq
        cases hq
        exact hs

theorem rMake_C (a b n : Int) (ha : -9223372036854775808 ≤ a ∧ a < 9223372036854775808) (hb : 0 ≤ b ∧ b < 18446744073709551616) (w : World) :
    Ret Try.prog 14 #[.int .i64 a, .int .u64 b, .int .i64 n] w fun v w' => ∃ q e A' c', Pc.make a b n = (q, e) ∧ v = .tuple #[q.val A' q.debts.length c', .int .i64 e] ∧ Mine w.heap.size w' A' q.debts := by
  refine besomref21_Make_W a b n w _ ?_
  intro k0 hk0 _
  refine ⟨fun h w1 hc hF => ?_, fun h w2 hc hF hlt => ?_⟩
  · refine ⟨Pc.zero, 1, none, 0, if_neg ?_, rfl, .inl ⟨rfl, rfl⟩⟩
    rintro ⟨⟨h1, h2⟩, _⟩
    simp at h
    omega
  · have hn : 1 ≤ n ∧ n ≤ 4 := by simp at h; omega
    obtain ⟨m, rfl⟩ : ∃ m : Nat, n = (m : Int) := ⟨n.toNat, by omega⟩
    have hm : m ≤ 4 := by omega
    have hs := hF.size
    refine semUpon_make intT (by omega) (by unfold maxLen; omega) (by omega) fun w5 hF5 hr5 hs5 => ?_
    refine ⟨_, _, _, rfl, hF5.stp0 _ _, fun hF5' k9 hk9 hk w10 hc10 hF10 hlt10 => ?_⟩
    have hlt0 := hlt k0 (by simp)
    have hno : ∀ q : Addr, some (⟨w2.heap.size, 0, none⟩ : Addr) = some q → q.block ∉ [k0, k9] := by
      rintro q hq hmem
      cases hq
      simp at hmem
      omega
    have hr10 := hr5.kept hc10.keep hno
    have hlen : (Pc.made1 a b m).debts.length = m := by simp [Pc.made1]
    have hi10 : Ints .u64 w10 (some ⟨w2.heap.size, 0, none⟩) (Pc.made1 a b m).debts.length (Pc.made1 a b m).debts := by rw [hlen]; exact hr10.ints
    have hck := rcheck_C (c := m) (Pc.made1 a b m) (made_typed ha hb hm) w10 hi10
    rw [hlen] at hck
    refine RetM.use hck fun v w13 hF13 hR => ?_
    subst hR
    have hr13 := hr10.kept hF13.keep (fun _ _ h => h)
    refine ⟨_, rfl, _, rfl, hF13.stp0 _ _, fun hF13' => ⟨fun h w16 hc16 hF16 => ?_, fun h w17 hc17 hF17 => ?_⟩⟩
    · refine ⟨Pc.zero, 1, none, 0, if_neg ?_, rfl, .inl ⟨rfl, rfl⟩⟩
      rintro ⟨_, hr⟩
      rw [Int.toNat_natCast] at hr
      rw [Pc.check_right hr] at h
      cases h
    · refine ⟨Pc.made1 a b m, 0, some ⟨w2.heap.size, 0, none⟩, m, ?_, by rw [hlen]; rfl, .inr ⟨?_, ?_⟩⟩
      · refine if_pos ⟨hn, ?_⟩
        rw [Int.toNat_natCast]
        by_cases hr : (Pc.made1 a b m).Right
        · exact hr
        · rw [Pc.check_wrong hr] at h; cases h
      · rw [hlen]
        exact hr13.kept hc17.keep hno
      · intro q hq
        cases hq
        exact hs

end Go.Proofs.Ytfpmimnbocflpaa
