/- Contracts: a collection begins and ends. -/
import Derived.Test.YtfpmimnbocflpaaC4
namespace Go.Proofs.Ytfpmimnbocflpaa
open Go Go.Cw
set_option linter.unusedVariables false

/-- An answer: a pacer in memory of its own, and why. -/
def Res (N : Nat) (w : World) (v : Value) (r : Pc × Int) : Prop :=
  ∃ A c, v = .tuple #[r.1.val A r.1.debts.length c, .int .i64 r.2] ∧ Mine N w A r.1.debts

theorem Res.zero (N : Nat) (w : World) (e : Int) : Res N w (.tuple #[.agg #[.int .i64 0, .int .u64 0, .int .u64 0, .bool false, .int .u64 0, .int .u64 0, .int .u64 0, .int .u64 0, .int .u64 0, .slice none 0 0], .int .i64 e]) (Pc.zero, e) :=
  ⟨none, 0, rfl, .inl ⟨rfl, rfl⟩⟩

theorem Res.of {N : Nat} {w : World} {q : Pc} {e : Int} {A : Option Addr} {c : Nat} (h : Row .u64 22 w A q.debts.length q.debts) (hN : New N A) : Res N w (.tuple #[q.val A q.debts.length c, .int .i64 e]) (q, e) :=
  ⟨A, c, rfl, .inr ⟨h, hN⟩⟩

/-- A collection begins. -/
def Pc.begin1 (p : Pc) (heap : Int) : Pc := { p with on := true, est := max 1 p.live, room := max (max 1 (p.goal / 20)) (p.goal - min p.goal heap) }

def Pc.begin (p : Pc) (heap : Int) : Pc × Int :=
  if p.Right then (if p.state false heap ≠ 0 then (p, p.state false heap) else (p.begin1 heap, 0)) else (Pc.zero, 2)

theorem not_ids {ids : List Nat} {w : World} (h : ∀ k, k ∈ ids → k < w.heap.size) {k : Nat} (hk : w.heap.size ≤ k) : ¬ k ∈ ids := fun hm => by
  have := h k hm
  omega

theorem Begin_C (p : Pc) (hp : p.Typed) {A : Option Addr} {c : Nat} (x : Int) (hx : 0 ≤ x ∧ x < 18446744073709551616) (w : World) (hl : Ints .u64 w A p.debts.length p.debts) :
    Ret Try.prog 20 #[p.val A p.debts.length c, .int .u64 x] w fun v w' => Res w.heap.size w' v (p.begin x) := by
  refine pace_Begin_W _ _ _ _ _ _ _ _ _ _ _ _ _ w _ ?_
  intro k0 hk0 _ k1 hk1 hk w2 hc2 hF2 hlt2
  have hl2 := hl.kept hF2.keep (fun _ _ h => h)
  have hs2 := hF2.size
  refine RetM.use (open_C p hp w2 hl2) fun v w5 hF5 hR => ?_
  unfold Pc.begin
  rcases hR with ⟨hr, rfl⟩ | ⟨hr, k, A', c', rfl, hk, hbox, hrow, hN, hne⟩
  · refine ⟨_, rfl, _, _, rfl, hF5.stp0 _ _, fun hF5' => ⟨fun h w9 hc9 hF9 => ?_, fun h => (by cases h)⟩⟩
    rw [if_neg hr]
    exact Res.zero _ _ _
  · rw [if_pos hr]
    have hkn : ¬ k ∈ [k0, k1] := not_ids hlt2 hk
    have hAn : ∀ q, A' = some q → ¬ q.block ∈ [k0, k1] := fun q hq => not_ids hlt2 (hN q hq)
    have hNw : New w.heap.size A' := fun q hq => Nat.le_trans hs2 (hN q hq)
    refine ⟨_, rfl, _, _, rfl, hF5.stp0 _ _, fun hF5' => ⟨fun h => (by cases h), fun h hlt5 => ?_⟩⟩
    refine RetM.use (state_C p false x w5 hbox) fun v w12 hF12 hR => ?_
    subst hR
    have hbox := hbox.kept hF12.keep (fun h => h)
    have hrow := hrow.kept hF12.keep (fun _ _ h => h)
    refine ⟨_, rfl, _, rfl, hF12.stp0 _ _, fun hF12' => ⟨fun h => ?_, fun h hlt12 => ?_⟩⟩
    · refine ⟨rfl, _, _, _, _, _, _, _, _, _, _, _, _, hbox.all, fun w27 hc27 hF27 => ?_⟩
      rw [if_pos (by simpa using h)]
      exact Res.of (hrow.kept hc27.keep hAn) hNw
    · refine RetM.use (goal_C p hp hr w12 hbox) fun v w30 hF30 hR => ?_
      subst hR
      have hbox := hbox.kept hF30.keep (fun h => h)
      have hrow := hrow.kept hF30.keep (fun _ _ h => h)
      have hg := goal_le hp hr
      have hlv := hp.live
      refine ⟨_, rfl, _, rfl, hF30.stp0 _ _, fun hF30' => ⟨rfl, p.live, hbox.cell1 rfl, rfl, k, 3, _, _, by simp [offA, add_none], hbox, by simp, .inl (by omega), hkn, fun w38 hu38 hF38 => ?_⟩⟩
      have hbox : Box w38 k (Pc.vals { p with on := true } A' p.debts.length c') 56 := hu38.box
      have hrow := hrow.kept hu38.keep hne
      refine ⟨rfl, k, 4, _, _, by simp [offA, add_none], hbox, by simp, .inl (by omega), hkn, fun w43 hu43 hF43 => ?_⟩
      rw [ite_max] at hu43
      have hbox : Box w43 k (Pc.vals { p with on := true, est := max p.live 1 } A' p.debts.length c') 56 := hu43.box
      have hrow := hrow.kept hu43.keep hne
      refine ⟨rfl, k, 5, _, _, by simp [offA, add_none], hbox, by simp, .inl (by omega), hkn, fun w48 hu48 hF48 => ?_⟩
      simp only [ite_max, ite_min] at hu48
      rw [tdiv_pos (by omega), wrap_u64_of (x := p.goal / 20) (by omega) (by omega), wrap_u64_of (x := p.goal - min p.goal x) (by omega) (by omega)] at hu48
      have hbox : Box w48 k (Pc.vals { p with on := true, est := max p.live 1, room := max (p.goal - min p.goal x) (max (p.goal / 20) 1) } A' p.debts.length c') 56 := hu48.box
      have hrow := hrow.kept hu48.keep hne
      refine ⟨rfl, _, _, _, _, _, _, _, _, _, _, _, _, hbox.all, fun w61 hc61 hF61 => ?_⟩
      rw [if_neg (by simpa using h)]
      have hq : p.begin1 x = { p with on := true, est := max p.live 1, room := max (p.goal - min p.goal x) (max (p.goal / 20) 1) } := by
        unfold Pc.begin1
        congr 1
        · omega
        · omega
      rw [hq]
      exact Res.of (q := { p with on := true, est := max p.live 1, room := max (p.goal - min p.goal x) (max (p.goal / 20) 1) }) (hrow.kept hc61.keep hAn) hNw

theorem rBegin_C (p : Pc) (hp : p.Typed) {A : Option Addr} {c : Nat} (x : Int) (hx : 0 ≤ x ∧ x < 18446744073709551616) (w : World) (hl : Ints .u64 w A p.debts.length p.debts) :
    Ret Try.prog 21 #[p.val A p.debts.length c, .int .u64 x] w fun v w' => Res w.heap.size w' v (p.begin x) := by
  refine besomref21_Begin_W _ _ _ _ _ _ _ _ _ _ _ _ _ w _ ?_
  intro k0 hk0 _ k1 hk1 hk w2 hc2 hF2 hlt2
  have hl2 := hl.kept hF2.keep (fun _ _ h => h)
  have hs2 := hF2.size
  refine RetM.use (rcheck_C p hp w2 hl2) fun v w5 hF5 hR => ?_
  subst hR
  unfold Pc.begin
  have hl5 := hl2.kept hF5.keep (fun _ _ h => h)
  refine ⟨_, rfl, _, rfl, hF5.stp0 _ _, fun hF5' => ⟨fun h w8 hc8 hF8 => ?_, fun h hlt5 => ?_⟩⟩
  · by_cases hr : p.Right
    · rw [Pc.check_right hr] at h; cases h
    · rw [if_neg hr]
      exact Res.zero _ _ _
  · by_cases hr : p.Right
    · rw [if_pos hr]
      have hg := goal_le hp hr
      have hlv := hp.live
      refine RetM.use (copy_C p hp.length w5 hl5) fun v w11 hF11 hR => ?_
      obtain ⟨A', c', rfl, hrow, hN⟩ := hR
      have hs5 := hF5'.size
      have hAn : ∀ q, A' = some q → ¬ q.block ∈ [k0, k1] := fun q hq => not_ids hlt5 (hN q hq)
      have hNw : New w.heap.size A' := fun q hq => Nat.le_trans hs5 (hN q hq)
      refine ⟨_, rfl, _, _, _, _, _, _, _, _, _, _, _, _, rfl, hF11.stp0 _ _, fun hF11' => ⟨fun h1 w25 hc25 hF25 => ?_, fun h1 => ⟨fun h2 w26 hc26 hF26 => ?_, fun h2 w27 hc27 hF27 hlt27 => ?_⟩⟩⟩
      · have hst : p.state false x = 5 := if_pos (by rw [h1]; decide)
        rw [hst, if_pos (by decide)]
        exact Res.of (hrow.kept hc25.keep hAn) hNw
      · have hst : p.state false x = 1 := by
          unfold Pc.state
          rw [if_neg (by rw [h1]; decide), if_pos (of_decide_eq_true h2)]
        rw [hst, if_pos (by decide)]
        exact Res.of (hrow.kept hc26.keep hAn) hNw
      · have hst : p.state false x = 0 := by
          unfold Pc.state
          rw [if_neg (by rw [h1]; decide), if_neg (of_decide_eq_false h2)]
        rw [hst, if_neg (by decide)]
        have hrow27 := hrow.kept hc27.keep hAn
        refine RetM.use (rgoal_C p hp hr w27) fun v w30 hF30 hR => ?_
        subst hR
        have hrow30 := hrow27.kept hF30.keep (fun _ _ h => h)
        refine ⟨_, rfl, _, rfl, hF30.stp0 _ _, fun hF30' J33 hJ33 => ?_⟩
        have k1 : ∀ (m : Int) (w35 : World), Fr F0 w w35 → Row .u64 22 w35 A' p.debts.length p.debts → m = max 1 (p.goal - min p.goal x) → J33 [.int .u64 m] w35 := by
          intro m w35 hF35 hrow35 hm
          refine hJ33 m w35 hF35 fun J36 hJ36 => ?_
          have k2 : ∀ m' : Int, m' = max (max 1 (p.goal / 20)) (p.goal - min p.goal x) → J36 [.int .u64 m'] w35 := by
            intro m' hm'
            refine hJ36 m' w35 hF35 fun J39 hJ39 => ?_
            have k3 : ∀ (e : Int) (w38 : World), Fr F0 w w38 → Row .u64 22 w38 A' p.debts.length p.debts → e = max 1 p.live → J39 [.int .u64 e] w38 := by
              intro e w38 hF38 hrow38 he
              refine hJ39 e w38 hF38 fun w42 hc42 hF42 => ?_
              subst he hm'
              exact Res.of (q := p.begin1 x) (hrow38.kept hc42.keep hAn) hNw
            refine ⟨fun h5 w43 hc43 hF43 => k3 _ _ hF43 (hrow35.kept hc43.keep hAn) ?_, fun h5 w43 hc43 hF43 => k3 _ _ hF43 (hrow35.kept hc43.keep hAn) ?_⟩
            · have := of_decide_eq_true h5
              omega
            · have := of_decide_eq_false h5
              omega
          rw [tdiv_pos (by omega), wrap_u64_of (x := p.goal / 20) (by omega) (by omega)]
          refine ⟨fun h5 => k2 _ ?_, fun h5 => k2 _ ?_⟩
          · have := of_decide_eq_true h5
            omega
          · have := of_decide_eq_false h5
            omega
        refine ⟨fun h5 => ?_, fun h5 => ?_⟩
        · simp only [Bool.and_eq_true, decide_eq_true_eq] at h5
          obtain ⟨h5, h6⟩ := h5
          rw [wrap_u64_of (by omega) (by omega)] at h6 ⊢
          exact k1 _ _ hF30' hrow30 (by omega)
        · simp only [Bool.and_eq_false_iff, decide_eq_false_iff_not] at h5
          refine k1 _ _ hF30' hrow30 ?_
          rcases h5 with h5 | h5
          · omega
          · by_cases h6 : x < p.goal
            · rw [wrap_u64_of (by omega) (by omega)] at h5
              omega
            · omega
    · rw [Pc.check_wrong hr] at h; cases h

/-- A collection ends. -/
def Pc.end1 (p : Pc) (live : Int) : Pc := ⟨p.percent, p.least, live, false, 0, 0, 0, 0, 0, List.replicate p.debts.length 0⟩

def Pc.end_ (p : Pc) (live : Int) : Pc × Int :=
  if p.Right then (if p.state true live ≠ 0 then (p, p.state true live) else (p.end1 live, 0)) else (Pc.zero, 2)

theorem Res.end1 {N : Nat} {w : World} {p : Pc} {x : Int} {A : Option Addr} {c : Nat} (h : Row .u64 22 w A p.debts.length (List.replicate p.debts.length 0)) (hN : New N A) :
    Res N w (.tuple #[.agg #[.int .i64 p.percent, .int .u64 p.least, .int .u64 x, .bool false, .int .u64 0, .int .u64 0, .int .u64 0, .int .u64 0, .int .u64 0, .slice A p.debts.length c], .int .i64 0]) (p.end1 x, 0) := by
  have hlen : (p.end1 x).debts.length = p.debts.length := List.length_replicate ..
  refine ⟨A, c, ?_, .inr ⟨?_, hN⟩⟩
  · rw [hlen]; rfl
  · rw [hlen]; exact h

theorem rEnd_C (p : Pc) (hp : p.Typed) {A : Option Addr} {c : Nat} (x : Int) (w : World) (hl : Ints .u64 w A p.debts.length p.debts) :
    Ret Try.prog 23 #[p.val A p.debts.length c, .int .u64 x] w fun v w' => Res w.heap.size w' v (p.end_ x) := by
  refine besomref21_End_W _ _ _ _ _ _ _ _ _ _ _ _ _ w _ ?_
  intro k0 hk0 _ k1 hk1 hk w2 hc2 hF2 hlt2
  have hl2 := hl.kept hF2.keep (fun _ _ h => h)
  have hs2 := hF2.size
  refine RetM.use (rcheck_C p hp w2 hl2) fun v w5 hF5 hR => ?_
  subst hR
  unfold Pc.end_
  have hl5 := hl2.kept hF5.keep (fun _ _ h => h)
  refine ⟨_, rfl, _, rfl, hF5.stp0 _ _, fun hF5' => ⟨fun h w8 hc8 hF8 => ?_, fun h hlt5 => ?_⟩⟩
  · by_cases hr : p.Right
    · rw [Pc.check_right hr] at h; cases h
    · rw [if_neg hr]
      exact Res.zero _ _ _
  · by_cases hr : p.Right
    · rw [if_pos hr]
      refine RetM.use (copy_C p hp.length w5 hl5) fun v w11 hF11 hR => ?_
      obtain ⟨A', c', rfl, hrow, hN⟩ := hR
      have hs5 := hF5'.size
      have hAn : ∀ q, A' = some q → ¬ q.block ∈ [k0, k1] := fun q hq => not_ids hlt5 (hN q hq)
      have hNw : New w.heap.size A' := fun q hq => Nat.le_trans hs5 (hN q hq)
      refine ⟨_, rfl, _, _, _, _, _, _, _, _, _, _, _, _, rfl, hF11.stp0 _ _, fun hF11' => ⟨fun h1 w25 hc25 hF25 => ?_, fun h1 => ⟨fun h2 w26 hc26 hF26 => ?_, fun h2 w27 hc27 hF27 hlt27 => ?_⟩⟩⟩
      · have h1 : p.on = false := by simpa using h1
        have hst : p.state true x = 5 := if_pos (by rw [h1]; decide)
        rw [hst, if_pos (by decide)]
        exact Res.of (hrow.kept hc25.keep hAn) hNw
      · have h1 : p.on = true := by simpa using h1
        have hst : p.state true x = 1 := by
          unfold Pc.state
          rw [if_neg (by rw [h1]; decide), if_pos (of_decide_eq_true h2)]
        rw [hst, if_pos (by decide)]
        exact Res.of (hrow.kept hc26.keep hAn) hNw
      · have h1 : p.on = true := by simpa using h1
        have hst : p.state true x = 0 := by
          unfold Pc.state
          rw [if_neg (by rw [h1]; decide), if_neg (of_decide_eq_false h2)]
        rw [hst, if_neg (by decide)]
        have hlen := hr.1
        have hs27 := hF27.size
        refine semUpon_make intT (by omega) (by unfold maxLen; omega) (by omega) fun w30 hF30 hr30 hs30 => ?_
        refine ⟨_, _, _, rfl, hF30.stp0 _ _, fun hF30' w34 hc34 hF34 => ?_⟩
        refine Res.end1 (hr30.kept hc34.keep ?_) ?_
        · intro q hq
          cases hq
          exact not_ids hlt27 (Nat.le_refl _)
        · intro q hq
          cases hq
          exact hs27
    · rw [Pc.check_wrong hr] at h; cases h

theorem End_C (p : Pc) (hp : p.Typed) {A : Option Addr} {c : Nat} (x : Int) (w : World) (hl : Ints .u64 w A p.debts.length p.debts) :
    Ret Try.prog 22 #[p.val A p.debts.length c, .int .u64 x] w fun v w' => Res w.heap.size w' v (p.end_ x) := by
  refine pace_End_W _ _ _ _ _ _ _ _ _ _ _ _ _ w _ ?_
  intro k0 hk0 _ k1 hk1 hk w2 hc2 hF2 hlt2
  have hl2 := hl.kept hF2.keep (fun _ _ h => h)
  have hs2 := hF2.size
  refine RetM.use (open_C p hp w2 hl2) fun v w5 hF5 hR => ?_
  unfold Pc.end_
  rcases hR with ⟨hr, rfl⟩ | ⟨hr, k, A', c', rfl, hk, hbox, hrow, hN, hne⟩
  · refine ⟨_, rfl, _, _, rfl, hF5.stp0 _ _, fun hF5' => ⟨fun h w9 hc9 hF9 => ?_, fun h => (by cases h)⟩⟩
    rw [if_neg hr]
    exact Res.zero _ _ _
  · rw [if_pos hr]
    have hkn : ¬ k ∈ [k0, k1] := not_ids hlt2 hk
    have hAn : ∀ q, A' = some q → ¬ q.block ∈ [k0, k1] := fun q hq => not_ids hlt2 (hN q hq)
    have hNw : New w.heap.size A' := fun q hq => Nat.le_trans hs2 (hN q hq)
    refine ⟨_, rfl, _, _, rfl, hF5.stp0 _ _, fun hF5' => ⟨fun h => (by cases h), fun h hlt5 => ?_⟩⟩
    refine RetM.use (state_C p true x w5 hbox) fun v w12 hF12 hR => ?_
    subst hR
    have hbox := hbox.kept hF12.keep (fun h => h)
    have hrow := hrow.kept hF12.keep (fun _ _ h => h)
    refine ⟨_, rfl, _, rfl, hF12.stp0 _ _, fun hF12' => ⟨fun h => ?_, fun h => ?_⟩⟩
    · refine ⟨rfl, _, _, _, _, _, _, _, _, _, _, _, _, hbox.all, fun w27 hc27 hF27 => ?_⟩
      rw [if_pos (by simpa using h)]
      exact Res.of (hrow.kept hc27.keep hAn) hNw
    · rw [if_neg (by simpa using h)]
      refine ⟨rfl, _, _, _, hbox.cell1 rfl, fun hlt12 => ?_⟩
      refine semUpon_clear intT hrow fun w33 hF33 hr33 => ?_
      have hM : ∀ j, (A'.any (·.block == j)) = true → w.heap.size ≤ j ∧ ¬ j ∈ [k0, k1] ∧ j ≠ k := by
        intro j hj
        cases hA : A' with
        | none => rw [hA] at hj; cases hj
        | some q =>
          rw [hA] at hj
          obtain rfl : q.block = j := by simpa using hj
          exact ⟨hNw q hA, hAn q hA, hne q hA⟩
      have hbox := hbox.kept hF33.keep (fun h => (hM k h).2.2 rfl)
      refine ⟨rfl, hF33.stp _ _ (fun j hj h => absurd (hM j h).1 (by omega)) (fun j hj h => (hM j h).2.1 hj), fun hF33' => ⟨rfl, fun w34 hc34 hF34 => ?_⟩⟩
      have hbox := hbox.kept hc34.keep hkn
      have hr34 := hr33.kept hc34.keep hAn
      refine ⟨_, hbox.cell1 rfl, rfl, _, hbox.cell1 rfl, rfl, _, _, _, hbox.cell1 rfl, fun w40 hc40 hF40 => ?_⟩
      exact Res.end1 (hr34.kept hc40.keep hAn) hNw

end Go.Proofs.Ytfpmimnbocflpaa
