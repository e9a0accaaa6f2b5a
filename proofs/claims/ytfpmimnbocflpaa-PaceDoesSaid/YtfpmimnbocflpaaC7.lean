/- Contracts: steps are done. -/
import Derived.Test.YtfpmimnbocflpaaC6
namespace Go.Proofs.Ytfpmimnbocflpaa
open Go Go.Cw
set_option linter.unusedVariables false

def Pc.work1 (p : Pc) (who n : Int) : Pc := { p with done := sumS p.done n, credit := sumS p.credit (p.pay who n).1, debts := (p.pay who n).2 }

def Pc.works (p : Pc) (who : Int) (l : List Int) : Pc := l.foldl (fun q n => q.work1 who n) p

def Pc.work (p : Pc) (who : Int) (l : List Int) : Pc × Int :=
  if p.Right then
    if who < -1 ∨ who ≥ (p.debts.length : Int) then (p, 11)
    else if p.on = false then (p, 5)
    else if ∃ n ∈ l, n > 1099511627776 then (p, 1)
    else (p.works who l, 0)
  else (Pc.zero, 2)

theorem Pc.pay_length (p : Pc) (who n : Int) : (p.pay who n).2.length = p.debts.length := by
  unfold Pc.pay
  split
  · rfl
  · exact List.length_set ..

theorem Pc.pay_debts {p : Pc} (hd : ∀ d ∈ p.debts, 0 ≤ d ∧ d < 18446744073709551616) {who n : Int} (hn : 0 ≤ n) : ∀ d ∈ (p.pay who n).2, 0 ≤ d ∧ d < 18446744073709551616 := by
  unfold Pc.pay
  split
  · exact hd
  · intro d hm
    by_cases hi : who.toNat < p.debts.length
    · rcases List.mem_or_eq_of_mem_set hm with h | h
      · exact hd d h
      · have := hd _ (getD_mem hi)
        omega
    · rw [List.set_eq_of_length_le (by omega)] at hm
      exact hd d hm

theorem Pc.work1_length (p : Pc) (who n : Int) : (p.work1 who n).debts.length = p.debts.length := Pc.pay_length p who n

/-- A piece of a list, and one more. -/
theorem take_next {l : List Int} {i : Nat} {x : Int} (h : l[i]? = some x) : l.take (i + 1) = l.take i ++ [x] := by
  rw [List.take_add_one, h]; rfl

theorem Pc.works_next {p : Pc} {who : Int} {l : List Int} {i : Nat} {x : Int} (h : l[i]? = some x) : p.works who (l.take (i + 1)) = (p.works who (l.take i)).work1 who x := by
  unfold Pc.works
  rw [take_next h, List.foldl_append]
  rfl

theorem works_keep (p : Pc) (who : Int) (l : List Int) : (p.works who l).debts.length = p.debts.length ∧ (p.works who l).percent = p.percent ∧ (p.works who l).least = p.least ∧ (p.works who l).live = p.live ∧ (p.works who l).on = p.on ∧ (p.works who l).est = p.est ∧ (p.works who l).room = p.room ∧ (p.works who l).made = p.made := by
  unfold Pc.works
  induction l generalizing p with
  | nil => exact ⟨rfl, rfl, rfl, rfl, rfl, rfl, rfl, rfl⟩
  | cons x r ih =>
    have := ih (p.work1 who x)
    rw [Pc.work1_length] at this
    exact this

theorem works_debts {p : Pc} (hd : ∀ d ∈ p.debts, 0 ≤ d ∧ d < 18446744073709551616) (who : Int) (l : List Int) (hl : ∀ n ∈ l, 0 ≤ n) : ∀ d ∈ (p.works who l).debts, 0 ≤ d ∧ d < 18446744073709551616 := by
  unfold Pc.works
  induction l generalizing p with
  | nil => exact hd
  | cons x r ih => exact ih (p := p.work1 who x) (Pc.pay_debts hd (hl x (by simp))) fun n hn => hl n (by simp [hn])

/-- Numbers handed on. -/
structure Nums (w : World) (A : Option Addr) (n : Nat) (l : List Int) : Prop where
  ints : Ints .u64 w A n l
  max : n ≤ maxLen
  typed : ∀ x ∈ l, 0 ≤ x ∧ x < 18446744073709551616

/-- Why steps may not be done, up to the i-th. -/
def Pc.stop (p : Pc) (l : List Int) : Int := if p.on = false then 5 else if ∃ n ∈ l, n > 1099511627776 then 1 else 0

theorem Pc.stop_next {p : Pc} {l : List Int} {i : Nat} {x : Int} (h : l[i]? = some x) : p.stop (l.take (i + 1)) = if p.stop (l.take i) = 0 then p.state true x else p.stop (l.take i) := by
  unfold Pc.stop Pc.state
  rw [take_next h]
  cases p.on <;> by_cases h1 : ∃ n ∈ l.take i, n > 1099511627776 <;> by_cases h2 : x > 1099511627776 <;> simp [List.mem_append, h1, h2, or_and_right, exists_or] <;> simp_all

theorem Pc.stop_ne {p : Pc} {l : List Int} (who : Int) (h : p.stop l ≠ 0) : (if p.on = false then (p, 5) else if ∃ n ∈ l, n > 1099511627776 then (p, 1) else (p.works who l, 0)) = (p, p.stop l) := by
  unfold Pc.stop at h ⊢
  by_cases h1 : p.on = false
  · rw [if_pos h1, if_pos h1]
  · rw [if_neg h1] at h ⊢
    rw [if_neg h1]
    by_cases h2 : ∃ n ∈ l, n > 1099511627776
    · rw [if_pos h2, if_pos h2]
    · rw [if_neg h2] at h
      exact absurd rfl h

theorem Pc.stop_eq {p : Pc} {l : List Int} (who : Int) (h : p.stop l = 0) : (if p.on = false then (p, 5) else if ∃ n ∈ l, n > 1099511627776 then (p, 1) else (p.works who l, 0)) = (p.works who l, (0 : Int)) := by
  unfold Pc.stop at h
  by_cases h1 : p.on = false
  · rw [if_pos h1] at h
    cases h
  · rw [if_neg h1] at h ⊢
    by_cases h2 : ∃ n ∈ l, n > 1099511627776
    · rw [if_pos h2] at h
      cases h
    · rw [if_neg h2]

theorem Work_C (p : Pc) (hp : p.Typed) {A : Option Addr} {c : Nat} (who : Int) (w : World) (hl : Ints .u64 w A p.debts.length p.debts) {B : Option Addr} {n d : Nat} {l : List Int} (hB : Nums w B n l) :
    Ret Try.prog 26 #[p.val A p.debts.length c, .int .i64 who, .slice B n d] w fun v w' => Res w.heap.size w' v (p.work who l) := by
  refine pace_Work_W _ _ _ _ _ _ _ _ _ _ _ _ _ _ _ _ w _ ?_
  intro k0 hk0 _ k1 hk1 hk w2 hc2 hF2 hlt2
  have hl2 := hl.kept hF2.keep (fun _ _ h => h)
  have hs2 := hF2.size
  refine RetM.use (open_C p hp w2 hl2) fun v w5 hF5 hR => ?_
  unfold Pc.work
  rcases hR with ⟨hr, rfl⟩ | ⟨hr, k, A', c', rfl, hk, hbox, hrow, hN, hne⟩
  · refine ⟨_, rfl, _, _, rfl, hF5.stp0 _ _, fun hF5' => ⟨fun h w9 hc9 hF9 => ?_, fun h => (by cases h)⟩⟩
    rw [if_neg hr]
    exact Res.zero _ _ _
  · rw [if_pos hr]
    have hkn : ¬ k ∈ [k0, k1] := not_ids hlt2 hk
    have hAn : ∀ q, A' = some q → ¬ q.block ∈ [k0, k1] := fun q hq => not_ids hlt2 (hN q hq)
    have hNw : New w.heap.size A' := fun q hq => Nat.le_trans hs2 (hN q hq)
    have hkw : w.heap.size ≤ k := Nat.le_trans hs2 hk
    refine ⟨_, rfl, _, _, rfl, hF5.stp0 _ _, fun hF5' => ⟨fun h => (by cases h), fun h => ⟨fun _ => rfl, A', p.debts.length, c', fun _ => hbox.cell1 rfl, fun h1 => ?_, fun h1 hlt5 => ?_⟩⟩⟩
    · refine ⟨rfl, _, _, _, _, _, _, _, _, _, _, _, _, hbox.all, fun w25 hc25 hF25 => ?_⟩
      rw [if_pos (by simpa using h1)]
      exact Res.of (hrow.kept hc25.keep hAn) hNw
    · rw [if_neg (by simpa using h1)]
      simp only [Bool.or_eq_false_iff, decide_eq_false_iff_not] at h1
      refine RetM.use (state_C p true 0 w5 hbox) fun v w28 hF28 hR => ?_
      subst hR
      have hbox := hbox.kept hF28.keep (fun h => h)
      have hrow := hrow.kept hF28.keep (fun _ _ h => h)
      refine ⟨_, rfl, _, rfl, hF28.stp0 _ _, fun hF28' J31 hJ31 => ?_⟩
      refine ⟨fun vs w' => ∃ i : Nat, vs = [.int .i64 (p.stop (l.take i)), .int .i64 i] ∧ i ≤ n ∧ (∀ k ∈ [k0, k1], k < w'.heap.size) ∧ Box w' k (p.vals A' p.debts.length c') 56 ∧ Row .u64 22 w' A' p.debts.length p.debts,
        fun vs _ => match vs with | [_, .int _ i] => n - i.toNat | _ => 0, ⟨0, ?_, Nat.zero_le _, ?_, hbox, hrow⟩, ?_⟩
      · unfold Pc.stop Pc.state
        cases p.on <;> simp
      · intro j hj
        exact Nat.lt_of_lt_of_le (hlt5 j hj) hF28.size
      · rintro m98 m99 w99 hF99 ⟨i, hvs, hi, hlt99, hbox, hrow⟩
        obtain ⟨rfl, rfl⟩ : m98 = p.stop (l.take i) ∧ m99 = i := by simpa using hvs
        refine ⟨fun h2 => ?_, fun h2 => ?_⟩
        · have h2 := of_decide_eq_true h2
          have hin : i < n := by omega
          have hB99 := hB.ints.kept hF99.keep (fun _ _ h => h)
          have hlt : i < l.length := by rw [hB.ints.1]; exact hin
          have hx := getD_some hlt
          have hnx := Pc.stop_next (p := p) hx
          refine ⟨⟨by omega, by omega, hB99.isSome (by omega)⟩, l.getD i 0, by simpa using hB99.cell hx, fun J101 hJ101 => ?_⟩
          have key : ∀ (m : Int) (w' : World), Fr F0 w w' → (∀ k ∈ [k0, k1], k < w'.heap.size) → Box w' k (p.vals A' p.debts.length c') 56 → Row .u64 22 w' A' p.debts.length p.debts → m = p.stop (l.take (i + 1)) → J101 [.int .i64 m] w' := by
            intro m w' hF hlt' hbox hrow hm
            subst hm
            refine hJ101 _ _ hF ⟨⟨i + 1, ?_, by omega, hlt', hbox, hrow⟩, ?_⟩
            · rw [wrap_succ hin hB.max]
            · rw [wrap_succ hin hB.max]
              show n - ((i + 1 : Nat) : Int).toNat < n - ((i : Nat) : Int).toNat
              omega
          refine ⟨fun h3 hlt' => ?_, fun h3 => ?_⟩
          · refine RetM.use (state_C p true (l.getD i 0) w99 hbox) fun v w106 hF106 hR => ?_
            subst hR
            have hbox := hbox.kept hF106.keep (fun h => h)
            have hrow := hrow.kept hF106.keep (fun _ _ h => h)
            refine ⟨_, rfl, _, rfl, hF106.stp0 _ _, fun hF106' => key _ _ hF106' (fun j hj => Nat.lt_of_lt_of_le (hlt99 j hj) hF106.size) hbox hrow ?_⟩
            rw [hnx, if_pos (by simpa using h3)]
          · refine key _ _ hF99 hlt99 hbox hrow ?_
            rw [hnx, if_neg (by simpa using h3)]
        · have h2 := of_decide_eq_false h2
          obtain rfl : i = n := by omega
          have htake : l.take i = l := by rw [← hB.ints.1]; exact List.take_length
          rw [htake]
          refine hJ31 _ _ hF99 ⟨fun h3 => ?_, fun h3 J47 hJ47 => ?_⟩
          · refine ⟨rfl, _, _, _, _, _, _, _, _, _, _, _, _, hbox.all, fun w46 hc46 hF46 => ?_⟩
            have h3 : p.stop l ≠ 0 := by simpa using h3
            have := Pc.stop_ne who h3
            rw [this]
            exact Res.of (hrow.kept hc46.keep hAn) hNw
          · have h3 : p.stop l = 0 := by simpa using h3
            have := Pc.stop_eq who h3
            rw [this] at hJ47
            refine ⟨fun vs w' => ∃ j : Nat, vs = [.int .i64 j] ∧ j ≤ i ∧ Box w' k ((p.works who (l.take j)).vals A' p.debts.length c') 56 ∧ Row .u64 22 w' A' p.debts.length (p.works who (l.take j)).debts,
              fun vs _ => match vs with | [.int _ j] => i - j.toNat | _ => 0, ⟨0, rfl, Nat.zero_le _, hbox, hrow⟩, ?_⟩
            rintro m65 w65 hF65 ⟨j, hvs, hj, hbox, hrow⟩
            obtain rfl : m65 = j := by simpa using hvs
            obtain ⟨q1, q2, q3, q4, q5, q6, q7, q8⟩ := works_keep p who (l.take j)
            refine ⟨fun h4 => ?_, fun h4 => ?_⟩
            · have h4 := of_decide_eq_true h4
              have hjn : j < i := by omega
              have hB65 := hB.ints.kept hF65.keep (fun _ _ h => h)
              have hlt : j < l.length := by rw [hB.ints.1]; exact hjn
              have hx := getD_some hlt
              have hxb := hB.typed _ (getD_mem hlt)
              have hqd := works_debts hp.debts who (l.take j) fun n hn => (hB.typed n (List.mem_of_mem_take hn)).1
              have hnx := Pc.works_next (p := p) (who := who) hx
              refine ⟨⟨by omega, by omega, hB65.isSome (by omega)⟩, l.getD j 0, by simpa using hB65.cell hx, ?_⟩
              generalize l.getD j 0 = x at hx hxb hnx ⊢
              generalize p.works who (l.take j) = q at hbox hrow q1 q2 q3 q4 q5 q6 q7 q8 hqd hnx ⊢
              refine ⟨rfl, q.done, hbox.cell1 rfl, fun hlt65 => ?_⟩
              refine RetM.use (sum_C _ _ _) fun v w70 hF70 hR => ?_
              subst hR
              have hbox := hbox.kept hF70.keep (fun h => h)
              have hrow := hrow.kept hF70.keep (fun _ _ h => h)
              refine ⟨_, rfl, _, rfl, hF70.stp0 _ _, fun hF70' => ⟨rfl, k, 7, _, _, by simp [offA, add_none], hbox, by simp, .inl hkw, hkn, fun w77 hu77 hF77 => ⟨rfl, fun w78 hc78 hF78 => ?_⟩⟩⟩
              have hbox : Box w77 k (Pc.vals { q with done := sumS q.done x } A' p.debts.length c') 56 := hu77.box
              have hbox := hbox.kept hc78.keep hkn
              have hrow := (hrow.kept hu77.keep hne).kept hc78.keep hAn
              refine ⟨q.credit, hbox.cell1 rfl, fun hlt78 => ?_⟩
              rw [← q1] at hbox hrow
              refine RetM.use (pay_C { q with done := sumS q.done x } hqd who x (by show -1 ≤ who ∧ who < (q.debts.length : Int); omega) hxb w78 hbox hrow hne) fun v w82 hF82 hR => ?_
              obtain ⟨rfl, hrow⟩ := hR
              have hM : ∀ j, At A' j → w.heap.size ≤ j ∧ ¬ j ∈ [k0, k1] ∧ j ≠ k := by
                intro j hj
                obtain ⟨q, hq, rfl⟩ := at_iff hj
                exact ⟨hNw q hq, hAn q hq, hne q hq⟩
              have hbox := hbox.kept hF82.keep (fun h => (hM k h).2.2 rfl)
              refine ⟨_, rfl, _, rfl, hF82.stp _ _ (fun j hj h => absurd (hM j h).1 (by omega)) (fun j hj h => ?_), fun hF82' hlt82 => ?_⟩
              · rcases List.mem_cons.1 hj with h' | h'
                · exact (hM j h).2.1 (by simp [h'])
                · rcases List.mem_cons.1 h' with h' | h'
                  · exact (hM j h).2.1 (by simp [h'])
                  · exact (hM j h).2.2 (by simpa [blkOf] using h')
              refine RetM.use (sum_C _ _ _) fun v w87 hF87 hR => ?_
              subst hR
              have hbox := hbox.kept hF87.keep (fun h => h)
              have hrow := hrow.kept hF87.keep (fun _ _ h => h)
              refine ⟨_, rfl, _, rfl, hF87.stp0 _ _, fun hF87' => ⟨rfl, k, 6, _, _, by simp [offA, add_none], hbox, by simp, .inl hkw, hkn, fun w94 hu94 hF94 => ?_⟩⟩
              have hbox := hu94.box
              have hrow := hrow.kept hu94.keep hne
              refine ⟨⟨j + 1, ?_, by omega, ?_, ?_⟩, ?_⟩
              · rw [wrap_succ hjn hB.max]
              · rw [hnx, ← q1]
                exact hbox
              · rw [hnx, ← q1]
                exact hrow
              · rw [wrap_succ hjn hB.max]
                show i - ((j + 1 : Nat) : Int).toNat < i - ((j : Nat) : Int).toNat
                omega
            · have h4 := of_decide_eq_false h4
              obtain rfl : j = i := by omega
              rw [htake] at hbox hrow q1
              refine hJ47 _ hF65 ⟨rfl, _, _, _, _, _, _, _, _, _, _, _, _, hbox.all, fun w61 hc61 hF61 => ?_⟩
              rw [← q1] at hrow ⊢
              exact Res.of (hrow.kept hc61.keep hAn) hNw

theorem rWork_C (p : Pc) (hp : p.Typed) {A : Option Addr} {c : Nat} (who : Int) (w : World) (hl : Ints .u64 w A p.debts.length p.debts) {B : Option Addr} {n d : Nat} {l : List Int} (hB : Nums w B n l) :
    Ret Try.prog 27 #[p.val A p.debts.length c, .int .i64 who, .slice B n d] w fun v w' => Res w.heap.size w' v (p.work who l) := by
  refine besomref21_Work_W _ _ _ _ _ _ _ _ _ _ _ _ _ _ _ _ w _ ?_
  intro k0 hk0 _ k1 hk1 hk w2 hc2 hF2 hlt2
  have hl2 := hl.kept hF2.keep (fun _ _ h => h)
  have hs2 := hF2.size
  refine RetM.use (rcheck_C p hp w2 hl2) fun v w5 hF5 hR => ?_
  subst hR
  unfold Pc.work
  have hl5 := hl2.kept hF5.keep (fun _ _ h => h)
  refine ⟨_, rfl, _, rfl, hF5.stp0 _ _, fun hF5' => ⟨fun h w8 hc8 hF8 => ?_, fun h hlt5 => ?_⟩⟩
  · by_cases hr : p.Right
    · rw [Pc.check_right hr] at h; cases h
    · rw [if_neg hr]
      exact Res.zero _ _ _
  · by_cases hr : p.Right
    · rw [if_pos hr]
      refine RetM.use (copy_C p hp.length w5 hl5) fun v w11 hF11 hR => ?_
      obtain ⟨A', c', rfl, hrow, hN⟩ := hR
      have hs5 := hF5'.size
      have hAn : ∀ q, A' = some q → ¬ q.block ∈ [k0, k1] := fun q hq => not_ids hlt5 (hN q hq)
      have hNw : New w.heap.size A' := fun q hq => Nat.le_trans hs5 (hN q hq)
      have hlt11 : ∀ k ∈ [k0, k1], k < w11.heap.size := fun j hj => Nat.lt_of_lt_of_le (hlt5 j hj) hF11.size
      refine ⟨_, rfl, _, _, _, _, _, _, _, _, _, _, _, _, rfl, hF11.stp0 _ _, fun hF11' => ⟨fun h1 w25 hc25 hF25 => ?_, fun h1 => ⟨fun h2 w26 hc26 hF26 => ?_, fun h2 J27 hJ27 => ?_⟩⟩⟩
      · rw [if_pos (by simpa using h1)]
        exact Res.of (hrow.kept hc25.keep hAn) hNw
      · rw [if_neg (by simpa using h1), if_pos (by simpa using h2)]
        exact Res.of (hrow.kept hc26.keep hAn) hNw
      · have hon : p.on = true := by simpa using h2
        rw [if_neg (by simpa using h1), if_neg (by simp [hon])] at hJ27 ⊢
        simp only [Bool.or_eq_false_iff, decide_eq_false_iff_not] at h1
        refine ⟨fun vs w' => ∃ (i : Nat) (r : List Value), vs = .int .i64 i :: r ∧ i ≤ n ∧ (∀ x ∈ l.take i, x ≤ 1099511627776) ∧ (∀ k ∈ [k0, k1], k < w'.heap.size) ∧ Row .u64 22 w' A' p.debts.length p.debts,
          fun vs _ => match vs with | .int _ i :: _ => n - i.toNat | _ => 0, fun w83 hc83 hF83 => ⟨0, _, rfl, Nat.zero_le _, by simp, fun j hj => Nat.lt_of_lt_of_le (hlt11 j hj) hc83.size, hrow.kept hc83.keep hAn⟩, ?_⟩
        rintro m84 n85 n86 n87 b88 n89 n90 n91 n92 n93 A94 k95 k96 w97 hF97 ⟨i, r, hvs, hi, hno, hlt97, hrow⟩
        obtain rfl : m84 = i := by
          have := (List.cons.inj hvs).1
          injection this
        have hr' := (List.cons.inj hvs).2
        refine ⟨fun h2 => ?_, fun h2 => ?_⟩
        · have h2 := of_decide_eq_true h2
          have hin : i < n := by omega
          have hB97 := hB.ints.kept hF97.keep (fun _ _ h => h)
          have hlt : i < l.length := by rw [hB.ints.1]; exact hin
          have hx := getD_some hlt
          refine ⟨⟨by omega, by omega, hB97.isSome (by omega)⟩, l.getD i 0, by simpa using hB97.cell hx, fun h3 w99 hc99 hF99 => ?_, fun h3 => ⟨⟨i + 1, r, ?_, by omega, ?_, hlt97, hrow⟩, ?_⟩⟩
          · rw [if_pos ⟨_, getD_mem hlt, of_decide_eq_true h3⟩]
            exact Res.of (hrow.kept hc99.keep hAn) hNw
          · rw [wrap_succ hin hB.max, hr']
          · intro x hm
            rw [take_next hx] at hm
            rcases List.mem_append.1 hm with hm | hm
            · exact hno x hm
            · have := of_decide_eq_false h3
              rw [List.mem_singleton] at hm
              omega
          · rw [wrap_succ hin hB.max]
            show n - ((i + 1 : Nat) : Int).toNat < n - ((i : Nat) : Int).toNat
            omega
        · have h2 := of_decide_eq_false h2
          obtain rfl : i = n := by omega
          have htake : l.take i = l := by rw [← hB.ints.1]; exact List.take_length
          rw [htake] at hno
          refine hJ27 _ _ _ _ _ _ _ _ _ _ _ _ w97 hF97 fun J41 hJ41 => ?_
          have hall : ¬ ∃ n ∈ l, n > 1099511627776 := by
            rintro ⟨x, hx, hgt⟩
            have := hno x hx
            omega
          rw [if_neg hall] at hJ41
          refine ⟨fun vs w' => ∃ j : Nat, vs = [.int .i64 j, .int .u64 (p.works who (l.take j)).credit, .int .u64 (p.works who (l.take j)).done] ∧ j ≤ i ∧ (∀ k ∈ [k0, k1], k < w'.heap.size) ∧ Row .u64 22 w' A' p.debts.length (p.works who (l.take j)).debts,
              fun vs _ => match vs with | .int _ j :: _ => i - j.toNat | _ => 0, ⟨0, rfl, Nat.zero_le _, hlt97, hrow⟩, ?_⟩
          rintro m48 m49 m50 w51 hF51 ⟨j, hvs, hj, hlt51, hrow⟩
          obtain ⟨rfl, rfl, rfl⟩ : m48 = j ∧ m49 = (p.works who (l.take j)).credit ∧ m50 = (p.works who (l.take j)).done := by simpa using hvs
          obtain ⟨q1, q2, q3, q4, q5, q6, q7, q8⟩ := works_keep p who (l.take j)
          refine ⟨fun h4 => ?_, fun h4 => ?_⟩
          · have h4 := of_decide_eq_true h4
            have hjn : j < i := by omega
            have hB51 := hB.ints.kept hF51.keep (fun _ _ h => h)
            have hlt : j < l.length := by rw [hB.ints.1]; exact hjn
            have hx := getD_some hlt
            have hxb := hB.typed _ (getD_mem hlt)
            have hqd := works_debts hp.debts who (l.take j) fun n hn => (hB.typed n (List.mem_of_mem_take hn)).1
            have hnx := Pc.works_next (p := p) (who := who) hx
            refine ⟨⟨by omega, by omega, hB51.isSome (by omega)⟩, l.getD j 0, by simpa using hB51.cell hx, ?_⟩
            generalize l.getD j 0 = x at hx hxb hnx ⊢
            clear hvs
            generalize p.works who (l.take j) = q at hrow q1 q2 q3 q4 q5 q6 q7 q8 hqd hnx ⊢
            intro hlt51
            refine RetM.use (rsum_C _ _ _) fun v w55 hF55 hR => ?_
            subst hR
            have hrow := hrow.kept hF55.keep (fun _ _ h => h)
            refine ⟨_, rfl, _, rfl, hF55.stp0 _ _, fun hF55' J58 hJ58 => ?_⟩
            have key : ∀ w60, Fr F0 w w60 → (∀ k ∈ [k0, k1], k < w60.heap.size) → Row .u64 22 w60 A' p.debts.length (q.pay who x).2 → J58 [.int .u64 (q.pay who x).1] w60 := by
              intro w60 hF60 hlt60 hrow
              refine hJ58 _ w60 hF60 fun _ => ?_
              refine RetM.use (rsum_C _ _ _) fun v w63 hF63 hR => ?_
              subst hR
              have hrow := hrow.kept hF63.keep (fun _ _ h => h)
              refine ⟨_, rfl, _, rfl, hF63.stp0 _ _, fun hF63' w66 hc66 hF66 => ⟨⟨j + 1, ?_, by omega, fun k hk => Nat.lt_of_lt_of_le (hlt60 k hk) (Nat.le_trans hF63.size hc66.size), ?_⟩, ?_⟩⟩
              · rw [wrap_succ hjn hB.max, hnx]; rfl
              · rw [hnx]
                exact hrow.kept hc66.keep hAn
              · rw [wrap_succ hjn hB.max]
                show i - ((j + 1 : Nat) : Int).toNat < i - ((j : Nat) : Int).toNat
                omega
            have hlt55 : ∀ k ∈ [k0, k1], k < w55.heap.size := fun k hk => Nat.lt_of_lt_of_le (hlt51 k hk) hF55.size
            refine ⟨fun h5 => ?_, fun h5 w80 hc80 hF80 => ?_⟩
            · have h5 := of_decide_eq_true h5
              have hi' : who.toNat < q.debts.length := by omega
              refine ⟨⟨by omega, by omega, hrow.isSome⟩, fun w67 hc67 hF67 => ?_⟩
              have hrow := hrow.kept hc67.keep hAn
              refine ⟨_, hrow.ints.cell (getD_some hi'), fun hlt67 => ?_⟩
              refine RetM.use (least_C _ _ _) fun v w71 hF71 hR => ?_
              subst hR
              have hrow := hrow.kept hF71.keep (fun _ _ h => h)
              have hqw := hqd _ (getD_mem hi')
              refine ⟨_, rfl, _, rfl, hF71.stp0 _ _, fun hF71' => ⟨⟨by omega, by omega, hrow.isSome⟩, _, hrow.ints.cell (getD_some hi'), ⟨by omega, by omega, hrow.isSome⟩, ?_⟩⟩
              obtain ⟨b, cs, ho, hA, hBx, hle, hput⟩ := hrow.put (i := who.toNat) (by omega) (IntKind.wrap .u64 (q.debts.getD who.toNat 0 - min x (q.debts.getD who.toNat 0)))
              refine ⟨b, who.toNat, cs, 22, ho, hBx, hle, .inl (hNw _ hA), hAn _ hA, fun w79 hu79 hF79 => ?_⟩
              have hrow := hput w79 hu79
              rw [wrap_u64_of (x := x - _) (by omega) (by omega)]
              rw [wrap_u64_of (x := q.debts.getD who.toNat 0 - _) (by omega) (by omega)] at hrow
              have hk2 := key w79 hF79 (fun k hk => by
                rw [hu79.size]
                exact Nat.lt_of_lt_of_le (hlt55 k hk) (Nat.le_trans hc67.size hF71.size))
              unfold Pc.pay at hk2
              rw [if_neg (by omega)] at hk2
              exact hk2 hrow
            · have h5 := of_decide_eq_false h5
              have hk2 := key w80 hF80 (fun k hk => Nat.lt_of_lt_of_le (hlt55 k hk) hc80.size)
              unfold Pc.pay at hk2
              rw [if_pos (by omega)] at hk2
              exact hk2 (hrow.kept hc80.keep hAn)
          · have h4 := of_decide_eq_false h4
            obtain rfl : j = i := by omega
            rw [htake] at hrow q1 q2 q3 q4 q5 q6 q7 q8 ⊢
            refine hJ41 _ _ w51 hF51 fun w45 hc45 hF45 => ?_
            refine ⟨A', c', ?_, .inr ⟨?_, hNw⟩⟩
            · simp only [Pc.val, q1, q2, q3, q4, q5, q6, q7, q8]
            · rw [q1]
              exact hrow.kept hc45.keep hAn
    · rw [Pc.check_wrong hr] at h; cases h

end Go.Proofs.Ytfpmimnbocflpaa
