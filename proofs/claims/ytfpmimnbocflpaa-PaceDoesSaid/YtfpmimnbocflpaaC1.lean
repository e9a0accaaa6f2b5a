/- Contracts: sums, and what tells whether a pacer is right. -/
import Derived.Test.YtfpmimnbocflpaaW1
import Derived.Test.YtfpmimnbocflpaaSpec
namespace Go.Proofs.Ytfpmimnbocflpaa
open Go Go.Cw
set_option linter.unusedVariables false

/-- The sum, at most the most. -/
def sumS (a b : Int) : Int := min 1099511627776 ((a + b) % 18446744073709551616)

theorem ite_min (a b : Int) : (if a < b then a else b) = min b a := by omega

theorem sum_C (a b : Int) (w : World) : Ret Try.prog 36 #[.int .u64 a, .int .u64 b] w fun v _ => v = .int .u64 (sumS a b) :=
  pace_sum_W a b w _ (by rw [ite_min, wrap_u64]; rfl)

theorem least_C (a b : Int) (w : World) : Ret Try.prog 39 #[.int .u64 a, .int .u64 b] w fun v _ => v = .int .u64 (min a b) := by
  refine besomref21_least_W a b w _ ⟨fun h => ?_, fun h => ?_⟩
  · have := of_decide_eq_true h
    rw [show min a b = a by omega]
  · have := of_decide_eq_false h
    rw [show min a b = b by omega]

theorem rsum_C (a b : Int) (w : World) : Ret Try.prog 38 #[.int .u64 a, .int .u64 b] w fun v _ => v = .int .u64 (sumS a b) := by
  refine besomref21_sum_W a b w _ ?_
  refine RetM.use (least_C _ _ _) fun v w' hF hR => ?_
  subst hR
  exact ⟨_, rfl, _, rfl, hF.stp0 _ _, fun _ => rfl⟩

theorem pos_C (x : Int) (w : World) : Ret Try.prog 44 #[.int .u64 x] w fun v _ => v = .bool (decide (x > 0)) :=
  pace_still_c1_W x w _ rfl

/-- Any that is above nothing, from the i-th on. -/
theorem index_C {A : Option Addr} {n c : Nat} {l : List Int} (w : World) (hn : n ≤ maxLen) (hl : Ints .u64 w A n l) :
    Ret Try.prog 45 #[.slice A n c, .func (.func 44) #[] #[]] w fun v _ => ∃ i : Int, v = .int .i64 i ∧ (0 ≤ i ↔ ∃ d ∈ l, d > 0) := by
  refine slices_IndexFunc_suint64_uint64_W A n c _ w _ ?_
  intro J hJ
  refine ⟨fun vs w' => ∃ i : Nat, vs = [.int .i64 i] ∧ i ≤ n ∧ ∀ j x, j < i → l[j]? = some x → x ≤ 0, fun vs _ => match vs with | [.int _ i] => n - i.toNat | _ => 0, ⟨0, rfl, Nat.zero_le _, fun j x hj => absurd hj (Nat.not_lt_zero _)⟩, ?_⟩
  rintro m w1 hF ⟨i, hm, hi, hno⟩
  obtain rfl : m = i := by simpa using hm
  refine ⟨fun h => ?_, fun h => hJ w1 hF ?_⟩
  · have h := of_decide_eq_true h
    have hin : i < n := by omega
    have hl1 := hl.kept hF.keep (fun _ _ h => h)
    refine ⟨⟨by omega, by omega, hl.isSome (by omega)⟩, ?_⟩
    have hlt : i < l.length := by rw [hl.1]; exact hin
    refine ⟨l[i], by simpa using hl1.cell (List.getElem?_eq_getElem hlt), ?_⟩
    refine ⟨by kernel_rfl, ?_⟩
    refine RetM.use (pos_C l[i] w1) fun v w2 hF2 hR => ?_
    subst hR
    refine ⟨_, rfl, _, rfl, hF2.stp0 _ _, fun hF3 => ⟨fun hb => ?_, fun hb => ?_⟩⟩
    · exact ⟨_, rfl, fun _ => ⟨l[i], List.getElem_mem _, of_decide_eq_true hb⟩, fun _ => by omega⟩
    · have hb := of_decide_eq_false hb
      rw [wrap_succ hin hn]
      refine ⟨⟨i + 1, rfl, by omega, fun j x hj hx => ?_⟩, ?_⟩
      · by_cases hji : j = i
        · subst hji
          rw [List.getElem?_eq_getElem hlt] at hx
          obtain rfl := Option.some.inj hx
          omega
        · exact hno j x (by omega) hx
      · show n - (((i + 1 : Nat) : Int)).toNat < n - ((i : Nat) : Int).toNat
        omega
  · have h := of_decide_eq_false h
    obtain rfl : i = n := by omega
    refine ⟨-1, rfl, fun h => by omega, ?_⟩
    rintro ⟨d, hd, hpos⟩
    obtain ⟨j, hj, rfl⟩ := List.getElem_of_mem hd
    have := hno j l[j] (by rw [← hl.1]; exact hj) (List.getElem?_eq_getElem hj)
    omega

theorem contains_C {A : Option Addr} {n c : Nat} {l : List Int} (w : World) (hn : n ≤ maxLen) (hl : Ints .u64 w A n l) :
    Ret Try.prog 43 #[.slice A n c, .func (.func 44) #[] #[]] w fun v _ => v = .bool (decide (∃ d ∈ l, d > 0)) := by
  refine slices_ContainsFunc_suint64_uint64_W A n c _ w _ ?_
  refine RetM.use (index_C w hn hl) fun v w' hF hR => ?_
  obtain ⟨i, rfl, hi⟩ := hR
  refine ⟨_, rfl, _, rfl, hF.stp0 _ _, fun _ => ?_⟩
  show Value.bool (decide (i ≥ 0)) = _
  rw [show decide (i ≥ 0) = decide (∃ d ∈ l, d > 0) from decide_eq_decide.2 hi]

/-- The largest. -/
theorem max_C {A : Option Addr} {n c : Nat} {l : List Int} (w : World) (hn : n ≤ maxLen) (h0 : 0 < n) (hl : Ints .u64 w A n l) :
    Ret Try.prog 42 #[.slice A n c] w fun v _ => ∃ m : Int, v = .int .u64 m ∧ ∀ b, m ≤ b ↔ ∀ d ∈ l, d ≤ b := by
  refine slices_Max_suint64_uint64_W A n c w _ ⟨fun h => ?_, fun h => ?_⟩
  · have := of_decide_eq_true h
    omega
  · have hlt0 : 0 < l.length := by rw [hl.1]; exact h0
    refine ⟨⟨by omega, by omega, hl.isSome h0⟩, l[0], by simpa using hl.cell (List.getElem?_eq_getElem hlt0), ?_⟩
    intro J hJ
    refine ⟨fun vs w' => ∃ (i : Nat) (m : Int), vs = [.int .u64 m, .int .i64 i] ∧ i ≤ n ∧ 0 < i ∧ ∀ b, m ≤ b ↔ ∀ d ∈ l.take i, d ≤ b, fun vs _ => match vs with | [_, .int _ i] => n - i.toNat | _ => 0, ⟨1, _, rfl, h0, Nat.zero_lt_one, fun b => ?_⟩, ?_⟩
    · cases l with
      | nil => simp at hlt0
      | cons x r => simp
    · rintro m j w1 hF ⟨i, m', hm, hi, hi0, hno⟩
      obtain ⟨rfl, rfl⟩ : m = m' ∧ j = i := by simpa using hm
      refine ⟨fun h => ?_, fun h => hJ m w1 hF ?_⟩
      · have h := of_decide_eq_true h
        have hin : i < n := by omega
        have hl1 := hl.kept hF.keep (fun _ _ h => h)
        have hlt : i < l.length := by rw [hl.1]; exact hin
        refine ⟨⟨by omega, by omega, hl.isSome (by omega)⟩, l[i], by simpa using hl1.cell (List.getElem?_eq_getElem hlt), ?_⟩
        rw [wrap_succ hin hn]
        refine ⟨⟨i + 1, _, rfl, by omega, by omega, fun b => ?_⟩, ?_⟩
        · rw [List.take_succ_eq_append_getElem hlt]
          have := hno b
          constructor
          · intro hb d hd
            rcases List.mem_append.1 hd with hd | hd
            · exact this.1 (by split at hb <;> omega) d hd
            · obtain rfl := List.mem_singleton.1 hd
              split at hb <;> omega
          · intro hb
            have h1 := this.2 fun d hd => hb d (List.mem_append.2 (.inl hd))
            have h2 := hb l[i] (List.mem_append.2 (.inr (List.mem_singleton.2 rfl)))
            split <;> omega
        · show n - (((i + 1 : Nat) : Int)).toNat < n - ((i : Nat) : Int).toNat
          omega
      · have h := of_decide_eq_false h
        obtain rfl : i = n := by omega
        refine ⟨m, rfl, fun b => ?_⟩
        rw [hno b, List.take_of_length_le (by rw [hl.1]; exact Nat.le_refl _)]

end Go.Proofs.Ytfpmimnbocflpaa
