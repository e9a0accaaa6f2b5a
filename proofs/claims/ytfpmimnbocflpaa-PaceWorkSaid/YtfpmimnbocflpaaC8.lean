/- Contracts: whether two are one. -/
import Derived.Test.YtfpmimnbocflpaaC7
namespace Go.Proofs.Ytfpmimnbocflpaa
open Go Go.Cw
set_option linter.unusedVariables false

theorem eq_of_upto {a b : List Int} (hl : a.length = b.length) (h : ∀ (i : Nat) (x y : Int), a[i]? = some x → b[i]? = some y → x = y) : a = b := by
  apply List.ext_getElem hl
  intro i h1 h2
  exact h i _ _ (List.getElem?_eq_getElem h1) (List.getElem?_eq_getElem h2)

theorem sames_C {A B : Option Addr} {n m c d : Nat} {a b : List Int} (w : World) (hn : n ≤ maxLen) (ha : Ints .u64 w A n a) (hb : Ints .u64 w B m b) :
    Ret Try.prog 32 #[.slice A n c, .slice B m d] w fun v _ => v = .bool (decide (a = b)) := by
  refine besomref09_Same_W _ _ _ _ _ _ w _ ⟨fun h => ?_, fun h J0 hJ0 => ?_⟩
  · have h : ¬ (n : Int) = m := by simpa using h
    rw [decide_eq_false]
    intro hab
    have := ha.1
    have := hb.1
    subst hab
    omega
  · have h : (n : Int) = m := by simpa using h
    obtain rfl : n = m := by omega
    refine ⟨fun vs w' => ∃ i : Nat, vs = [.int .i64 i] ∧ i ≤ n ∧ ∀ (j : Nat) (x y : Int), j < i → a[j]? = some x → b[j]? = some y → x = y, fun vs _ => match vs with | [.int _ i] => n - i.toNat | _ => 0, ⟨0, rfl, Nat.zero_le _, fun j x y hj => absurd hj (Nat.not_lt_zero _)⟩, ?_⟩
    rintro m4 w5 hF5 ⟨i, hm, hi, hyes⟩
    obtain rfl : m4 = i := by simpa using hm
    refine ⟨fun h => ?_, fun h => hJ0 w5 hF5 ?_⟩
    · have h := of_decide_eq_true h
      have hin : i < n := by omega
      have hia : i < a.length := by rw [ha.1]; exact hin
      have hib : i < b.length := by rw [hb.1]; exact hin
      have hx := getD_some hia
      have hy := getD_some hib
      refine ⟨⟨by omega, by omega, ha.isSome (by omega)⟩, fun w6 hc6 hF6 => ?_⟩
      have ha6 := ha.kept hF6.keep (fun _ _ h => h)
      have hb6 := hb.kept hF6.keep (fun _ _ h => h)
      refine ⟨a.getD i 0, by simpa using ha6.cell hx, ⟨by omega, by omega, hb.isSome (by omega)⟩, b.getD i 0, by simpa using hb6.cell hy, fun h1 => ?_, fun h1 => ⟨⟨i + 1, ?_, by omega, fun j x y hj hjx hjy => ?_⟩, ?_⟩⟩
      · rw [decide_eq_false]
        intro hab
        subst hab
        simp at h1
      · rw [wrap_succ hin hn]
      · by_cases hji : j = i
        · subst hji
          rw [hx] at hjx
          rw [hy] at hjy
          obtain rfl := Option.some.inj hjx
          obtain rfl := Option.some.inj hjy
          simpa using h1
        · exact hyes j x y (by omega) hjx hjy
      · rw [wrap_succ hin hn]
        show n - ((i + 1 : Nat) : Int).toNat < n - ((i : Nat) : Int).toNat
        omega
    · have h := of_decide_eq_false h
      obtain rfl : i = n := by omega
      rw [decide_eq_true]
      refine eq_of_upto (by rw [ha.1, hb.1]) fun j x y hjx hjy => hyes j x y ?_ hjx hjy
      by_cases hj : j < a.length
      · have := ha.1
        omega
      · rw [List.getElem?_eq_none (by omega)] at hjx
        cases hjx

/-- Two are one. -/
def Pc.same (p q : Pc) : Bool := p.percent == q.percent && p.least == q.least && p.live == q.live && p.on == q.on && p.est == q.est && p.room == q.room && p.credit == q.credit && p.done == q.done && p.made == q.made && decide (p.debts = q.debts)

theorem Pc.same_iff {p q : Pc} : p.same q = true ↔ p = q := by
  unfold Pc.same
  constructor
  · intro h
    simp only [Bool.and_eq_true, beq_iff_eq, decide_eq_true_eq] at h
    obtain ⟨⟨⟨⟨⟨⟨⟨⟨⟨h1, h2⟩, h3⟩, h4⟩, h5⟩, h6⟩, h7⟩, h8⟩, h9⟩, h10⟩ := h
    cases p; cases q
    simp only at h1 h2 h3 h4 h5 h6 h7 h8 h9 h10
    subst h1 h2 h3 h4 h5 h6 h7 h8 h9 h10
    rfl
  · rintro rfl
    simp

theorem Same_C (p q : Pc) {A B : Option Addr} {c d : Nat} (w : World) (hn : p.debts.length ≤ maxLen) (ha : Ints .u64 w A p.debts.length p.debts) (hb : Ints .u64 w B q.debts.length q.debts) :
    Ret Try.prog 16 #[p.val A p.debts.length c, q.val B q.debts.length d] w fun v _ => v = .bool (p.same q) := by
  refine besomref21_Same_W _ _ _ _ _ _ _ _ _ _ _ _ _ _ _ _ _ _ _ _ _ _ _ _ w _ ?_
  intro k0 _ _ k1 _ _ w2 hc2 hF2 hlt2 J4 hJ4
  have ha2 := ha.kept hF2.keep (fun _ _ h => h)
  have hb2 := hb.kept hF2.keep (fun _ _ h => h)
  refine ⟨fun h => ?_, fun h => ⟨false, hJ4 _ _ hF2 ?_⟩⟩
  · refine RetM.use (sames_C w2 hn ha2 hb2) fun v w8 hF8 hR => ?_
    subst hR
    refine ⟨_, rfl, _, rfl, hF8.stp0 _ _, hJ4 _ _ (hF2.trans hF8) ?_⟩
    unfold Pc.same
    rfl
  · rw [if_pos rfl] at h
    unfold Pc.same
    rw [h]
    rfl

end Go.Proofs.Ytfpmimnbocflpaa
