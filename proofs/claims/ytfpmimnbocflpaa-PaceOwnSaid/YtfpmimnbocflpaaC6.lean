/- Contracts: words are made, and what is owed is paid. -/
import Derived.Test.YtfpmimnbocflpaaC5
import Derived.Test.YtfpmimnbocflpaaW3
namespace Go.Proofs.Ytfpmimnbocflpaa
open Go Go.Cw
set_option linter.unusedVariables false

theorem getD_some {l : List Int} {i : Nat} (h : i < l.length) : l[i]? = some (l.getD i 0) := by
  rw [List.getD_eq_getElem?_getD, List.getElem?_eq_getElem h]; rfl

theorem getD_mem {l : List Int} {i : Nat} (h : i < l.length) : l.getD i 0 ∈ l := List.mem_of_getElem? (getD_some h)

theorem getD_set {l : List Int} {i : Nat} (h : i < l.length) (x : Int) : (l.set i x).getD i 0 = x := by
  rw [List.getD_eq_getElem?_getD, List.getElem?_set_self h]; rfl

/-- What is written as it was is as if it had not been written, beside what else is written. -/
theorem RetM.own2 {P : Program} {M : Nat → Prop} {g : Nat} {cs : List Value} {t : TypeId} {f : FuncId} {args : Array Value} {w : World} {R : Value → World → Prop} (hb : Box w g cs t) (h : RetM P (fun b => b = g ∨ M b) f args w fun v w' => Box w' g cs t ∧ R v w') : RetM P M f args w R := by
  refine Calls.mono h ?_
  rintro e w' ⟨v, rfl, hf, hb', hr⟩
  refine ⟨v, rfl, ⟨hf.os, hf.tape, hf.output, hf.size, fun k hk hm => ?_⟩, hr⟩
  by_cases hg : k = g
  · subst hg
    unfold Box at hb hb'
    rw [hb, hb']
  · exact hf.block k hk (fun h => h.elim hg hm)

/-- The blocks of a base. -/
abbrev At (A : Option Addr) : Nat → Prop := fun b => A.any (·.block == b) = true

theorem at_iff {A : Option Addr} {b : Nat} (h : At A b) : ∃ q, A = some q ∧ q.block = b := by
  cases A with
  | none => cases h
  | some q => exact ⟨q, rfl, by simpa [At] using h⟩

/-- Somebody pays with steps: what is left, and the debts. -/
def Pc.pay (p : Pc) (who x : Int) : Int × List Int :=
  if who = -1 then (x, p.debts) else (x - min x (p.debts.getD who.toNat 0), p.debts.set who.toNat (p.debts.getD who.toNat 0 - min x (p.debts.getD who.toNat 0)))

theorem pay_C (p : Pc) (hd : ∀ d ∈ p.debts, 0 ≤ d ∧ d < 18446744073709551616) {A : Option Addr} {c g : Nat} (who x : Int) (hwho : -1 ≤ who ∧ who < (p.debts.length : Int)) (hx : 0 ≤ x ∧ x < 18446744073709551616) (w : World)
    (hb : Box w g (p.vals A p.debts.length c) 56) (hl : Row .u64 22 w A p.debts.length p.debts) (hne : ∀ q, A = some q → q.block ≠ g) :
    RetM Try.prog (At A) 40 #[.pointer (some ⟨g, 0, none⟩), .int .i64 who, .int .u64 x] w fun v w' => v = .int .u64 (p.pay who x).1 ∧ Row .u64 22 w' A p.debts.length (p.pay who x).2 := by
  refine RetM.own2 hb ?_
  refine pace_meter_pay_W _ g _ _ _ _ _ _ _ _ _ _ _ _ _ _ w _ hb (.inl rfl) ?_
  unfold Pc.pay
  refine ⟨fun h hb' => ?_, fun h => ?_⟩
  · have h : who = -1 := by simpa using h
    rw [if_pos h]
    exact ⟨hb, rfl, hl⟩
  · have h : ¬ who = -1 := by simpa using h
    rw [if_neg h]
    have hi : who.toNat < p.debts.length := by omega
    have hd := hd _ (getD_mem hi)
    have hc := hl.ints.cell (getD_some hi)
    obtain ⟨b, cs, ho, rfl, hB, hle, hput⟩ := hl.put hi (IntKind.wrap .u64 (p.debts.getD who.toNat 0 - if p.debts.getD who.toNat 0 < x then p.debts.getD who.toNat 0 else x))
    refine ⟨⟨by omega, by omega, rfl⟩, _, hc, ⟨by omega, by omega, rfl⟩, _, hc, ⟨by omega, by omega, rfl⟩, b, who.toNat, cs, 22, ho, hB, hle, .inr (.inr (by simp [At])), ?_, fun w6 hu hF hb6 => ?_⟩
    · simpa using hne _ rfl
    · have hr := hput w6 hu
      rw [ite_min, wrap_u64_of (by omega) (by omega)] at hr ⊢
      exact ⟨hb6, rfl, hr⟩

/-- Answers of three parts. -/
def Res3 (N : Nat) (w : World) (v : Value) (r : Pc × Int × Int) : Prop :=
  ∃ A c, v = .tuple #[r.1.val A r.1.debts.length c, .int .u64 r.2.1, .int .i64 r.2.2] ∧ Mine N w A r.1.debts

theorem Res3.zero (N : Nat) (w : World) (e : Int) : Res3 N w (.tuple #[.agg #[.int .i64 0, .int .u64 0, .int .u64 0, .bool false, .int .u64 0, .int .u64 0, .int .u64 0, .int .u64 0, .int .u64 0, .slice none 0 0], .int .u64 0, .int .i64 e]) (Pc.zero, 0, e) :=
  ⟨none, 0, rfl, .inl ⟨rfl, rfl⟩⟩

theorem Res3.of {N : Nat} {w : World} {q : Pc} {x e : Int} {A : Option Addr} {c : Nat} (h : Row .u64 22 w A q.debts.length q.debts) (hN : New N A) : Res3 N w (.tuple #[q.val A q.debts.length c, .int .u64 x, .int .i64 e]) (q, x, e) :=
  ⟨A, c, rfl, .inr ⟨h, hN⟩⟩

/-- What words cost whom. -/
def Pc.cost (p : Pc) (who : Nat) (words : Int) : Int := sumS (p.debts.getD who 0) (p.owe words)

def Pc.alloc1 (p : Pc) (who : Nat) (words : Int) : Pc :=
  { p with made := sumS p.made words, credit := p.credit - min (p.cost who words) p.credit, debts := p.debts.set who (p.cost who words - min (p.cost who words) p.credit) }

def Pc.alloc (p : Pc) (who words : Int) : Pc × Int × Int :=
  if p.Right then
    if who < 0 ∨ who ≥ (p.debts.length : Int) then (p, 0, 11)
    else if words > 1048576 then (p, 0, 1)
    else if p.on = false then (p, 0, 0)
    else (p.alloc1 who.toNat words, p.cost who.toNat words - min (p.cost who.toNat words) p.credit, 0)
  else (Pc.zero, 0, 2)

theorem sumS_bounds (a b : Int) : 0 ≤ sumS a b ∧ sumS a b ≤ 1099511627776 := by
  unfold sumS; omega

theorem Pc.Right.withMade {p : Pc} (hr : p.Right) (hon : p.on = true) {m : Int} (hm : m ≤ 1099511627776) : Pc.Right { p with made := m } := by
  obtain ⟨h1, h2, h3, ⟨s1, s2, s3, s4, s5, s6, s7, s8⟩, h5, h6⟩ := hr
  exact ⟨h1, h2, h3, ⟨s1, s2, s3, s4, s5, s6, hm, s8⟩, h5, fun h => by rw [show p.on = false from h] at hon; cases hon⟩

theorem Pc.Typed.withMade {p : Pc} (hp : p.Typed) {m : Int} (h0 : 0 ≤ m) (hm : m ≤ 1099511627776) : Pc.Typed { p with made := m } :=
  ⟨hp.percent, hp.least, hp.live, hp.est, hp.room, hp.credit, hp.done, ⟨h0, by show m < _; omega⟩, hp.debts, hp.length⟩

theorem Alloc_C (p : Pc) (hp : p.Typed) {A : Option Addr} {c : Nat} (who x : Int) (hx : 0 ≤ x ∧ x < 18446744073709551616) (w : World) (hl : Ints .u64 w A p.debts.length p.debts) :
    Ret Try.prog 24 #[p.val A p.debts.length c, .int .i64 who, .int .u64 x] w fun v w' => Res3 w.heap.size w' v (p.alloc who x) := by
  refine pace_Alloc_W _ _ _ _ _ _ _ _ _ _ _ _ _ _ w _ ?_
  intro k0 hk0 _ k1 hk1 hk w2 hc2 hF2 hlt2
  have hl2 := hl.kept hF2.keep (fun _ _ h => h)
  have hs2 := hF2.size
  refine RetM.use (open_C p hp w2 hl2) fun v w5 hF5 hR => ?_
  unfold Pc.alloc
  rcases hR with ⟨hr, rfl⟩ | ⟨hr, k, A', c', rfl, hk, hbox, hrow, hN, hne⟩
  · refine ⟨_, rfl, _, _, rfl, hF5.stp0 _ _, fun hF5' => ⟨fun h w9 hc9 hF9 => ?_, fun h => (by cases h)⟩⟩
    rw [if_neg hr]
    exact Res3.zero _ _ _
  · rw [if_pos hr]
    have hkn : ¬ k ∈ [k0, k1] := not_ids hlt2 hk
    have hAn : ∀ q, A' = some q → ¬ q.block ∈ [k0, k1] := fun q hq => not_ids hlt2 (hN q hq)
    have hNw : New w.heap.size A' := fun q hq => Nat.le_trans hs2 (hN q hq)
    have hd := hp.debts
    have hcr := hp.credit
    have hkw : w.heap.size ≤ k := Nat.le_trans hs2 hk
    refine ⟨_, rfl, _, _, rfl, hF5.stp0 _ _, fun hF5' => ⟨fun h => (by cases h), fun h => ⟨fun _ => rfl, A', p.debts.length, c', fun _ => hbox.cell1 rfl, fun h1 => ?_, fun h1 => ⟨fun h2 => ?_, fun h2 => ⟨rfl, p.on, hbox.cell1 rfl, fun h3 => ?_, fun h3 => ?_⟩⟩⟩⟩⟩
    · refine ⟨rfl, _, _, _, _, _, _, _, _, _, _, _, _, hbox.all, fun w25 hc25 hF25 => ?_⟩
      rw [if_pos (by simpa using h1)]
      exact Res3.of (hrow.kept hc25.keep hAn) hNw
    · refine ⟨rfl, _, _, _, _, _, _, _, _, _, _, _, _, hbox.all, fun w25 hc25 hF25 => ?_⟩
      rw [if_neg (by simpa using h1), if_pos (by simpa using h2)]
      exact Res3.of (hrow.kept hc25.keep hAn) hNw
    · refine ⟨rfl, _, _, _, _, _, _, _, _, _, _, _, _, hbox.all, fun w25 hc25 hF25 => ?_⟩
      rw [if_neg (by simpa using h1), if_neg (by simpa using h2), if_pos (by simpa using h3)]
      exact Res3.of (hrow.kept hc25.keep hAn) hNw
    · have hon : p.on = true := by simpa using h3
      rw [if_neg (by simpa using h1), if_neg (by simpa using h2), if_neg (by simp [hon])]
      simp only [Bool.or_eq_false_iff, decide_eq_false_iff_not] at h1 h2
      have hi : who.toNat < p.debts.length := by omega
      refine ⟨rfl, p.made, hbox.cell1 rfl, fun hlt5 => ?_⟩
      refine RetM.use (sum_C _ _ _) fun v w56 hF56 hR => ?_
      subst hR
      have hbox := hbox.kept hF56.keep (fun h => h)
      have hrow := hrow.kept hF56.keep (fun _ _ h => h)
      have hm := sumS_bounds p.made x
      refine ⟨_, rfl, _, rfl, hF56.stp0 _ _, fun hF56' => ⟨rfl, k, 8, _, _, by simp [offA, add_none], hbox, by simp, .inl hkw, hkn, fun w63 hu63 hF63 => ?_⟩⟩
      have hbox : Box w63 k (Pc.vals { p with made := sumS p.made x } A' p.debts.length c') 56 := hu63.box
      have hrow := hrow.kept hu63.keep hne
      refine ⟨rfl, A', p.debts.length, c', hbox.cell1 rfl, ⟨by omega, by omega, hrow.isSome⟩, fun w67 hc67 hF67 => ?_⟩
      have hbox := hbox.kept hc67.keep hkn
      have hrow := hrow.kept hc67.keep hAn
      refine ⟨_, hrow.ints.cell (getD_some hi), fun hlt67 => ?_⟩
      refine RetM.use (owe_C { p with made := sumS p.made x } (hp.withMade hm.1 hm.2) (hr.withMade hon hm.2) hon x hx.1 (by omega) w67 hbox) fun v w71 hF71 hR => ?_
      subst hR
      have hbox := hbox.kept hF71.keep (fun h => h)
      have hrow := hrow.kept hF71.keep (fun _ _ h => h)
      refine ⟨_, rfl, _, rfl, hF71.stp0 _ _, fun hF71' hlt71 => ?_⟩
      refine RetM.use (sum_C _ _ _) fun v w76 hF76 hR => ?_
      subst hR
      have hbox := hbox.kept hF76.keep (fun h => h)
      have hrow := hrow.kept hF76.keep (fun _ _ h => h)
      refine ⟨_, rfl, _, rfl, hF76.stp0 _ _, fun hF76' => ?_⟩
      show ∃ k79, _
      have hcost : sumS (p.debts.getD who.toNat 0) (Pc.owe { p with made := sumS p.made x } x) = p.cost who.toNat x := rfl
      have hcb : 0 ≤ p.cost who.toNat x ∧ p.cost who.toNat x ≤ 1099511627776 := sumS_bounds _ _
      rw [hcost]
      unfold Pc.alloc1
      generalize p.cost who.toNat x = d1 at hcb ⊢
      obtain ⟨b, cs, ho, hA, hB, hle, hput⟩ := hrow.put hi d1
      have hbk : b ≠ k := hne _ hA
      refine ⟨b, who.toNat, cs, 22, ho, hB, hle, .inl (hNw _ hA), hAn _ hA, fun w83 hu83 hF83 w84 hc84 hF84 => ?_⟩
      have hrow := (hput w83 hu83).kept hc84.keep hAn
      have hbox := (hbox.kept hu83.keep (fun h => hbk h.symm)).kept hc84.keep hkn
      have hi' : who.toNat < (p.debts.set who.toNat d1).length := by simpa using hi
      have hcell := hrow.ints.cell (getD_some hi')
      rw [getD_set hi] at hcell
      refine ⟨d1, hcell, rfl, p.credit, hbox.cell1 rfl, fun w87 hc87 hF87 => ?_⟩
      have hrow := hrow.kept hc87.keep hAn
      have hbox := hbox.kept hc87.keep hkn
      have hcell := hrow.ints.cell (getD_some hi')
      rw [getD_set hi] at hcell
      refine ⟨d1, hcell, rfl, p.credit, hbox.cell1 rfl, ?_⟩
      rw [ite_min, wrap_u64_of (x := d1 - _) (by omega) (by omega), wrap_u64_of (x := p.credit - _) (by omega) (by omega)]
      obtain ⟨b', cs', ho', hA', hB', hle', hput'⟩ := hrow.put hi (d1 - min d1 p.credit)
      refine ⟨b', who.toNat, cs', 22, ho', hB', hle', .inl (hNw _ hA'), hAn _ hA', fun w94 hu94 hF94 => ?_⟩
      have hrow := hput' w94 hu94
      have hbox := hbox.kept hu94.keep (fun h => hne _ hA' h.symm)
      rw [List.set_set] at hrow
      refine ⟨rfl, k, 6, _, _, by simp [offA, add_none], hbox, by simp, .inl hkw, hkn, fun w99 hu99 hF99 => ?_⟩
      have hbox : Box w99 k (Pc.vals { p with made := sumS p.made x, credit := p.credit - min d1 p.credit } A' p.debts.length c') 56 := hu99.box
      have hrow := hrow.kept hu99.keep hne
      refine ⟨rfl, fun w100 hc100 hF100 => ?_⟩
      have hrow := hrow.kept hc100.keep hAn
      have hbox := hbox.kept hc100.keep hkn
      have hi'' : who.toNat < (p.debts.set who.toNat (d1 - min d1 p.credit)).length := by simpa using hi
      have hcell := hrow.ints.cell (getD_some hi'')
      rw [getD_set hi] at hcell
      have fin : ∀ w', Row .u64 22 w' A' p.debts.length (p.debts.set who.toNat (d1 - min d1 p.credit)) → Res3 w.heap.size w' (.tuple #[.agg #[.int .i64 p.percent, .int .u64 p.least, .int .u64 p.live, .bool p.on, .int .u64 p.est, .int .u64 p.room, .int .u64 (p.credit - min d1 p.credit), .int .u64 p.done, .int .u64 (sumS p.made x), .slice A' p.debts.length c'], .int .u64 (d1 - min d1 p.credit), .int .i64 0])
          ({ p with made := sumS p.made x, credit := p.credit - min d1 p.credit, debts := p.debts.set who.toNat (d1 - min d1 p.credit) }, d1 - min d1 p.credit, 0) := by
        intro w' h
        refine ⟨A', c', ?_, .inr ⟨?_, hNw⟩⟩
        · simp only [List.length_set]
        · simpa only [List.length_set] using h
      refine ⟨_, _, _, _, _, _, _, _, _, _, _, _, hbox.all, ⟨_, hcell, fun w114 hc114 hF114 => fin _ (hrow.kept hc114.keep hAn)⟩, fun w115 hc115 hF115 => ⟨d1 - min d1 p.credit, ?_, ?_⟩⟩
      · have hrow := hrow.kept hc115.keep hAn
        have hcell := hrow.ints.cell (getD_some hi'')
        rw [getD_set hi] at hcell
        exact hcell
      · exact fin _ (hrow.kept hc115.keep hAn)

theorem rAlloc_C (p : Pc) (hp : p.Typed) {A : Option Addr} {c : Nat} (who x : Int) (hx : 0 ≤ x ∧ x < 18446744073709551616) (w : World) (hl : Ints .u64 w A p.debts.length p.debts) :
    Ret Try.prog 25 #[p.val A p.debts.length c, .int .i64 who, .int .u64 x] w fun v w' => Res3 w.heap.size w' v (p.alloc who x) := by
  refine besomref21_Alloc_W _ _ _ _ _ _ _ _ _ _ _ _ _ _ w _ ?_
  intro k0 hk0 _ k1 hk1 hk w2 hc2 hF2 hlt2
  have hl2 := hl.kept hF2.keep (fun _ _ h => h)
  have hs2 := hF2.size
  refine RetM.use (rcheck_C p hp w2 hl2) fun v w5 hF5 hR => ?_
  subst hR
  unfold Pc.alloc
  have hl5 := hl2.kept hF5.keep (fun _ _ h => h)
  refine ⟨_, rfl, _, rfl, hF5.stp0 _ _, fun hF5' => ⟨fun h w8 hc8 hF8 => ?_, fun h hlt5 => ?_⟩⟩
  · by_cases hr : p.Right
    · rw [Pc.check_right hr] at h; cases h
    · rw [if_neg hr]
      exact Res3.zero _ _ _
  · by_cases hr : p.Right
    · rw [if_pos hr]
      refine RetM.use (copy_C p hp.length w5 hl5) fun v w11 hF11 hR => ?_
      obtain ⟨A', c', rfl, hrow, hN⟩ := hR
      have hs5 := hF5'.size
      have hAn : ∀ q, A' = some q → ¬ q.block ∈ [k0, k1] := fun q hq => not_ids hlt5 (hN q hq)
      have hNw : New w.heap.size A' := fun q hq => Nat.le_trans hs5 (hN q hq)
      refine ⟨_, rfl, _, _, _, _, _, _, _, _, _, _, _, _, rfl, hF11.stp0 _ _, fun hF11' => ⟨fun h1 w25 hc25 hF25 => ?_, fun h1 => ⟨fun h2 w26 hc26 hF26 => ?_, fun h2 => ⟨fun h3 w27 hc27 hF27 => ?_, fun h3 w28 hc28 hF28 hlt28 => ?_⟩⟩⟩⟩
      · rw [if_pos (by simpa using h1)]
        exact Res3.of (hrow.kept hc25.keep hAn) hNw
      · rw [if_neg (by simpa using h1), if_pos (by simpa using h2)]
        exact Res3.of (hrow.kept hc26.keep hAn) hNw
      · rw [if_neg (by simpa using h1), if_neg (by simpa using h2), if_pos (by simpa using h3)]
        exact Res3.of (hrow.kept hc27.keep hAn) hNw
      · have hon : p.on = true := by simpa using h3
        rw [if_neg (by simpa using h1), if_neg (by simpa using h2), if_neg (by simp [hon])]
        simp only [Bool.or_eq_false_iff, decide_eq_false_iff_not] at h1 h2
        have hi : who.toNat < p.debts.length := by omega
        have hrow28 := hrow.kept hc28.keep hAn
        have hcr := hp.credit
        refine RetM.use (rsum_C _ _ _) fun v w31 hF31 hR => ?_
        subst hR
        have hrow31 := hrow28.kept hF31.keep (fun _ _ h => h)
        obtain ⟨_, _, _, ⟨_, _, s3, s4, _⟩, h5, _⟩ := hr
        obtain ⟨e1, e2⟩ := h5 hon
        have hxm : x ≤ 1048576 := by omega
        have m0 : 0 ≤ x * p.est := Int.mul_nonneg hx.1 (by omega)
        have m1 : x * p.est ≤ 1048576 * 1099511627776 := Int.mul_le_mul hxm s3 (by omega) (by omega)
        have d0 : 0 ≤ x * p.est / p.room := Int.ediv_nonneg m0 (by omega)
        have d1 : x * p.est / p.room ≤ x * p.est := Int.ediv_le_self _ m0
        refine ⟨_, rfl, _, rfl, hF31.stp0 _ _, fun hF31' => ⟨by omega, by omega, fun J34 hJ34 => ?_⟩⟩
        have key : ∀ (n : Int) (w36 : World), Fr F0 w w36 → Row .u64 22 w36 A' p.debts.length p.debts → min 1099511627776 n = p.owe x → J34 [.int .u64 n] w36 := by
          intro n w36 hF36 hrow36 hn
          refine hJ34 n w36 hF36 ⟨⟨by omega, by omega, hrow36.isSome⟩, fun w37 hc37 hF37 => ?_⟩
          have hrow := hrow36.kept hc37.keep hAn
          refine ⟨_, hrow.ints.cell (getD_some hi), fun hlt37 => ?_⟩
          refine RetM.use (least_C _ _ _) fun v w41 hF41 hR => ?_
          subst hR
          have hrow := hrow.kept hF41.keep (fun _ _ h => h)
          refine ⟨_, rfl, _, rfl, hF41.stp0 _ _, fun hF41' hlt41 => ?_⟩
          refine RetM.use (rsum_C _ _ _) fun v w46 hF46 hR => ?_
          subst hR
          have hrow := hrow.kept hF46.keep (fun _ _ h => h)
          refine ⟨_, rfl, _, rfl, hF46.stp0 _ _, fun hF46' hlt46 => ?_⟩
          refine RetM.use (least_C _ _ _) fun v w51 hF51 hR => ?_
          subst hR
          have hrow := hrow.kept hF51.keep (fun _ _ h => h)
          refine ⟨_, rfl, _, rfl, hF51.stp0 _ _, fun hF51' => ⟨⟨by omega, by omega, hrow.isSome⟩, fun w54 hc54 hF54 => ?_⟩⟩
          have hrow := hrow.kept hc54.keep hAn
          have hcost : sumS (p.debts.getD who.toNat 0) (p.owe x) = p.cost who.toNat x := rfl
          have hcb : 0 ≤ p.cost who.toNat x ∧ p.cost who.toNat x ≤ 1099511627776 := sumS_bounds _ _
          rw [hn, hcost]
          unfold Pc.alloc1
          generalize p.cost who.toNat x = d1 at hcb ⊢
          rw [wrap_u64_of (x := d1 - _) (by omega) (by omega), wrap_u64_of (x := p.credit - _) (by omega) (by omega)]
          obtain ⟨b, cs, ho, hA, hB, hle, hput⟩ := hrow.put hi (d1 - min d1 p.credit)
          refine ⟨b, who.toNat, cs, 22, ho, hB, hle, .inl (hNw _ hA), hAn _ hA, fun w83 hu83 hF83 w84 hc84 hF84 => ?_⟩
          have hrow := (hput w83 hu83).kept hc84.keep hAn
          refine ⟨A', c', ?_, .inr ⟨?_, hNw⟩⟩
          · simp only [List.length_set]
          · simpa only [List.length_set] using hrow
        rw [wrap_u64_of m0 (by omega), tdiv_pos m0, tmod_pos m0, wrap_u64_of d0 (by omega), wrap_u64_of (x := x * p.est / p.room + 1) (by omega) (by omega)]
        refine ⟨fun h6 w61 hc61 hF61 => key _ _ hF61 (hrow31.kept hc61.keep hAn) ?_, fun h6 w61 hc61 hF61 => key _ _ hF61 (hrow31.kept hc61.keep hAn) ?_⟩
        · unfold Pc.owe
          rw [if_pos (of_decide_eq_true h6)]
        · unfold Pc.owe
          rw [if_neg (of_decide_eq_false h6), Int.add_zero]
    · rw [Pc.check_wrong hr] at h; cases h

end Go.Proofs.Ytfpmimnbocflpaa
