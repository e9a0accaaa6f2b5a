/- A pacer that is handed in, laid open. -/
import Derived.Test.YtfpmimnbocflpaaC4
import Derived.SizedLaws
import Derived.ChangeSlices
import Derived.Lib.SmallJoins
namespace Go.Proofs.Ytfpmimnbocflpaa
open Go Go.Cw Go.ChangeShapes Go.WideShapes
set_option linter.unusedVariables false

theorem u64_wf {n : Int} (h : (Lit.int .u64 n).wf = true) : 0 ≤ n ∧ n < 18446744073709551616 := by
  simp only [Lit.wf, Bool.and_eq_true, decide_eq_true_eq] at h
  have e1 : IntKind.u64.min = 0 := rfl
  have e2 : IntKind.u64.max = 18446744073709551615 := rfl
  omega

theorem i64_wf {n : Int} (h : (Lit.int .i64 n).wf = true) : -9223372036854775808 ≤ n ∧ n < 9223372036854775808 := by
  simp only [Lit.wf, Bool.and_eq_true, decide_eq_true_eq] at h
  have e1 : IntKind.i64.min = -9223372036854775808 := rfl
  have e2 : IntKind.i64.max = 9223372036854775807 := rfl
  omega

theorem list10 {α : Type} {cs : List α} (h : cs.length = 10) : ∃ c0 c1 c2 c3 c4 c5 c6 c7 c8 c9, cs = [c0, c1, c2, c3, c4, c5, c6, c7, c8, c9] := by
  match cs, h with
  | [c0, c1, c2, c3, c4, c5, c6, c7, c8, c9], _ => exact ⟨c0, c1, c2, c3, c4, c5, c6, c7, c8, c9, rfl⟩

theorem cells3 : Try.prog.cellsOf 3 = 1 := by kernel_rfl
theorem cells4 : Try.prog.cellsOf 4 = 1 := by kernel_rfl
theorem cells22 : Try.prog.cellsOf 22 = 1 := by kernel_rfl
theorem cells23 : Try.prog.cellsOf 23 = 1 := by kernel_rfl
theorem cells25 : Try.prog.cellsOf 25 = 10 := by kernel_rfl
theorem bytes22 : Try.prog.bytesOf 22 = 8 := by kernel_rfl

section
variable {H : Type} {enc : TypeId × Value → H} {W : World} {base : Nat} {spare : Nat → Bool} {held : Bool} {fuel : Nat} {cs : List Value} {x : DataW H × List MemPlace}

/-- Whole numbers of 64 bits, laid open. -/
theorem open_u64s (h : DataW.trod enc Try.prog W base spare held fuel 23 cs = some x) (hw : ∀ n ∈ x.1.weights Try.prog 23, n ≤ reachBytes) :
    ∃ A n c l, cs = [.slice A n c] ∧ Ints .u64 W A n l ∧ (∀ d ∈ l, 0 ≤ d ∧ d < 18446744073709551616) ∧ n * 8 ≤ 140737488355328 - 4096 := by
  rcases open_ints Try.underlying23 Try.underlying22 cells22 h with ⟨rfl, _⟩ | ⟨a, len, cap, zs, rfl, _, hl, hm, hz, rfl, hc, hwf⟩
  · exact ⟨none, 0, 0, [], rfl, ⟨rfl, fun h => absurd h (Nat.lt_irrefl _)⟩, (fun d hd => by cases hd), by omega⟩
  · have hlz : len ≤ zs.length := by rw [hz]; split <;> omega
    refine ⟨some a, len, cap, zs.take len, rfl, ⟨by simp; omega, fun h0 => ⟨a, rfl, fun i x hx => ?_⟩⟩, fun d hd => u64_wf (hwf d (List.mem_of_mem_take hd)), ?_⟩
    · by_cases hi : i < len
      · rw [List.getElem?_take_of_lt hi] at hx
        rw [hc i (by omega), List.getD_eq_getElem?_getD, hx]
        rfl
      · rw [List.getElem?_eq_none (by simp; omega)] at hx
        cases hx
    · have := hw ((ChangeShapes.lits (H := H) .u64 (zs.take len)).length + (ChangeShapes.lits (H := H) .u64 (zs.drop len)).length |> (· * Try.prog.bytesOf 22)) (by simp [DataW.weights, Try.underlying23])
      simp only [bytes22, ChangeShapes.lits, List.length_map, List.length_take, List.length_drop, reachBytes] at this
      omega

theorem open_pacer (h : DataW.trod enc Try.prog W base spare held fuel 25 cs = some x) (hw : ∀ n ∈ x.1.weights Try.prog 25, n ≤ reachBytes) :
    ∃ (p : Pc) (A : Option Addr) (c : Nat), cs = p.vals A p.debts.length c ∧ p.Typed ∧ Ints .u64 W A p.debts.length p.debts := by
  obtain ⟨xs, n, _, rfl, hl, hlen, hf⟩ := DataW.trod_struct Try.underlying25 h
  rw [cells25] at hl
  obtain ⟨c0, c1, c2, c3, c4, c5, c6, c7, c8, c9, rfl⟩ := list10 hl
  obtain ⟨y0, y1, y2, y3, y4, y5, y6, y7, y8, y9, rfl⟩ := list10 hlen
  have h0 : DataW.trod enc Try.prog W base spare held n 3 ((List.drop 0 [c0, c1, c2, c3, c4, c5, c6, c7, c8, c9]).take (Try.prog.cellsOf 3)) = some y0 := hf 0 _ rfl
  have h1 : DataW.trod enc Try.prog W base spare held n 22 ((List.drop 1 [c0, c1, c2, c3, c4, c5, c6, c7, c8, c9]).take (Try.prog.cellsOf 22)) = some y1 := hf 1 _ rfl
  have h2 : DataW.trod enc Try.prog W base spare held n 22 ((List.drop 2 [c0, c1, c2, c3, c4, c5, c6, c7, c8, c9]).take (Try.prog.cellsOf 22)) = some y2 := hf 2 _ rfl
  have h3 : DataW.trod enc Try.prog W base spare held n 4 ((List.drop 3 [c0, c1, c2, c3, c4, c5, c6, c7, c8, c9]).take (Try.prog.cellsOf 4)) = some y3 := hf 3 _ rfl
  have h4 : DataW.trod enc Try.prog W base spare held n 22 ((List.drop 4 [c0, c1, c2, c3, c4, c5, c6, c7, c8, c9]).take (Try.prog.cellsOf 22)) = some y4 := hf 4 _ rfl
  have h5 : DataW.trod enc Try.prog W base spare held n 22 ((List.drop 5 [c0, c1, c2, c3, c4, c5, c6, c7, c8, c9]).take (Try.prog.cellsOf 22)) = some y5 := hf 5 _ rfl
  have h6 : DataW.trod enc Try.prog W base spare held n 22 ((List.drop 6 [c0, c1, c2, c3, c4, c5, c6, c7, c8, c9]).take (Try.prog.cellsOf 22)) = some y6 := hf 6 _ rfl
  have h7 : DataW.trod enc Try.prog W base spare held n 22 ((List.drop 7 [c0, c1, c2, c3, c4, c5, c6, c7, c8, c9]).take (Try.prog.cellsOf 22)) = some y7 := hf 7 _ rfl
  have h8 : DataW.trod enc Try.prog W base spare held n 22 ((List.drop 8 [c0, c1, c2, c3, c4, c5, c6, c7, c8, c9]).take (Try.prog.cellsOf 22)) = some y8 := hf 8 _ rfl
  have h9 : DataW.trod enc Try.prog W base spare held n 23 ((List.drop 9 [c0, c1, c2, c3, c4, c5, c6, c7, c8, c9]).take (Try.prog.cellsOf 23)) = some y9 := hf 9 _ rfl
  simp only [cells3, cells4, cells22, cells23, List.drop, List.take] at h0 h1 h2 h3 h4 h5 h6 h7 h8 h9
  obtain ⟨n0, e0, _, w0⟩ := DataW.trod_int Try.underlying3 h0
  obtain ⟨n1, e1, _, w1⟩ := DataW.trod_int Try.underlying22 h1
  obtain ⟨n2, e2, _, w2⟩ := DataW.trod_int Try.underlying22 h2
  obtain ⟨b3, e3, _⟩ := DataW.trod_bool Try.underlying4 h3
  obtain ⟨n4, e4, _, w4⟩ := DataW.trod_int Try.underlying22 h4
  obtain ⟨n5, e5, _, w5⟩ := DataW.trod_int Try.underlying22 h5
  obtain ⟨n6, e6, _, w6⟩ := DataW.trod_int Try.underlying22 h6
  obtain ⟨n7, e7, _, w7⟩ := DataW.trod_int Try.underlying22 h7
  obtain ⟨n8, e8, _, w8⟩ := DataW.trod_int Try.underlying22 h8
  obtain ⟨A, m, c, l, e9, hi, hd, hb⟩ := open_u64s h9 (fun k hk => hw k (by
    simp only [DataW.weights, Try.underlying25, List.map, DataW.weightsEach]
    simp only [List.mem_append]
    simp [hk]))
  simp only [List.cons.injEq, and_true] at e0 e1 e2 e3 e4 e5 e6 e7 e8 e9
  subst e0 e1 e2 e3 e4 e5 e6 e7 e8 e9
  obtain rfl := hi.1
  exact ⟨⟨n0, n1, n2, b3, n4, n5, n6, n7, n8, l⟩, A, c, rfl, ⟨i64_wf w0, u64_wf w1, u64_wf w2, u64_wf w4, u64_wf w5, u64_wf w6, u64_wf w7, u64_wf w8, hd, hb⟩, hi⟩

/-- A pacer among the arguments. -/
theorem arg_pacer {r : Reach} {b0 : Nat} {v : Value} {d : DataW H} {ps : List MemPlace} {ts : List TypeId} {ds : List (DataW H)} {j : Nat} (hv : Value.okWide Try.prog W r b0 25 v)
    (h : DataW.Trod enc Try.prog W base spare held 25 v d ps) (hsz : (DataW.weightsEach Try.prog ts ds).all (· ≤ reachBytes) = true) (ht : ts[j]? = some 25) (hd : ds[j]? = some d) :
    ∃ (p : Pc) (A : Option Addr) (c : Nat), v = p.val A p.debts.length c ∧ p.Typed ∧ Ints .u64 W A p.debts.length p.debts := by
  obtain ⟨cs, rfl, _⟩ := okWide_struct Try.underlying25 hv
  obtain ⟨fuel, hf⟩ := h
  obtain ⟨p, A, c, he, hp, hi⟩ := open_pacer hf (fun n hn => by
    have := List.all_eq_true.1 hsz n (DataW.weights_mem_each ht hd n hn)
    simpa using this)
  refine ⟨p, A, c, ?_, hp, hi⟩
  simp only [Value.cells] at he
  exact congrArg Value.agg (Array.toList_inj.1 he)

theorem arg_u64s {r : Reach} {b0 : Nat} {v : Value} {d : DataW H} {ps : List MemPlace} {ts : List TypeId} {ds : List (DataW H)} {j : Nat} (hv : Value.okWide Try.prog W r b0 23 v)
    (h : DataW.Trod enc Try.prog W base spare held 23 v d ps) (hsz : (DataW.weightsEach Try.prog ts ds).all (· ≤ reachBytes) = true) (ht : ts[j]? = some 23) (hd : ds[j]? = some d) :
    ∃ A n c l, v = .slice A n c ∧ Ints .u64 W A n l ∧ (∀ d ∈ l, 0 ≤ d ∧ d < 18446744073709551616) ∧ n * 8 ≤ 140737488355328 - 4096 := by
  obtain ⟨a, len, cap, rfl⟩ := okWide_slice Try.underlying23 hv
  obtain ⟨fuel, hf⟩ := h
  obtain ⟨A, n, c, l, he, h1, h2, h3⟩ := open_u64s hf (fun n hn => by
    have := List.all_eq_true.1 hsz n (DataW.weights_mem_each ht hd n hn)
    simpa using this)
  refine ⟨A, n, c, l, ?_, h1, h2, h3⟩
  simpa [Value.cells] using he
end

end Go.Proofs.Ytfpmimnbocflpaa
