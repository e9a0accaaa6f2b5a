/- Steps that are handed in, laid open. -/
import Derived.Test.YtfpmimnbocflpaaOpen
import Derived.Test.YtfpmimnbocflpaaL5
namespace Go.Proofs.Ytfpmimnbocflpaa
open Go Go.Cw Go.ChangeShapes Go.WideShapes
set_option linter.unusedVariables false

theorem u8_wf {n : Int} (h : (Lit.int .u8 n).wf = true) : 0 ≤ n ∧ n < 256 := by
  simp only [Lit.wf, Bool.and_eq_true, decide_eq_true_eq] at h
  have e1 : IntKind.u8.min = 0 := rfl
  have e2 : IntKind.u8.max = 255 := rfl
  omega

theorem list3 {α : Type} {cs : List α} (h : cs.length = 3) : ∃ c0 c1 c2, cs = [c0, c1, c2] := by
  match cs, h with
  | [c0, c1, c2], _ => exact ⟨c0, c1, c2, rfl⟩

theorem cells5 : Try.prog.cellsOf 5 = 1 := by kernel_rfl
theorem cells46 : Try.prog.cellsOf 46 = 3 := by kernel_rfl

section
variable {H : Type} {enc : TypeId × Value → H} {W : World} {base : Nat} {spare : Nat → Bool} {held : Bool} {fuel : Nat} {cs : List Value} {x : DataW H × List MemPlace}

theorem open_step (h : DataW.trod enc Try.prog W base spare held fuel 46 cs = some x) :
    ∃ a b c, cs = [.int .u8 a, .int .u64 b, .int .u64 c] ∧ (0 ≤ a ∧ a < 256) ∧ (0 ≤ b ∧ b < 18446744073709551616) ∧ (0 ≤ c ∧ c < 18446744073709551616) := by
  obtain ⟨xs, n, _, rfl, hl, hlen, hf⟩ := DataW.trod_struct Try.underlying46 h
  rw [cells46] at hl
  obtain ⟨c0, c1, c2, rfl⟩ := list3 hl
  obtain ⟨y0, y1, y2, rfl⟩ := list3 hlen
  have h0 : DataW.trod enc Try.prog W base spare held n 5 ((List.drop 0 [c0, c1, c2]).take (Try.prog.cellsOf 5)) = some y0 := hf 0 _ rfl
  have h1 : DataW.trod enc Try.prog W base spare held n 22 ((List.drop 1 [c0, c1, c2]).take (Try.prog.cellsOf 22)) = some y1 := hf 1 _ rfl
  have h2 : DataW.trod enc Try.prog W base spare held n 22 ((List.drop 2 [c0, c1, c2]).take (Try.prog.cellsOf 22)) = some y2 := hf 2 _ rfl
  simp only [cells5, cells22, List.drop, List.take] at h0 h1 h2
  obtain ⟨n0, e0, _, w0⟩ := DataW.trod_int Try.underlying5 h0
  obtain ⟨n1, e1, _, w1⟩ := DataW.trod_int Try.underlying22 h1
  obtain ⟨n2, e2, _, w2⟩ := DataW.trod_int Try.underlying22 h2
  simp only [List.cons.injEq, and_true] at e0 e1 e2
  subst e0 e1 e2
  exact ⟨n0, n1, n2, rfl, u8_wf w0, u64_wf w1, u64_wf w2⟩

theorem arg_steps {r : Reach} {b0 : Nat} {v : Value} {d : DataW H} {ps : List MemPlace} (hv : Value.okWide Try.prog W r b0 44 v) (h : DataW.Trod enc Try.prog W base spare held 44 v d ps) :
    ∃ A n c, v = .slice A n c ∧ StepsAt W A n := by
  obtain ⟨a, len, cap, rfl⟩ := okWide_slice Try.underlying44 hv
  obtain ⟨fuel, hf⟩ := h
  rcases DataW.trod_slice Try.underlying44 hf with ⟨hcs, _⟩ | ⟨p, l, c, elems, rest, n, _, hcs, _, _, hl, hm, hlen, hel, _, _⟩
  · simp only [Value.cells, List.cons.injEq, Value.slice.injEq, and_true] at hcs
    obtain ⟨rfl, rfl, rfl⟩ := hcs
    exact ⟨none, 0, 0, rfl, fun h => absurd h (Nat.lt_irrefl _), fun i hi => absurd hi (Nat.not_lt_zero _), Nat.zero_le _⟩
  · simp only [Value.cells, List.cons.injEq, Value.slice.injEq, and_true] at hcs
    obtain ⟨rfl, rfl, rfl⟩ := hcs
    refine ⟨some p, len, cap, rfl, fun _ => rfl, fun i hi => ?_, Nat.le_trans hl hm⟩
    have := hel i hi
    rw [List.getElem?_eq_getElem (by omega), cells46] at this
    obtain ⟨cs, hcs, ht⟩ := Option.bind_eq_some_iff.1 this
    obtain ⟨a, b, c, rfl, ha, hb, hc⟩ := open_step ht
    refine ⟨a, b, c, ⟨p, rfl, fun m hm => ?_⟩, ha, hb, hc⟩
    exact (World.cells?_some hcs).2.2 m hm
end

end Go.Proofs.Ytfpmimnbocflpaa
