/- Moves that are handed in, laid open. -/
import Derived.Test.YtenogjddakjhcaaGreatDoorTn1
import Derived.SizedLaws
import Derived.ChangeSlices
import Derived.Lib.SmallJoins
namespace Go.Proofs
open Go Go.Cw Go.Dw Go.ChangeShapes Go.WideShapes
set_option linter.unusedVariables false
theorem list2 {α : Type} {cs : List α} (h : cs.length = 2) : ∃ c0 c1, cs = [c0, c1] := by
 match cs, h with
 | [c0, c1], _ => exact ⟨c0, c1, rfl⟩
theorem cells23 : Tryz.prog.cellsOf 23 = 1 := by kernel_rfl
theorem cells34 : Tryz.prog.cellsOf 34 = 2 := by kernel_rfl
theorem bytes34 : Tryz.prog.bytesOf 34 = 16 := by kernel_rfl
section
variable {H : Type} {enc : TypeId × Value → H} {W : World} {base : Nat} {spare : Nat → Bool} {held : Bool} {fuel : Nat} {cs : List Value} {x : DataW H × List MemPlace}
theorem open_move (h : DataW.trod enc Tryz.prog W base spare held fuel 34 cs = some x) : ∃ m : Mv, cs = cMv m := by
 obtain ⟨xs, n, _, rfl, hl, hlen, hf⟩ := DataW.trod_struct Tryz.underlying34 h
 rw [cells34] at hl
 obtain ⟨c0, c1, rfl⟩ := list2 hl
 obtain ⟨y0, y1, rfl⟩ := list2 hlen
 have h0 : DataW.trod enc Tryz.prog W base spare held n 23 ((List.drop 0 [c0, c1]).take (Tryz.prog.cellsOf 23)) = some y0 := hf 0 _ rfl
 have h1 : DataW.trod enc Tryz.prog W base spare held n 23 ((List.drop 1 [c0, c1]).take (Tryz.prog.cellsOf 23)) = some y1 := hf 1 _ rfl
 simp only [cells23, List.drop, List.take] at h0 h1
 obtain ⟨n0, e0, _, w0⟩ := DataW.trod_int Tryz.underlying23 h0
 obtain ⟨n1, e1, _, w1⟩ := DataW.trod_int Tryz.underlying23 h1
 simp only [List.cons.injEq, and_true] at e0 e1
 subst e0 e1
 exact ⟨⟨(n0, n1), w0, w1⟩, rfl⟩

set_option maxRecDepth 100000 in
theorem arg_moves {r : Reach} {b0 : Nat} {v : Value} {d : DataW H} {ps : List MemPlace} {ts : List TypeId} {ds : List (DataW H)} {j : Nat} (hv : Value.okWide Tryz.prog W r b0 22 v) (h : DataW.Trod enc Tryz.prog W base spare held 22 v d ps)
 (hsz : (DataW.weightsEach Tryz.prog ts ds).all (· ≤ reachBytes) = true) (ht : ts[j]? = some 22) (hd : ds[j]? = some d) :
 ∃ (A : Option Addr) (c : Nat) (zs : List Mv), v = .slice A zs.length c ∧ MvsAt W.heap.size W v zs ∧ zs.length ≤ c ∧ zs.length * 16 ≤ 140737488351232 := by
 obtain ⟨a, len, cap, rfl⟩ := okWide_slice Tryz.underlying22 hv
 obtain ⟨fuel, hf⟩ := h
 rcases DataW.trod_slice Tryz.underlying22 hf with ⟨hcs, _⟩ | ⟨p, l, c, elems, rest, n, _, hcs, hx, _, hl, hm, hlen, hel, _, _⟩
 ·simp only [Value.cells, List.cons.injEq, Value.slice.injEq, and_true] at hcs
  obtain ⟨rfl, rfl, rfl⟩ := hcs
  exact ⟨none, 0, [], rfl, .inl ⟨_, _, rfl, rfl⟩, by simp, by simp⟩
 ·simp only [Value.cells, List.cons.injEq, Value.slice.injEq, and_true] at hcs
  obtain ⟨rfl, rfl, rfl⟩ := hcs
  obtain ⟨rfl, rfl⟩ := Prod.mk.inj hx
  have hw : len * 16 ≤ 140737488351232 := by
   have h1 : (elems.length + rest.length) * 16 ≤ reachBytes := of_decide_eq_true (List.all_eq_true.1 hsz ((elems.length + rest.length) * 16) (DataW.weights_mem_each ht hd _ (by simp [DataW.weights, Tryz.underlying22, bytes34])))
   unfold reachBytes at h1
   omega
  have hcell : ∀ i, i < len → ∃ m : Mv, ∀ q, q < 2 → W.cell? ((p.add (i * 2)).add q) = (cMv m)[q]? := by
   intro i hi
   have := hel i hi
   rw [List.getElem?_eq_getElem (by omega), cells34] at this
   obtain ⟨cs, hcs, ht⟩ := Option.bind_eq_some_iff.1 this
   obtain ⟨m, rfl⟩ := open_move ht
   exact ⟨m, (World.cells?_some hcs).2.2⟩
  obtain ⟨f, hfs⟩ : ∃ f : Nat → Mv, ∀ i, i < len → ∀ q, q < 2 → W.cell? ((p.add (i * 2)).add q) = (cMv (f i))[q]? := by
   have hall : ∀ i, ∃ m : Mv, i < len → ∀ q, q < 2 → W.cell? ((p.add (i * 2)).add q) = (cMv m)[q]? := fun i => by
    by_cases hi : i < len
    ·obtain ⟨m, hm⟩ := hcell i hi
     exact ⟨m, fun _ => hm⟩
    ·exact ⟨mv0, fun h => absurd h hi⟩
   exact Classical.axiomOfChoice hall
  refine ⟨some p, cap, (List.range len).map f, by simp, ?_, by simpa using hl, by simpa using hw⟩
  by_cases h0 : len = 0
  ·subst h0; exact .inl ⟨_, _, rfl, rfl⟩
  ·have hc0 := hfs 0 (by omega) 0 (by decide)
   have hlt : p.block < W.heap.size := by
    have := cell_lt hc0
    rw [add_block, add_block] at this
    exact this
   obtain ⟨b, off, sp⟩ := p
   have hsp : sp = none := by
    cases sp with
    | none => rfl
    | some s =>
      exfalso
      simp only [cMv, List.getElem?_cons_zero, World.cell?, Addr.add] at hc0
      split at hc0 <;> simp at hc0
   subst hsp
   refine .inr ⟨b, off, cap, by simp, hlt, by simpa using hw, fun j hj => ?_⟩
   have hj : j < len := by simpa using hj
   have e : ((List.range len).map f)[j]?.getD mv0 = f j := by simp [hj]
   have k0 := hfs j hj 0 (by decide)
   have k1 := hfs j hj 1 (by decide)
   rw [addN, addN] at k0 k1
   rw [e]
   exact ⟨k0, k1⟩

theorem repA_moves {w : World} {Z : Nat → Nat → Prop} {zs : List Mv} {A : Option Addr} {c : Nat} (h : MvsAt w.heap.size w (.slice A zs.length c) zs) (hc : zs.length ≤ c) (hs : zs.length * 16 ≤ 140737488351232) (hz : ∀ k, k < w.heap.size → Z 2 k) {ps : List Pm} {ds : List (List D)} {vs : List Value} (k : RepA w Z ps ds vs []) :
 RepA w Z (⟨false, [.l 2 34 [.v (.int .u64), .v (.int .u64)]], false⟩ :: ps) ([.l (zs.map dMv)] :: ds) (.slice A zs.length c :: vs) [] :=
 .cons (f := []) (fs := []) (p := ⟨false, [.l 2 34 shM], false⟩) (ys := [.slice A zs.length c]) (.cons (f := []) (fs := []) (mvs_rep h hc hz (by unfold maxLen; omega)) .nil) (fun _ => rfl) k
end
end Go.Proofs
