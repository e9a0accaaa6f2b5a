/- slices.AppendSeq at a number's bytes: walked. -/
import Derived.RangeFuncNested
import Derived.RangeFuncBound
import Derived.RangeFuncCalls
import Derived.RangeFuncLeaves
import Derived.RangeFuncBox
import Derived.Shelf.Abstract
import Derived.Shelf.RegionOpen
import Derived.WalkKit
import Derived.OwnWalkIn
import Derived.TacticsInMore
import Derived.LoopNIn
import Derived.LoopIn
import Derived.WalkSmall
import Derived.Test.YtmhlgjmepkcniaaGreatDoorProg
import Derived.Test.YtmhlgjmepkcniaaGreatDoorZh
namespace Go.Proofs
open Go.RowKit Go.Shelf Go.Dw
attribute [local go_sem] Oper.semAt_some

def byteN (n : Int) (i : Nat) : Int := n / 2 ^ (8 * i) % 256
def encB (x : Int) : Array Value := #[.int .u8 x]
def uptoB (n : Int) (k : Nat) : List Int := (List.range k).map (byteN n)
theorem uptoB_succ (n : Int) (k : Nat) : uptoB n (k + 1) = uptoB n k ++ [byteN n k] := by simp [uptoB, List.range_succ]
theorem uptoB_length (n : Int) (k : Nat) : (uptoB n k).length = k := by simp [uptoB]
def KpC (p : Addr) (W W' : World) : Prop := ∀ v, W.cell? p = some v → W'.cell? p = some v

set_option maxRecDepth 100000 in
set_option maxHeartbeats 2000000 in
theorem bytes_in (F : Fence) (n : Nat) (h26 : F.fn 26) (hro : F.round = none) (hn : 1 ≤ n) (l : Nat) (p : Addr) (nv : Int) (J Jx : List Int → World → Prop)
 (hY : ∀ pre x W, J pre W → pre.length < 8 → YieldAt F (n - 1) Tryz.prog l (encB x) W fun e W' =>
  (e = .returned (.bool true) ∧ J (pre ++ [x]) W' ∧ KpC p W W') ∨ (e = .returned (.bool false) ∧ Jx (pre ++ [x]) W'))
 (W : World) (hp : W.cell? p = some (.int .u64 nv)) (h0 : J [] W) :
 CallsIn F n Tryz.prog 26 #[.func (.yield l) #[] #[], .pointer (some p)] W fun e W' => (∃ v, e = .returned v) ∧
  ((∃ ys, ys = uptoB nv 8 ∧ J ys W') ∨ (∃ pre, True ∧ Jx pre W')) := by
 refine callsIn_of_wp Tryz.func26 rfl h26 ?_ hro
 simp only [Tryz.ntmps26, List.size_toArray, List.length_cons, List.length_nil, Nat.reduceAdd, Nat.reduceSub, Array.replicate_succ, Array.replicate_zero, List.push_toArray, List.append_toArray, List.nil_append, List.cons_append]
 gi_wp2
 gi_loopw [4] (fun i wr => ∃ k : Nat, k ≤ 8 ∧ i = .int .i64 (k : Int) ∧ J (uptoB nv k) wr ∧ KpC p W wr)
  (fun i _ => (8 - intOf i).toNat)
 case atStart => exact ⟨0, Nat.zero_le _, by simp, h0, fun _ h => h⟩
 case round =>
  obtain ⟨k, hk, rfl, hJs, hnx⟩ := hrel
  have hp' := hnx _ hp
  by_cases hlt : k < 8
  ·obtain ⟨fn, tmps, assign, body, hy, hR⟩ := hY _ (byteN nv k) wr hJs (by rw [uptoB_length]; exact hlt)
   simp only [encB, byteN] at hy
   gi_wp2
   refine hR.mono ?_
   rintro e W3 (⟨rfl, hJ3, hk3⟩ | ⟨rfl, hJx3⟩)
   ·gi_wp2
    go_roundw
    case rel => exact ⟨k + 1, by omega, by simp, by rw [uptoB_succ]; exact hJ3, fun v hv => hk3 v (hnx v hv)⟩
    case measure => simp [intOf]; omega
   ·gi_wp2
    refine bodyPost_ret (results_none rfl _ _ _) rfl ?_
    exact ⟨⟨_, rfl⟩, .inr ⟨_, trivial, hJx3⟩⟩
  ·obtain rfl : k = 8 := by omega
   gi_wp2
   go_end0
   exact ⟨⟨_, rfl⟩, .inl ⟨_, rfl, hJs⟩⟩

theorem bytes_stops (F : Fence) (n : Nat) (h26 : F.fn 26) (hro : F.round = none) (hn : 1 ≤ n) (p : Addr) (nv : Int) (w : World) (hc : w.cell? p = some (.int .u64 nv)) :
 SeqStopsK F n Tryz.prog 26 #[.pointer (some p)] encB (KpC p) (fun ys => ys = uptoB nv 8) (fun _ => True) 8 w := fun l J Jx W hW _ _ hY h0 =>
 bytes_in F n h26 hro hn l p nv J Jx hY W ((hW.cell (p := p) (Cw.cell_lt hc)).trans hc) h0

theorem wpListIn_append_run {F : Fence} {n : Nat} {P : Program} (w : World) {ops : Array Oper} {rest : List Oper} {o : Oper} {a : Act} {Q : Exit → Act → World → Prop}
 (hg : o.guard = none) (s x : Operand) (t : TypeId) (hop : o.op = Op.call { callee := Callee.builtin Builtin.append, args := #[s, x], argTypes := #[t, t] })
 {e : TypeId} {i : TypeInfo} {z : Value} {sz : Nat} (ht : P.underlying t = some (.slice e)) (hi : P.info? e = some i) (hz : i.zero = some z) (hsz : i.size = sz) (hzs : z.cells.size = sz) (h0 : 0 < sz) {v : Value} {k m c2 : Nat} {A2 : Option Addr} {xs ys : List Value} (hs : a.eval s = v) (hx : a.eval x = .slice A2 m c2)
 (hown : w.ownsRow 0 e sz v k xs) {Q2 : Nat → Prop} (hy : CatZ w Q2 A2 ys) (hl : ys.length = m * sz) (h1 : ∀ u ∈ ys, Cw.oneB u = true) (h63 : k + m ≤ maxLen) (hb : (k + m) * i.bytes ≤ 140737488355328)
 (hK : ∀ v' w', w'.ownsRow 0 e sz v' (k + m) (xs ++ ys) → w.grownBy w' v.ownBlock → (∀ g, v'.ownBlock = some g → v.ownBlock = some g ∨ (g = w.heap.size ∧ g < w'.heap.size)) → wpListIn F n P ops Q rest (a.put o.dst v') w') :
 wpListIn F n P ops Q (o :: rest) a w := by
 refine wpListIn_plain hg fun K hK' => ?_
 obtain ⟨v', w', hrun, r1, r2, r3⟩ := append_run (P := P) (w := w) (ty := o.type) (c2 := c2) ht hi hz hsz hzs h0 hown hy hl h1 h63 hb
 unfold Oper.wpIn
 refine ⟨?_, ?_⟩
 ·simp [Oper.about, hop, resolve, Target.leads, Sem.run_pure]
 ·rw [Oper.semAt_plain F _ _ (by rw [hop]; intro c hc'; cases hc')]
  simp [execOp, hop, resolve, invoke, builtin, hs, hx, hrun, Result.andThen]
  exact hK' _ _ (hK v' w' r1 r2 r3)
end Go.Proofs
