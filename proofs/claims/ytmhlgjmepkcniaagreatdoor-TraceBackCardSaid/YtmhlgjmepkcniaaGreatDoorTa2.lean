/- slices.AppendSeq at a number's bytes: its walk, whole. -/
import Derived.Test.YtmhlgjmepkcniaaGreatDoorTa1
namespace Go.Proofs
open Go.RowKit Go.Shelf Go.Dw
attribute [local go_sem] Oper.semAt_some

def intsB (l : List Int) : List Value := l.map (Value.int .u8)
theorem infoB : (Tryz.prog.info? 5).map (fun i => (i.zero, i.size, i.bytes)) = some (some (.int .u8 0), 1, 1) := by kernel_rfl

def SeqPost (f : List Nat) (w : World) (xs : List Value) (n : Nat) (e : Ending) (W' : World) : Prop :=
 ∃ v, e = .returned v ∧ W'.ownsRow 0 5 1 v n xs ∧ (∀ g, v.ownBlock = some g → g ∈ f ∨ w.heap.size ≤ g) ∧ Cw.Fr (· ∈ f) w W'

structure InvB (f : List Nat) (w : World) (p : Addr) (nv : Int) (xs : List Value) (n : Nat) (W : World) : Prop where
 row : ∃ v, Boxed W w.heap.size 34 v ∧ W.ownsRow 0 5 1 v n xs ∧ ∀ g, v.ownBlock = some g → g ∈ f ∨ w.heap.size < g
 cell : W.cell? p = some (.int .u64 nv)
 fr : Cw.Fr (· ∈ f) w W
 size : w.heap.size < W.heap.size

theorem InvB.grown {f : List Nat} {w : World} {p : Addr} {nv : Int} {xs : List Value} {n : Nat} {W W' : World} {row : Option Nat} (h : InvB f w p nv xs n W) (hp : p.block < w.heap.size) (hg : W.grownBy W' row) (hr : ∀ r, row = some r → w.heap.size < r ∧ ∃ o : Obj, W.heap[r]? = some o ∧ o.isCells = false) : InvB f w p nv xs n W' := by
 obtain ⟨⟨v, h1, h2, h3⟩, h4, h5, h6⟩ := h
 refine ⟨⟨v, h1.kept hg (fun e => ?_), h2.kept hg ?_, h3⟩, ?_, ⟨hg.os.trans h5.os, hg.tape.trans h5.tape, hg.output.trans h5.output, Nat.le_trans h5.size hg.size, fun k hk hn => ?_⟩, Nat.lt_of_lt_of_le h6 hg.size⟩
 ·have := (hr _ e.symm).1; omega
 ·cases hb : v.ownBlock with
  | none => exact .inl rfl
  | some g =>
    refine .inr fun e => ?_
    obtain ⟨_, o, ho, hc⟩ := hr g e.symm
    rcases h2.2 with ⟨rfl, _⟩ | ⟨g', cap, cur, rfl, _, hgb, _⟩
    ·cases hb
    ·obtain rfl := Option.some.inj hb
     rw [hgb] at ho; cases ho; cases hc
 ·rw [World.cell?_of_block (hg.block p.block (by omega) (fun e => by have := (hr _ e.symm).1; omega)), h4]
 ·exact (hg.block k (by omega) (fun e => by have := (hr _ e.symm).1; omega)).trans (h5.block k hk hn)

theorem results_one {fn : Func} {t1 : Tmp} (hr : fn.results = #[.tmp t1]) (P : Program) (tmps : Array Value) (w : World) : (results fn tmps).run P w = .ok (tmps.getD t1 undef) w := by
 simp [results, hr]

set_option maxRecDepth 100000 in
set_option maxHeartbeats 4000000 in
theorem seq_in (F : Fence) (n : Nat) (h15 : F.fn 15) (h26 : F.fn 26) (hro : F.round = none) (hn : 2 ≤ n) (f : List Nat) (sl : Value) (xs : List Value) (k : Nat) (p : Addr) (nv : Int) (w : World) (hown : w.ownsRow 0 5 1 sl k xs) (hob : ∀ g, sl.ownBlock = some g → g ∈ f) (hsl : ∃ A l c, sl = .slice A l c)
 (hp : w.cell? p = some (.int .u64 nv)) (hpf : ¬ p.block ∈ f) (hk : k ≤ 1000000) :
 CallsIn F n Tryz.prog 15 #[sl, .func (.func 26) #[] #[.pointer (some p)]] w (SeqPost f w (xs ++ intsB (uptoB nv 8)) (k + 8)) := by
 have h1 : 1 ≤ n := by omega
 have hpl := Cw.cell_lt hp
 obtain ⟨A, sll, slc, rfl⟩ := hsl
 refine callsIn_of_wp_marks Tryz.func15 rfl h15 ?_ hro
 simp only [Tryz.ntmps15, List.size_toArray, List.length_cons, List.length_nil, Nat.reduceAdd, Nat.reduceSub, Array.replicate_succ, Array.replicate_zero, List.push_toArray, List.append_toArray, List.nil_append, List.cons_append]
 gi_wp2
 have hB := Boxed.new w 34 (.slice A sll slc)
 have hI0 : InvB f w p nv (xs ++ intsB []) (k + 0) (w.alloc (.cells #[.slice A sll slc] 34)) := by
  refine ⟨⟨_, hB, by simpa [intsB] using hown.alloc _, fun g hg => .inl (hob g hg)⟩, ?_, ⟨rfl, rfl, rfl, by simp, fun q hq _ => Below.heap_alloc _ _ _ hq⟩, by simp⟩
  rw [World.cell?_of_block (Below.heap_alloc _ _ _ hpl), hp]
 refine wpIn_rangeFunc_ownG hro h1 (gf := 26) (lb := #[.pointer (some p)]) rfl h26 (enters_of Tryz.func26 (by kernel_rfl) rfl)
  (bytes_stops F (n - 1) h26 hro (by omega) p nv _ hI0.cell) (fun h k v hv => k v (h v hv)) (fun W l o o' hl ho h1 h2 v hv => cell_kept hv (grownBy_putObj' W l o') (fun r e => by cases e; exact ⟨o, ho, h1⟩)) (Below.refl _ _) (fun _ => rfl)
  (fun pre W => InvB f w p nv (xs ++ intsB pre) (k + pre.length) W) (fun _ _ _ => False)
  (fun pre W W' row hs hg hr => hs.grown hpl hg (fun r e => by have h := hr r e; simp at h; exact ⟨by omega, h.2⟩)) (fun _ _ _ _ _ hs _ _ => hs) hI0
  (fun x => { tmps := #[.slice A sll slc, .func (.func 26) #[] #[.pointer (some p)], .pointer (some ⟨w.heap.size, 0, none⟩), undef, .slice none 0 0, .int .u8 x, .func (.func 26) #[] #[.pointer (some p)], .int .u8 x, undef, undef, undef, undef, undef], defers := [] }) ?assign ?body ?done ?stop
 case assign =>
  intro l x W K hK
  simp only [encB]
  gi_wp2
  exact hK
 case body =>
  rintro l pre x W ⟨⟨v, hbx, hrow, hgb⟩, hcell, hfr, hsz⟩ hlt
  have cM := hbx.cell
  obtain ⟨i0, hi, hz0, hz1, hz2⟩ := info_parts infoB
  have hnew : CatZ (W.alloc (.cells #[.int .u8 x] 5)) (fun _ => True) (some ⟨W.heap.size, 0, none⟩) [.int .u8 x] := fun _ => ⟨_, rfl, trivial, fun j u hj => by
   rcases j with _ | j
   ·simp only [List.getElem?_cons_zero, Option.some.injEq] at hj
    subst hj
    exact (Boxed.new W 5 (.int .u8 x)).cell
   ·simp at hj⟩
  gi_wp2_with (gi_at_builtin; refine wpListIn_append_run _ rfl _ _ 34 rfl (i := i0) (z := .int .u8 0) (sz := 1) (k := k + pre.length) (m := 1) (c2 := 1) Tryz.underlying34 hi hz0 hz1 rfl (by decide) rfl rfl (hrow.alloc _) hnew rfl (by simp [Cw.oneB]) (by unfold maxLen; omega) (by rw [hz2]; omega) ?_; intro v' w1 hown' hgrow hnb; obtain ⟨g', cap', rfl⟩ := ownsRow_succ hown'; obtain ⟨hv1, hv2, hrow', hko, _⟩ := hbx.appended (by decide) hrow (Nat.zero_le _) (Nat.zero_le _) hown' hgrow; have cM1 := hv1.cell; have fM1 := hv1.frozen)
  have hbk : ∀ q, q < W.heap.size → some q ≠ v.ownBlock → q ≠ w.heap.size → (w1.setCell ⟨w.heap.size, 0, none⟩ (.slice (some ⟨g', 0, none⟩) (k + pre.length + 1) cap')).heap[q]? = W.heap[q]? := fun q hq hne hb => by
   rw [(grownBy_setCell' w1 w.heap.size _).block q (Nat.lt_of_lt_of_le (by simp; omega) hgrow.size) (by simpa using hb), hgrow.block q (by simp; omega) hne]
   exact Below.heap_alloc _ _ _ hq
  have hpb : some p.block ≠ v.ownBlock := fun e => by
   rcases hgb _ e.symm with h | h
   ·exact hpf h
   ·omega
  refine ⟨hko.from _, fun u hu => ?_, ⟨⟨_, hv2, ?_, fun g hg => ?_⟩, ?_, ⟨?_, ?_, ?_, ?_, fun q hq hqf => ?_⟩, ?_⟩⟩
  ·rw [World.cell?_of_block (hbk _ (by omega) hpb (by omega))]; exact hu
  ·simpa [intsB, Nat.add_assoc] using hrow'
  ·rcases hnb g hg with h | h
   ·exact hgb g h
   ·have h2 := h.1; simp at h2; omega
  ·rw [World.cell?_of_block (hbk _ (by omega) hpb (by omega))]; exact hcell
  ·exact hgrow.os.trans hfr.os
  ·exact hgrow.tape.trans hfr.tape
  ·exact hgrow.output.trans hfr.output
  ·have h2 := hgrow.size; have h3 := (grownBy_setCell' w1 w.heap.size (.slice (some ⟨g', 0, none⟩) (k + pre.length + 1) cap')).size; simp at h2; omega
  ·rw [hbk q (by omega) (fun e => ?_) (by omega)]
   ·exact hfr.block q hq hqf
   ·rcases hgb _ e.symm with h | h
    ·exact hqf h
    ·omega
  ·have h2 := hgrow.size; have h3 := (grownBy_setCell' w1 w.heap.size (.slice (some ⟨g', 0, none⟩) (k + pre.length + 1) cap')).size; simp at h2; omega
 case done =>
  rintro D ys W hD rfl ⟨⟨v, hbx, hrow, hgb⟩, hcell, hfr, hsz⟩ hK
  have cM := hbx.cell
  gi_wp2
  have hD2 : w.heap.size < D := by simp at hD; omega
  refine ⟨by simp, .inl ⟨_, _, rfl, run_takeDeferred hK, ?_⟩⟩
  refine ⟨_, results_one rfl _ _ _, ?_⟩
  have hI := fun o' => InvB.grown (W := W) (W' := W.putObj D o') (p := p) (nv := nv) (f := f) (w := w) ⟨⟨v, hbx, hrow, hgb⟩, hcell, hfr, hsz⟩ hpl (grownBy_putObj' W D o') (fun r e => by cases e; exact ⟨hD2, _, hK, rfl⟩)
  refine ⟨_, rfl, ?_, fun g hg => ?_, (hI _).fr⟩
  ·have h2 := fun o' => ownsRow_putObj hrow o' hK rfl
   simp only [uptoB_length] at h2
   exact h2 _
  ·rcases hgb g hg with h | h
   ·exact .inl h
   ·exact .inr (Nat.le_of_lt h)
 case stop =>
  rintro D c pre W _ _ h _
  exact h.elim
end Go.Proofs
