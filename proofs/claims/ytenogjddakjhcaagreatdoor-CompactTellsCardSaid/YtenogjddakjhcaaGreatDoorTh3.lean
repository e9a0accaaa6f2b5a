/- compact.Then: the map is made. -/
import Derived.Test.YtenogjddakjhcaaGreatDoorTh2
import Derived.WalkSmall
namespace Go.Proofs
open Go.RowKit Go.Shelf
attribute [local go_sem] Oper.semAt_some
variable {H : Type}

def Box2 (W : World) (B : Nat) (x : Mv) : Prop := W.heap[B]? = some (.cells #[.int .u64 x.1.1, .int .u64 x.1.2] 34 (0, 0))
theorem Box2.c0 {W : World} {B : Nat} {x : Mv} (h : Box2 W B x) : W.cell? ⟨B, 0, none⟩ = some (.int .u64 x.1.1) := by simp [World.cell?, show W.heap[B]? = _ from h]
theorem Box2.c1 {W : World} {B : Nat} {x : Mv} (h : Box2 W B x) : W.cell? ⟨B, 1, none⟩ = some (.int .u64 x.1.2) := by simp [World.cell?, show W.heap[B]? = _ from h]
theorem Box2.lt {W : World} {B : Nat} {x : Mv} (h : Box2 W B x) : B < W.heap.size := (Array.getElem?_eq_some_iff.1 h).1
theorem Box2.kept {W W' : World} {row : Option Nat} {B : Nat} {x : Mv} (h : Box2 W B x) (hg : W.grownBy W' row) (hne : some B ≠ row) : Box2 W' B x := (hg.block B h.lt hne).trans h
theorem box2_own {β : Type} (B : Nat) (f : β → Mv) : Own (fun s W => Box2 W B (f s)) := fun s X Y row hs hg hrow =>
 hs.kept hg (fun e' => by obtain ⟨o, ho, hc⟩ := hrow B e'.symm; rw [show X.heap[B]? = _ from hs] at ho; cases ho; cases hc)

def thenM : List Mv → List Mv → Option (List Mv)
 | [], _ => some []
 | m :: r, ys =>
   match ys.find? fun n => n.1.1 == m.1.2 with
   | none => none
   | some n => (thenM r ys).map fun l => ⟨(m.1.1, n.1.2), m.2.1, n.2.2⟩ :: l
theorem thenM_app (ys : List Mv) : ∀ a b : List Mv, thenM (a ++ b) ys = match thenM a ys with | none => none | some l => (thenM b ys).map fun l' => l ++ l'
 | [], b => by cases h : thenM b ys <;> simp [thenM, h]
 | m :: r, b => by
   simp only [List.cons_append, thenM]
   cases ys.find? (fun n => n.1.1 == m.1.2) with
   | none => rfl
   | some n =>
     simp only [thenM_app ys r b]
     cases thenM r ys with
     | none => rfl
     | some l => cases thenM b ys <;> rfl
def cellsM (l : List Mv) : List Value := l.flatMap fun m => [.int .u64 m.1.1, .int .u64 m.1.2]

def ThenPost (zs ys : List Mv) (w : World) (e : Ending) (W' : World) : Prop := (match thenM zs ys with
 | some l => ∃ v, e = .returned (.tuple #[v, .int .i64 0]) ∧ W'.ownsRow w.heap.size 34 2 v l.length (cellsM l)
 | none => e = .returned (.tuple #[.slice none 0 0, .int .i64 3])) ∧ Below w.heap.size w W'
theorem infoM : (Tryz.prog.info? 34).map (fun i => (i.zero, i.size, i.bytes)) = some (some (.agg #[.int .u64 0, .int .u64 0]), 2, 16) := by kernel_rfl
theorem thenM_snoc {zs ys : List Mv} {k : Nat} {x : Mv} {l : List Mv} (hx : zs[k]? = some x) (hl : thenM (zs.take k) ys = some l) : thenM (zs.take (k + 1)) ys = match ys.find? fun n => n.1.1 == x.1.2 with | none => none | some n => some (l ++ [⟨(x.1.1, n.1.2), x.2.1, n.2.2⟩]) := by
 have e : zs.take (k + 1) = zs.take k ++ [x] := by
  rw [List.take_add_one, hx]; rfl
 rw [e, thenM_app, hl]
 simp only [thenM]
 cases ys.find? (fun n => n.1.1 == x.1.2) <;> rfl
theorem thenM_len {ys : List Mv} : ∀ {zs l : List Mv}, thenM zs ys = some l → l.length = zs.length
 | [], l, h => by obtain rfl := Option.some.inj h; rfl
 | m :: r, l, h => by
   simp only [thenM] at h
   split at h
   ·cases h
   ·cases hr : thenM r ys with
    | none => rw [hr] at h; cases h
    | some l' =>
      rw [hr] at h
      obtain rfl := Option.some.inj h
      simp [thenM_len hr]
theorem thenM_none {zs ys : List Mv} {k : Nat} (h : thenM (zs.take k) ys = none) : thenM zs ys = none := by
 have e := thenM_app ys (zs.take k) (zs.drop k)
 rw [List.take_append_drop, h] at e
 exact e

theorem results_two {fn : Func} {t1 t2 : Tmp} (hr : fn.results = #[.tmp t1, .tmp t2]) (P : Program) (tmps : Array Value) (w : World) : (results fn tmps).run P w = .ok (.tuple #[tmps.getD t1 undef, tmps.getD t2 undef]) w := by
 simp [results, hr]

set_option maxRecDepth 100000 in
set_option maxHeartbeats 4000000 in
theorem then_in (F : Fence) (n : Nat) (h7 : F.fn 7) (h13 : F.fn 13) (h19 : F.fn 19) (hro : F.round = none) (hn : 3 ≤ n) (A B : Option Addr) (la ca lb cb : Nat) (zs ys : List Mv) (w : World) (hA : MvsAt w.heap.size w (.slice A la ca) zs) (hB : MvsAt w.heap.size w (.slice B lb cb) ys) :
 CallsIn F n Tryz.prog 7 #[.slice A la ca, .slice B lb cb] w (ThenPost zs ys w) := by
 have h1 : 1 ≤ n := by omega
 have hmm := @run_makeMap Tryz.prog
 refine callsIn_of_wp_marks Tryz.func7 rfl h7 ?_ hro
 simp only [Tryz.ntmps7, List.size_toArray, List.length_cons, List.length_nil, Nat.reduceAdd, Nat.reduceSub, Array.replicate_succ, Array.replicate_zero, List.push_toArray, List.append_toArray, List.nil_append, List.cons_append]
 gi_wp2_with (gi_at_call 13; refine (back_in F (n - 1) h13 hro _ _ _ _).mono ?_; rintro e w' ⟨rfl, rfl⟩)
 have hys : ys.length ≤ 8796093022207 := by
  rcases hB with ⟨_, _, _, rfl⟩ | ⟨_, _, _, _, _, hr, _⟩
  ·exact Nat.zero_le _
  ·omega
 have hm0 := World.ownsMap_made w Tryz.prog 23 (plainElem (H := Unit) Tryz.prog 23)
 have bS := (Boxed.new (w.alloc (.map #[] 0)) 36 (.map (some w.heap.size))).alloc (.cells #[.slice B lb cb] 22)
 have bN := Boxed.new ((w.alloc (.map #[] 0)).alloc (.cells #[.map (some w.heap.size)] 36)) 22 (.slice B lb cb)
 simp only [World.size_alloc] at bS bN
 have hB0 : Below w.heap.size w (((w.alloc (.map #[] 0)).alloc (.cells #[.map (some w.heap.size)] 36)).alloc (.cells #[.slice B lb cb] 22)) := (((Below.refl _ w).alloc (Nat.le_refl _) _).alloc (by simp) _).alloc (by simp; omega) _
 refine wpIn_rangeFunc_ownH hro h1 (gf := 19) (lb := #[.pointer (some ⟨w.heap.size + 1 + 1, 0, none⟩)]) rfl h19 (enters_of Tryz.func19 (by kernel_rfl) rfl)
  (back_stops F (n - 1) h19 hro (by omega) (w.heap.size + 1 + 1) w.heap.size (.slice B lb cb) ys _ (by simp) (by simp; omega) bN.cell (hB.below hB0)) KpB.trans (KpB.walk (by simp; omega)) (Below.refl _ _) (fun _ => rfl)
  (fun pre W => ((Boxed W (w.heap.size + 1) 36 (.map (some w.heap.size)) ∧ w.heap.size + 3 ≤ W.heap.size) ∧ W.ownsMap Tryz.prog 23 (plainElem (H := Unit) Tryz.prog 23) w.heap.size pre.length (mapD pre)) ∧ Below w.heap.size w W)
  (fun _ _ _ => False)
  (OwnFrom.and (fun s A B row hs hg hr => ⟨⟨hs.1.1.kept hg (fun e => by have := (hr _ e.symm).1; simp at this; omega), Nat.le_trans hs.1.2 hg.size⟩, hs.2.kept hg (fun e => by have := (hr _ e.symm).1; simp at this; omega)⟩) (ownFrom_below (Nat.le_refl _) (by simp; omega)))
  (fun _ _ _ _ _ hs _ _ => hs)
  ⟨⟨⟨bS, by simp⟩, (hm0.alloc _).alloc _⟩, hB0⟩
  (fun x a' W => ∃ Bx, w.heap.size + 3 ≤ Bx ∧ Box2 W Bx x.2 ∧ a' = { tmps := #[.slice A la ca, .slice B lb cb, undef, undef, .slice none 0 0, .int .i64 0, .pointer (some ⟨w.heap.size + 1, 0, none⟩), undef, .pointer (some ⟨Bx, 0, none⟩), undef, undef, undef, undef, undef, .map (some w.heap.size), .slice B lb cb, .func (.func 19) #[] #[.pointer (some ⟨w.heap.size + 1 + 1, 0, none⟩)], .int .i64 x.1, .agg #[.int .u64 x.2.1.1, .int .u64 x.2.1.2], undef, undef, undef, undef, undef, undef, undef, undef, undef, undef, undef, undef, undef, undef, undef, undef, undef, undef, undef, undef, undef, undef, undef, undef, undef, undef, undef, undef, undef], defers := [] })
  (fun x a' s X Y row hs hg hr => by
   obtain ⟨Bx, h1, h2, h3⟩ := hs
   exact ⟨Bx, h1, h2.kept hg (fun e' => by obtain ⟨_, o, ho, hc⟩ := hr Bx e'.symm; rw [show X.heap[Bx]? = _ from h2] at ho; cases ho; cases hc), h3⟩)
  ?assign ?body ?done ?stop
 case assign =>
  intro l pre x W K hi hK
  simp only [encM]
  gi_wp2
  have hlt := hi.1.2.lt
  have hsz := hi.1.1.2
  exact hK _ _ ((KeepsOthers.alloc _ _).from _) ⟨(Below.refl _ W).alloc (by omega) _, fun v hv => cell_kept hv (World.grownBy_alloc W _ none) (fun r e => by cases e)⟩ ⟨⟨⟨hi.1.1.1.alloc _, by simp; omega⟩, hi.1.2.alloc _⟩, hi.2.alloc (by omega) _⟩ ⟨W.heap.size, hsz, World.alloc_heap_new W _, rfl⟩
 case body =>
  rintro l pre x a' W hl ⟨r, hr⟩ ⟨⟨⟨hc, hs3⟩, hown⟩, hBw⟩ ⟨Bx, hBx, bX, rfl⟩ hlt
  have c0 := bX.c0
  have c1 := bX.c1
  have cM := hc.cell
  gi_wp2_with (gi_at_mapUpdate; refine wpListIn_mapUpdate_own _ rfl _ _ _ 36 rfl 23 23 (Maps.int_keyed Tryz.underlying23) Tryz.underlying36 _ w.heap.size pre.length _ rfl hown (by unfold maxLen; omega) _ _ _ rfl rfl (Maps.keyOf_int_mk Tryz.underlying23 x.2.2.1) _ [] (plainElem_int Tryz.underlying23 x.2.2.2) ?_; intro w1 hown1 hgrow1)
  obtain ⟨es, ck, hh, _⟩ := hown
  exact ⟨KeepsFrom.of_grownBy hgrow1 (fun j e => by obtain rfl := Option.some.inj e; simp; omega), ⟨(Below.refl _ W).grown hgrow1 hBw.size (fun k e => by cases e; exact Nat.le_refl _), fun v hv => cell_kept hv hgrow1 (fun r e => by cases e; exact ⟨_, hh, rfl⟩)⟩,
   ⟨⟨⟨hc.kept hgrow1 (fun e => by have := Option.some.inj e; omega), Nat.le_trans hs3 hgrow1.size⟩, by rw [mapD_snoc, List.length_append]; exact hown1⟩, hBw.grown hgrow1 hBw.size (fun k e => by cases e; exact Nat.le_refl _)⟩⟩
 case done =>
  rintro D xs W hD rfl ⟨⟨⟨hc, hs3⟩, hown⟩, hBw⟩ hK
  have cM := hc.cell
  have hA' := hA.below hBw
  have hla : la = zs.length := by
   rcases hA with ⟨_, _, e, rfl⟩ | ⟨_, _, _, e, _⟩
   ·cases e; rfl
   ·cases e; rfl
  subst hla
  gi_wp2
  gi_loopw [9, 26] (fun out i wr => ∃ (k : Nat) (l : List Mv), k ≤ zs.length ∧ i = .int .i64 k ∧ thenM (zs.take k) ys = some l ∧ wr.ownsRow w.heap.size 34 2 out l.length (cellsM l) ∧ Boxed wr (w.heap.size + 1) 36 (.map (some w.heap.size)) ∧
   wr.ownsMap Tryz.prog 23 (plainElem (H := Unit) Tryz.prog 23) w.heap.size ys.length (mapD (upto (bk ys) ys.length)) ∧ Below w.heap.size w wr ∧ wr.heap[D]? = some (.deferred (some [])))
   (fun out i _ => zs.length - (intOf i).toNat)
  case atStart => exact ⟨0, [], Nat.zero_le _, rfl, rfl, World.ownsRow_nil _ _ _ _, hc, by simpa [upto_length] using hown, hBw, hK⟩
  case round =>
   obtain ⟨k, l, hk, rfl, hl, hrow, hbx, hmap, hBr, hKr⟩ := hrel
   have cM := hbx.cell
   by_cases hlt : k < zs.length
   ·rcases hA.below hBr with ⟨_, _, _, rfl⟩ | ⟨b, off, cap, e, hb, hreach, hcs⟩
    ·exact absurd hlt (by simp)
    obtain ⟨rfl, _, _⟩ := Value.slice.inj e
    cases hx : zs[k]? with
    | none => exact absurd (List.getElem?_eq_none_iff.1 hx) (by omega)
    | some x =>
    have hc0 := (hcs k hlt).1
    have hc1 := (hcs k hlt).2
    rw [hx, Option.getD_some] at hc0 hc1
    clear hcs
    have hlook := look_all (H := Unit) ys x.1.2 (.lit (.int .u64 0))
    have bX : Box2 (wr.alloc (.cells #[.int .u64 x.1.1, .int .u64 x.1.2] 34)) wr.heap.size x := World.alloc_heap_new wr _
    have cM' := (hbx.alloc (.cells #[.int .u64 x.1.1, .int .u64 x.1.2] 34)).cell
    have cX0 := bX.c0
    have cX1 := bX.c1
    have hs := thenM_snoc hx hl
    cases hf : ys.find? (fun m => m.1.1 == x.1.2) with
    | none =>
      rw [hf] at hlook hs
      have hhas : Maps.has (mapD (H := Unit) (upto (bk ys) ys.length)) (.int .u64 x.1.2) = false := hlook.2
      gi_wp2_with (gi_at_lookup; refine wpListIn_lookup_own_ok_int _ rfl _ _ 36 rfl 23 23 .u64 (Maps.int_keyed Tryz.underlying23) Tryz.underlying36 Tryz.underlying23 (Tryz.zeroValue23 _) w.heap.size ys.length _ rfl (hmap.alloc _) _ _ rfl (Maps.keyOf_int_mk Tryz.underlying23 x.2.2) ?_; intro c hat hwc; rw [hhas])
      have hK1 : (wr.alloc (.cells #[.int .u64 x.1.1, .int .u64 x.1.2] 34)).heap[D]? = some (.deferred (some [])) := (Below.heap_alloc _ _ _ (Array.getElem?_eq_some_iff.1 hKr).1).trans hKr
      refine ⟨by simp, .inl ⟨_, _, rfl, run_takeDeferred hK1, ?_⟩⟩
      refine ⟨_, results_two rfl _ _ _, ?_⟩
      have hB1 := hBr.alloc (by have := hBr.size; omega) (.cells #[.int .u64 x.1.1, .int .u64 x.1.2] 34)
      refine ⟨?_, hB1.trans (belowK_b (w := w) (Nat.le_refl _) _ D _ _ (by simp at hD; omega) hK1 rfl rfl)⟩
      rw [thenM_none (k := k + 1) hs]
      rfl
    | some m =>
      rw [hf] at hlook hs
      have hhas : Maps.has (mapD (H := Unit) (upto (bk ys) ys.length)) (.int .u64 x.1.2) = true := hlook.2
      have hat0 := hlook.1
      obtain ⟨i0, hi, hz0, hz1, hz2⟩ := info_parts infoM
      have hoX : (wr.alloc (.cells #[.int .u64 x.1.1, .int .u64 x.1.2] 34)).heap.size = wr.heap.size + 1 := World.size_alloc _ _
      have hll : l.length = k := by rw [thenM_len hl, List.length_take]; omega
      have hnew : ∀ j u, [Value.int .u64 x.1.1, .int .u64 m.1.2][j]? = some u → ((wr.alloc (.cells #[.int .u64 x.1.1, .int .u64 x.1.2] 34)).alloc (.cells #[.int .u64 x.1.1, .int .u64 m.1.2] 34)).cell? ((⟨wr.heap.size + 1, 0, none⟩ : Addr).add j) = some u := by
       rw [← hoX]; exact cell_two_new _ _ _ _
      have hbase : w.heap.size ≤ ((wr.alloc (.cells #[.int .u64 x.1.1, .int .u64 x.1.2] 34)).alloc (.cells #[.int .u64 x.1.1, .int .u64 m.1.2] 34)).heap.size := by have := hBr.size; simp; omega
      have hlen1 : l.length + 1 ≤ maxLen := by unfold maxLen; omega
      have hlen2 : (l.length + 1) * 16 ≤ 140737488355328 := by omega
      gi_wp2_with (first
       | (gi_at_lookup; refine wpListIn_lookup_own_ok_int _ rfl _ _ 36 rfl 23 23 .u64 (Maps.int_keyed Tryz.underlying23) Tryz.underlying36 Tryz.underlying23 (Tryz.zeroValue23 _) w.heap.size ys.length _ rfl (hmap.alloc _) _ _ rfl (Maps.keyOf_int_mk Tryz.underlying23 x.2.2) ?_; intro c hat hwc; rw [hhas]; obtain rfl : m.1.2 = c := by (have h := hat0.symm.trans hat; simpa using h))
       | (gi_at_builtin; refine wpListIn_append_own _ rfl _ _ 22 rfl w.heap.size 34 i0 _ 2 16 Tryz.underlying22 hi hz0 hz1 hz2 rfl (by decide) _ _ _ rfl ((hrow.alloc _).alloc _) ⟨wr.heap.size + 1, 0, none⟩ 1 1 [.int .u64 x.1.1, .int .u64 m.1.2] rfl rfl hnew (by simp [Value.oneCell']) hlen1 hlen2 hbase ?_; intro v' w1 hown' hgrow _))
      have hne : ∀ g o, wr.heap[g]? = some o → (∀ cs, o ≠ Obj.cells cs 34 (0, 0)) → some g ≠ u9.ownBlock := by
       intro g o hg ho e'
       rcases hrow.2 with ⟨rfl, _⟩ | ⟨g', _, cur, rfl, _, hgb, _⟩
       ·cases e'
       ·obtain rfl := Option.some.inj e'
        rw [hgb] at hg
        exact ho _ (Option.some.inj hg).symm
      have hrb : ∀ g, u9.ownBlock = some g → w.heap.size ≤ g := by
       intro g e'
       rcases hrow.2 with ⟨rfl, _⟩ | ⟨g', _, cur, rfl, hb', _⟩
       ·cases e'
       ·obtain rfl := Option.some.inj e'
        exact hb'
      obtain ⟨es, ck, hh, _⟩ := id hmap
      have hK2 := hKr
      have hDlt := (Array.getElem?_eq_some_iff.1 hKr).1
      refine ⟨⟨k + 1, l ++ [⟨(x.1.1, m.1.2), x.2.1, m.2.2⟩], by omega, by simp, hs, ?_, ?_, ?_, ?_, ?_⟩, by simp [intOf]; omega⟩
      ·have e1 : cellsM (l ++ [⟨(x.1.1, m.1.2), x.2.1, m.2.2⟩]) = cellsM l ++ [Value.int .u64 x.1.1, .int .u64 m.1.2] := by simp [cellsM]
       rw [e1, List.length_append]
       exact hown'
      ·exact ((hbx.alloc _).alloc _).kept hgrow (hne _ _ hbx (fun cs hh => by cases hh))
      ·exact ((hmap.alloc _).alloc _).kept hgrow (hne _ _ hh (fun cs hh => by cases hh))
      ·exact ((hBr.alloc (by have := hBr.size; omega) _).alloc (by have := hBr.size; simp; omega) _).grown hgrow (by have := hBr.size; simp; omega) (fun g e' => hrb g e')
      ·have h2 : ((wr.alloc (.cells #[.int .u64 x.1.1, .int .u64 x.1.2] 34)).alloc (.cells #[.int .u64 x.1.1, .int .u64 m.1.2] 34)).heap[D]? = some (.deferred (some [])) :=
        (Below.heap_alloc _ _ _ (by simp; omega)).trans ((Below.heap_alloc _ _ _ hDlt).trans hKr)
       exact (hgrow.block D (by simp; omega) (hne _ _ hKr (fun cs hh => by cases hh))).trans h2
   ·obtain rfl : k = zs.length := by omega
    gi_wp2
    refine ⟨by simp, .inl ⟨_, _, rfl, run_takeDeferred hKr, ?_⟩⟩
    refine ⟨_, results_two rfl _ _ _, ?_⟩
    rw [List.take_length] at hl
    refine ⟨?_, hBr.trans (belowK_b (w := w) (Nat.le_refl _) _ D _ _ (by simp at hD; omega) hKr rfl rfl)⟩
    rw [hl]
    exact ⟨_, rfl, ownsRow_putObj hrow _ hKr rfl⟩
 case stop =>
  rintro D c pre W _ _ h _
  exact h.elim
end Go.Proofs
