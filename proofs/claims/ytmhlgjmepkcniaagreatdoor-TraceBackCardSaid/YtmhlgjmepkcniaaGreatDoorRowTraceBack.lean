/- The statement TraceBack: notes' bytes are read as them; bytes that are read have themselves. The card: the row, its one listed variable tied to the program's text. -/
import Derived.Test.YtmhlgjmepkcniaaGreatDoorRows
import Derived.Test.YtmhlgjmepkcniaaGreatDoorCards
import Derived.Test.YtmhlgjmepkcniaaGreatDoorTie
import Derived.Test.YtmhlgjmepkcniaaGreatDoorTr7
import Derived.Test.YtmhlgjmepkcniaaGreatDoorE5
import Derived.Test.YtmhlgjmepkcniaaGreatDoorFactsTraceBack
import Derived.ProofKit
import Derived.OpenShut
import Derived.LaidMore
import Derived.Lay
import Derived.SevenTiedAt
import Derived.Stop.Joined
import Derived.Below
import Derived.WalkKit
import Derived.ChangeOld
import Derived.Carry
import Derived.SizedLaws
namespace Go.Proofs.YtmhlgjmepkcniaaGreatDoor.traceBack
open Go Go.Cw Go.Dw Go.ChangeShapes Go.WideShapes Go.ChangeAt Go.RowKit
set_option linter.unusedVariables false

theorem own : ownKnob Tryz.prog.godebug = none := by kernel_rfl
theorem laidOut : laidOutB Tryz.prog = true := by kernel_rfl
theorem tab_box {W : World} (h : laidMetH Tryz.prog Rows.traceBackRow.laid W) : ∃ rest t, Box W 0 (debT ++ rest) t := by
 rw [MakeChecks.laidMetH_plain _ _ _ (by kernel_rfl)] at h
 obtain ⟨ps, ⟨g, t, cs, fuel, p, q, hg, ht, hv, hd, _, hps⟩, _, hb⟩ := h
 obtain rfl := Option.some.inj ((show Tryz.prog.globalNamed "math/bits.deBruijn64tab" = some 0 by kernel_rfl).symm.trans hg)
 obtain rfl := Option.some.inj ((show (Tryz.prog.globals[0]?).map (·.type) = some 456 by kernel_rfl).symm.trans ht)
 obtain ⟨xs, m, _, ex, _, hl, hel⟩ := DataW.trod_array Tryz.underlying456 hd
 have c5 : Tryz.prog.cellsOf 5 = 1 := by kernel_rfl
 have e3 : (xs.map (·.1)) = Lib.deBruijn64tab.map fun n => .lit (.int .u8 (n : Nat)) := (DataW.agg.inj (Prod.mk.inj ex).1).symm
 have hlen : Lib.deBruijn64tab.length = 64 := rfl
 have cell : ∀ r, r < 64 → cs.toList[r]? = debT[r]? := by
  intro r hr
  have hE := hel r hr
  rw [c5, Nat.mul_one, List.getElem?_eq_getElem (by omega)] at hE
  obtain ⟨z, e1, e2, _⟩ := DataW.trod_int Tryz.underlying5 hE
  have e4 : (xs.map (·.1))[r]? = (Lib.deBruijn64tab.map fun n => (DataW.lit (.int .u8 (n : Nat)) : DataW Unit))[r]? := by rw [e3]
  rw [List.getElem?_map, List.getElem?_map, List.getElem?_eq_getElem (by omega : r < xs.length), List.getElem?_eq_getElem (by omega : r < Lib.deBruijn64tab.length), e2] at e4
  simp only [Option.map_some, Option.some.injEq, DataW.lit.injEq, Lit.int.injEq, true_and] at e4
  have h0 : ((cs.toList.drop r).take 1)[0]? = some (.int .u8 z) := by rw [e1]; rfl
  have h1 : cs.toList[r]? = some (.int .u8 z) := by simpa using h0
  rw [h1, e4]
  unfold debT
  rw [List.getElem?_map, List.getElem?_eq_getElem (by omega : r < Lib.deBruijn64tab.length)]
  rfl
 have hsz : 64 ≤ cs.size := by
  have := cell 63 (by decide)
  have h2 : debT[63]? ≠ none := by decide +kernel
  rw [← this] at h2
  by_cases hh : 63 < cs.toList.length
  ·have h3 := hh; simp only [Array.length_toList] at h3; omega
  ·exact absurd (List.getElem?_eq_none (by omega)) h2
 have etk : cs.toList.take 64 = debT := by
  apply List.ext_getElem?
  intro r
  by_cases hr : r < 64
  ·rw [List.getElem?_take, if_pos hr, cell r hr]
  ·rw [List.getElem?_take, if_neg hr, List.getElem?_eq_none (show debT.length ≤ r by show 64 ≤ r; omega)]
 have ecs : cs.toList = debT ++ cs.toList.drop 64 := by
  have := List.take_append_drop 64 cs.toList
  rw [etk] at this
  exact this.symm
 obtain ⟨⟨c, t', hc⟩, _⟩ := hb 0 0 (by
  rw [hps]
  refine List.mem_append_left _ (List.mem_append_left _ ?_)
  exact List.mem_map.2 ⟨0, List.mem_range.2 (by omega), rfl⟩)
 have : c = cs := by
  have hv' := hv
  simp only [World.var?, hg, Option.bind_some, hc, Option.some.injEq] at hv'
  exact hv'
 subst this
 exact ⟨_, t', by unfold Box; rw [← ecs]; simpa using hc⟩

theorem below_of {w w' : World} (h : Fr F0 w w') : Below w.heap.size w w' := ⟨h.os, h.tape, h.output, h.size, fun k hk => h.block k hk (fun h => h)⟩

set_option maxRecDepth 100000 in
theorem lifted (os : Os) (started : os.Started) (H : Type) (enc : TypeId × Value → H) :
 ReturnsInHanded {} Tryz.checked os 4 .any (fun w args => (Rows.traceBackSpec.pre enc Tryz.prog Tryz.f4 Rows.traceBackRow.domain false w args ∧ laidMetH Tryz.prog Rows.traceBackRow.laid w) ∧ sizedMet enc Tryz.prog Tryz.f4 (OpenSpec.ofChange Rows.traceBackSpec) false w args)
  (Rows.traceBackSpec.post enc Tryz.prog Tryz.f4 false true false false) := by
 refine returnsInHanded_of_change_and (C := Tryz.checked) (X := fun w _ => laidMetH Tryz.prog Rows.traceBackRow.laid w) (fun _ _ _ hh h => h.of_heap hh) own started (by kernel_rfl) Tryz.func4
  (ChangeSpec.witness_shaped (enc := enc) (C := Tryz.checked) (os := os) (X := fun w _ => laidMetH Tryz.prog Rows.traceBackRow.laid w) false (World.laidAll Tryz.prog os Rows.traceBackRow.laid) #[.slice none 0 0, .string ⟨#[]⟩] 8 (World.laidAll_os _ _ _)
   (World.shaped_of_ZipB (by kernel_rfl) (by kernel_rfl)) (by kernel_rfl) (by kernel_rfl) (by kernel_rfl)
   (by rw [MakeChecks.laidMetH_plain _ _ _ (by kernel_rfl)]; exact laidMet_laidAll _ (by kernel_rfl) (by kernel_rfl))) ?_
 intro W base args ds gs before hval0 hW hc hsz0 hL _
 have hsz : (DataW.weightsEach Tryz.prog (Tryz.f4.params.toList ++ Rows.traceBackSpec.plain.varTypes Tryz.prog) (ds ++ gs)).all (· ≤ reachBytes) = true := hsz0
 have hval : ∀ (j : Nat) t v, Tryz.f4.params[j]? = some t → args[j]? = some v → Value.okWide Tryz.prog W .any base t v := hval0
 have hW' := hW
 obtain ⟨p, q, hA0, hV, rfl, _, _⟩ := hW
 have hA : DataW.TrodAll enc Tryz.prog W 0 (fun _ => true) true Tryz.f4.params.toList args.toList ds p := hA0
 rw [Tryz.params4] at hA hval hsz
 obtain ⟨v0, vs0, d0, ds0, p0, q0, hargs, rfl, rfl, h0, r0⟩ := trodAll_cons hA
 obtain ⟨v1, vs1, d1, ds1, p1, q1, rfl, rfl, rfl, h1, r1⟩ := trodAll_cons r0
 obtain ⟨rfl, rfl, rfl⟩ := trodAll_nil r1
 obtain rfl : args = #[v0, v1] := by cases args; simp_all
 obtain ⟨rfl, rfl⟩ := trodVars_none hV
 have k0 := h0
 have lt0 : ∀ x ∈ p0, x.block < W.heap.size := by obtain ⟨m, hm⟩ := k0; exact DataW.trod_lt m _ _ _ hm
 obtain ⟨x0, o0, c0⟩ := open_arg (p := ⟨false, [.l 2 42 [.v .bool, .v (.int .i64), .v (.int .u8), .v (.int .i64), .v (.int .i64), .v (.int .i64), .v (.int .u64)]], false⟩) (by kernel_rfl) (by kernel_rfl) (hval 0 22 v0 rfl rfl) h0 hsz (j := 0) rfl rfl
 have k1 := h1
 have lt1 : ∀ x ∈ p1, x.block < W.heap.size := by obtain ⟨m, hm⟩ := k1; exact DataW.trod_lt m _ _ _ hm
 obtain ⟨x1, o1, c1⟩ := open_arg (p := ⟨false, [.v .str], false⟩) (by kernel_rfl) (by kernel_rfl) (hval 1 9 v1 rfl rfl) h1 hsz (j := 1) rfl rfl
 have hB := tab_box hL
 clear hA0 hval0 hsz0 hsz
 refine Calls.mono (show Calls Tryz.prog 4 _ W _ from law_of (s := s4) (a := [x0, x1]) (vs := [v0, v1]) s4_ok rfl rfl (back_law x0 x1 o0 o1) (c0 _ _ _ (c1 _ _ _ (.nil))) (fun x hx => by obtain rfl := List.mem_singleton.1 hx; exact hB) (by obtain ⟨rest, t, hb⟩ := hB; have := (Array.getElem?_eq_some_iff.1 hb).1; omega)) fun e W' ⟨he, hF⟩ => ?_
 subst he
 have bel := below_of hF
 exact ⟨_, rfl, _, _, _, [], _, [], hW', trodAll_mk1 (shut_bool Tryz.underlying4 _), (trodAll_cons_mk (Below.trod laidOut (by kernel_rfl) (of_decide_eq_true (by kernel_rfl)) k0 bel lt0) (trodAll_cons_mk (Below.trod laidOut (by kernel_rfl) (of_decide_eq_true (by kernel_rfl)) k1 bel lt1) trodAll_mk0)), rfl, bel.frame _, fun h => by cases h⟩

theorem holds : Rows.TraceBackSaid :=
 OpenClaim.holds_of_wide 4 Tryz.f4 rfl rfl rfl rfl rfl rfl rfl ⟨rfl, rfl, rfl, rfl, rfl⟩ rfl rfl rfl rfl rfl named Tryz.func4 closed inst wrap
  (fun os started H enc _ => lifted os started H enc)
theorem f1 : Rows.traceBackRow.wfByText (OpenSpec.ofChange Rows.traceBackSpec) = true := by kernel_rfl
theorem f2 : Tryz.pinned.checked.prog.mainIs = some (true, "1cef0d17c6a4aeaf83c3910e3b599835e219bc288581bf1fb289afea2da66f1e".toList) := by kernel_rfl
theorem f3 : false = Tryz.pinned.checked.prog.looks [] := by kernel_rfl
theorem f4 : ([22, 9].all fun u => !Tryz.prog.wantsStandIn u) = true := by kernel_rfl
theorem goes_of {P : Program} {f : FuncId} (h : P.funcs.toList.any Func.goes = false) : P.goes f = false := by
 rw [List.any_eq_false] at h
 have hg : ∀ g : Nat, ((P.funcs[g]?).any Func.goes) = false := by
  intro g
  rcases e : P.funcs[g]? with _ | fn
  ·rfl
  ·have : fn ∈ P.funcs.toList := Array.mem_toList_iff.2 (Array.mem_of_getElem? e)
   simpa using h fn this
 unfold Program.goes
 rw [Bool.or_eq_false_iff]
 refine ⟨by rw [List.any_eq_false]; intro g _; simp [hg g], ?_⟩
 rw [Bool.and_eq_false_iff]; right
 rw [← Array.any_toList, List.any_eq_false]; exact h
theorem goesBy_of {c : OpenClaim} {P : Program} (hs : (match c.start with | .entering => true | _ => false) = true) (h : P.funcs.toList.any Func.goes = false) : false = c.goesBy P := by
 unfold OpenClaim.goesBy Program.goesAt Program.goesFrom
 have h1 : ((P.funcNamed c.func).any P.goes) = false := by
  rcases P.funcNamed c.func with _ | f
  ·rfl
  ·exact goes_of h
 rw [h1]
 cases e : c.start <;> simp_all
theorem nogo : Tryz.pinned.checked.prog.funcs.toList.any Func.goes = false := by kernel_rfl
theorem f5 : false = Rows.traceBackRow.goesBy Tryz.pinned.checked.prog := goesBy_of rfl nogo
theorem card_holds : Rows.TraceBackCardSaid :=
 Claim7.holds_tied_plain_at .later [] [.data] true (true, "1cef0d17c6a4aeaf83c3910e3b599835e219bc288581bf1fb289afea2da66f1e") false holds (fun _ h => by cases h) f1 (fun _ h => by cases h) traceBack_row_tie rfl ⟨rfl, rfl⟩ f2 rfl
  (fun f fn hf hfn => by
   obtain rfl : f = 4 := Option.some.inj (named.symm.trans hf) |>.symm
   obtain rfl : fn = Tryz.f4 := (Option.some.inj (Tryz.func4.symm.trans hfn)).symm
   exact ⟨f3, fun j t ht => by
    rw [Tryz.params4] at ht
    have hm : t ∈ [22, 9] := by simpa using Array.mem_of_getElem? ht
    exact (show Tryz.prog.wantsStandIn t = false by simpa using List.all_eq_true.1 f4 t hm)⟩)
  f5
end Go.Proofs.YtmhlgjmepkcniaaGreatDoor.traceBack
namespace Go.Proofs.YtmhlgjmepkcniaaGreatDoor
theorem traceBack_holds : Rows.TraceBackCardSaid := traceBack.card_holds
#print axioms traceBack_holds
end Go.Proofs.YtmhlgjmepkcniaaGreatDoor
