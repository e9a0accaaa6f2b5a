/- The engine, part 3 of 5: a function's contract out of its code, by the kernel. -/
import Derived.Great.BuildSlice
import Derived.Laws.MakeOwn
import Derived.Laws.OwnMore
import Derived.Test.YtmhlgjmepkcniaaGreatDoorE2
section
namespace Go.Dw
open Go Go.Cw
set_option linter.unusedVariables false
section
variable {dcx : Dcx} {cx : Cx} {ops : Array Oper} {s s' : DS} {T : List (Nat × Bool)} {o : Oper} {hd : List Value} {Z0 Z : Nat → Nat → Prop} {F : Nat → List Nat} {st : St} {w w' : World}
structure Gd0 (dcx : Dcx) (cx : Cx) (Gl : List (Nat × List Value)) (Z0 : Nat → Nat → Prop) : Prop where
 P : dcx.P = cx.P
 ok : dcx.ok = cx.ok
 sp : ∀ g, ∀ S ∈ dcx.sp g, SpecOk cx.P Gl g S
 gl : GOk Gl cx.w0 (Z0 2)
 z0 : ∀ m k, Z0 m k → k < cx.w0.heap.size ∧ ¬ cx.M k
theorem pickS_ok {vals : List Value} : ∀ {l : List Spec} {S : Spec} {ls : List (List Value)} {ds : List (List D)} {s1 : DS}, pickS s vals l = some (S, ls, ds, s1) → S ∈ l ∧ ∃ ds0, argLvs S.as vals = some ls ∧ argTake S.as ls s = some (ds0, s1) ∧ argFill s1 S.as ls ds0 = some ds
 | [], _, _, _, _, h => by cases h
 | S0 :: r, S, ls, ds, s1, h => by
   simp only [pickS] at h
   have rec' : pickS s vals r = some (S, ls, ds, s1) → S ∈ S0 :: r ∧ ∃ ds0, argLvs S.as vals = some ls ∧ argTake S.as ls s = some (ds0, s1) ∧ argFill s1 S.as ls ds0 = some ds := fun h => by
    obtain ⟨a, b⟩ := pickS_ok h
    exact ⟨List.mem_cons_of_mem _ a, b⟩
   split at h
   ·rename_i l hl
    split at h
    ·rename_i ds0 s1' ht
     split at h
     ·rename_i ds' hf
      simp only [Option.some.injEq, Prod.mk.injEq] at h
      obtain ⟨rfl, rfl, rfl, rfl⟩ := h
      exact ⟨List.mem_cons_self .., ds0, hl, ht, hf⟩
     ·exact rec' h
    ·exact rec' h
   ·exact rec' h
theorem exPs_ex : ∀ {ps : List Pm} {K : List (List D) → Prop}, exPs ps K → ∃ ds, All2 (fun (p : Pm) d => All2 dFit p.sub d) ps ds ∧ K ds
 | [], K, h => ⟨[], .nil, h⟩
 | p :: ps, K, h => by
   simp only [exPs] at h
   obtain ⟨d, h1, h2⟩ := exSs_ex h
   obtain ⟨ds, h3, h4⟩ := exPs_ex h2
   exact ⟨d :: ds, .cons h1 h3, h4⟩
mutual
theorem allS_of : ∀ (sh : Shp) {K : D → Prop}, (∀ d, K d) → allS sh K
 | .v k, K, h => allK_of fun v => h _
 | .l md e sub, K, h => fun es => h _
 | .p md t sub, K, h => allSs_of sub fun d => h _
 | .f g sub, K, h => allSs_of sub fun d => h _
theorem allSs_of : ∀ (sh : List Shp) {K : List D → Prop}, (∀ d, K d) → allSs sh K
 | [], K, h => h _
 | s :: ss, K, h => allS_of s fun d => allSs_of ss fun ds => h _
end
theorem allPs_of {ps : List Pm} {K : List (List D) → Prop} (h : ∀ d, K d) : allPs ps K := by
 induction ps generalizing K with
 | nil => exact h _
 | cons p ps ih =>
   have h1 : allSs p.sub fun ds => allPs ps fun dss => K (ds :: dss) := allSs_of p.sub fun d => ih fun ds => h _
   simp only [allPs]
   split
   ·exact h1
   ·exact ⟨h1, ih fun ds => h _⟩
mutual
theorem take_vs : ∀ {sh : Shp} {v : Value} {s s' : DS} {d : D}, sh.str = true → sh.rdo = true → take none sh v s = some (d, s') → s' = s
 | .v k, v, s, s', d, _, _, h => by
   simp only [take] at h
   split at h
   ·simp only [Option.some.injEq, Prod.mk.injEq] at h
    exact h.2.symm
   ·cases h
 | .l md e sub, v, s, s', d, h1, h2, h => by
   simp only [Shp.str, Shp.rdo, Bool.and_eq_true, Bool.or_eq_true, beq_iff_eq] at h1 h2
   omega
 | .p md t sub, v, s, s', d, h1, h2, h => by
   simp only [Shp.str, Shp.rdo, Bool.and_eq_true, Bool.or_eq_true, beq_iff_eq] at h1 h2
   omega
 | .f g sub, v, s, s', d, h1, h2, h => by
   simp only [take] at h
   split at h
   ·split at h
    ·split at h
     ·split at h
      ·rename_i ds s2 ht
       simp only [Option.some.injEq, Prod.mk.injEq] at h
       rw [← h.2]
       exact takes_vs (sh := sub) h1 h2 ht
      ·cases h
     ·cases h
    ·cases h
   ·cases h
theorem takes_vs : ∀ {sh : List Shp} {v : List Value} {s s' : DS} {d : List D}, Shp.strs sh = true → Shp.rdos sh = true → takes none sh v s = some (d, s') → s' = s
 | [], v, s, s', d, _, _, h => by
   simp only [takes] at h
   split at h
   ·simp only [Option.some.injEq, Prod.mk.injEq] at h
    exact h.2.symm
   ·cases h
 | t :: ts, v, s, s', d, h1, h2, h => by
   simp only [Shp.strs, Shp.rdos, Bool.and_eq_true] at h1 h2
   simp only [takes] at h
   split at h
   ·split at h
    ·rename_i d1 s1 e1
     split at h
     ·rename_i d2 s2 e2
      simp only [Option.some.injEq, Prod.mk.injEq] at h
      rw [← h.2, takes_vs h1.2 h2.2 e2]
      exact take_vs h1.1 h2.1 e1
     ·cases h
    ·cases h
   ·cases h
end
theorem argTake_rdo : ∀ {ps : List Pm} {ls : List (List Value)} {s s1 : DS} {ds : List (List D)}, (ps.all fun p => Shp.rdos p.sub) = true → argTake ps ls s = some (ds, s1) → s1 = s
 | [], [], s, s1, ds, _, h => by
   simp only [argTake, Option.some.injEq, Prod.mk.injEq] at h
   exact h.2.symm
 | p :: ps, l :: ls, s, s1, ds, hr, h => by
   simp only [List.all_cons, Bool.and_eq_true] at hr
   simp only [argTake] at h
   split at h
   ·rename_i d sa hd1
    split at h
    ·rename_i ds' sb hd2
     simp only [Option.some.injEq, Prod.mk.injEq] at h
     rw [← h.2, argTake_rdo hr.2 hd2]
     split at hd1
     ·simp only [Option.some.injEq, Prod.mk.injEq] at hd1
      exact hd1.2.symm
     split at hd1
     ·rename_i hs
      exact takes_vs hs hr.1 hd1
     ·simp only [Option.some.injEq, Prod.mk.injEq] at hd1
      exact hd1.2.symm
    ·cases h
   ·cases h
 | [], _ :: _, _, _, _, _, h => by simp [argTake] at h
 | _ :: _, [], _, _, _, _, h => by simp [argTake] at h
theorem scal_reps {w : World} {Z : Nat → Nat → Prop} : ∀ {sub : List Shp} {vs : List Value}, All2 (fun sh v => ∃ k, sh = Shp.v k ∧ flatK k = true ∧ k.fits v = true) sub vs → Reps w Z sub (vs.map D.v) vs []
 | _, _, .nil => .nil
 | _, _, .cons ⟨k, rfl, h1, h2⟩ h => .cons (f := []) (fs := []) (.v h1 h2) (scal_reps h)
theorem scal_crf : ∀ {sub : List Shp} {vs : List Value}, All2 (fun sh v => ∃ k, sh = Shp.v k ∧ flatK k = true ∧ k.fits v = true) sub vs → All2 (CRf hd (BxE st)) vs vs
 | _, _, .nil => .nil
 | _, _, .cons ⟨k, rfl, h1, h2⟩ h => .cons (CRf.plain (flat_plain h1 h2)) (scal_crf h)
theorem matR_scal {w : World} {Z : Nat → Nat → Prop} : ∀ {ps : List Pm} {ds : List (List D)} {s s2 : DS} {vs : List Value}, (ps.all fun p => scalars p.sub) = true → (ps.all fun p => p.agg || p.sub.length == 1) = true → matR ps ds s = some (vs, s2) → s2 = s ∧ RepA w Z ps ds vs [] ∧ All2 (CRa hd (BxE st)) vs vs
 | [], [], s, s2, vs, _, _, h => by
   simp only [matR, Option.some.injEq, Prod.mk.injEq] at h
   obtain ⟨rfl, rfl⟩ := h
   exact ⟨rfl, .nil, .nil⟩
 | p :: ps, d :: ds, s, s2, vs, h1, h2, h => by
   simp only [List.all_cons, Bool.and_eq_true] at h1 h2
   simp only [matR] at h
   split at h
   ·rename_i v sa hm
    split at h
    ·rename_i vs' sb hm2
     simp only [Option.some.injEq, Prod.mk.injEq] at h
     obtain ⟨rfl, rfl⟩ := h
     have hnd : p.nilD d = false := by
      cases hd : p.nilD d with
      | false => rfl
      | true =>
        obtain ⟨_, t, sub, hs⟩ := Pm.nilp_sub (Pm.nilD_eq hd).1
        rw [hs] at h1
        simp [scalars] at h1
     rw [hnd] at hm
     simp only [Bool.false_eq_true, if_false] at hm
     obtain ⟨rfl, rfl, e3⟩ := mats_scalars h1.1 hm
     obtain ⟨rfl, k2, k3⟩ := matR_scal h1.2 h2.2 hm2
     have hlen : p.agg = false → v.length = 1 := fun ha => by
      have h2' := h2.1
      rw [ha] at h2'
      rw [e3.len]
      simpa using h2'
     refine ⟨rfl, .cons (f := []) (fs := []) (scal_reps e3) hlen k2, .cons ?_ k3⟩
     have hcf : All2 (CRf hd (BxE st)) v v := scal_crf e3
     unfold Pm.mk'
     split
     ·exact ⟨v, rfl, by simpa using hcf⟩
     ·rename_i hagg
      have hl := hlen (by simpa using hagg)
      cases hcf with
      | nil => simp at hl
      | @cons a b l m c1 c2 =>
        show CRa hd (BxE st) a a
        cases a <;> first | exact c1 | exact absurd rfl (c1.2.1 _)
    ·cases h
   ·cases h
 | [], _ :: _, _, _, _, _, _, h => by simp [matR] at h
 | _ :: _, [], _, _, _, _, _, h => by simp [matR] at h
theorem escNow_vals : ∀ bx : List Bx, escVals bx (bx.map fun b => b.cs.map (·.1)) = escNow bx
 | [] => rfl
 | b :: r => by
   simp only [List.map_cons, escVals, escNow, escNow_vals r]
theorem escBx_keep (vr : Nat) : ∀ (bx : List Bx) (vs : List Value) (k : Nat) (b : Bx), bx[k]? = some b → ∃ b', (escBx vr bx vs)[k]? = some b' ∧ b'.id = b.id ∧ b'.esc = b.esc
 | [], _, _, _, h => by cases h
 | b0 :: r, vs, k, b, h => by
   simp only [escBx]
   split
   ·cases k with
    | zero => obtain rfl := Option.some.inj h; exact ⟨_, rfl, rfl, rfl⟩
    | succ k => exact escBx_keep vr r _ k b h
   ·cases k with
    | zero => obtain rfl := Option.some.inj h; exact ⟨_, rfl, rfl, rfl⟩
    | succ k => exact escBx_keep vr r _ k b h
theorem after_E (st : St) (dr : Bool) (vs : List Value) {k b : Nat} (h : BxE st k b) : BxE (st.after dr vs) k b := by
 cases dr
 ·obtain ⟨x, h1, h2, h3⟩ := h
  obtain ⟨x', e1, e2, e3⟩ := escBx_keep st.ctr st.bx vs k x h1
  exact ⟨x', e1, e2.trans h2, e3.trans h3⟩
 ·exact h
theorem after_l (st : St) (dr : Bool) (vs : List Value) : st.bx.length ≤ (st.after dr vs).bx.length := by
 cases dr <;> simp [St.after, escBx_len]
theorem rsOk_one {P : Program} {t : TypeId} {ps : List Pm} (h : rsOk P t ps = true) : (ps.all fun p => p.agg || p.sub.length == 1) = true := by
 have many : ∀ {ps : List Pm} {shs : List Sh}, pmShs ps shs = true → (ps.all fun p => p.agg || p.sub.length == 1) = true := by
  intro ps
  induction ps with
  | nil => intro _ _; rfl
  | cons p ps ih =>
    intro shs h
    cases shs with
    | nil => simp [pmShs] at h
    | cons sh shs =>
      simp only [pmShs, pmSh, Bool.and_eq_true] at h
      simp only [List.all_cons, Bool.and_eq_true]
      exact ⟨h.1.2, ih h.2⟩
 unfold rsOk at h
 split at h
 ·simp only [Bool.and_eq_true, pmSh] at h
  simp only [List.all_cons, List.all_nil, Bool.and_true]
  exact h.1.2
 ·simp only [Bool.and_eq_true] at h
  exact many h.1
 ·cases h
theorem scal_strs {ps : List Pm} (h : (ps.all fun p => scalars p.sub) = true) : (ps.all fun p => Shp.strs p.sub) = true := by
 have one : ∀ l : List Shp, scalars l = true → Shp.strs l = true := by
  intro l
  induction l with
  | nil => intro _; rfl
  | cons a l ih =>
    intro h
    simp only [scalars, List.all_cons, Bool.and_eq_true] at h
    cases a <;> simp [Shp.strs, Shp.str] at h ⊢
    exact ih (by simpa [scalars] using h)
 exact List.all_eq_true.2 fun p hp => one _ (List.all_eq_true.1 h p hp)
theorem call_ok {Gl : List (Nat × List Value)} (G : Gd0 dcx cx Gl Z0) (h : Lk cx Z0 s hd Z F st w) {f : Operand} {args : Array Operand} {at_ : Array TypeId} {dr : Bool} {k : DS → Prop} (hop : o.op = .call { callee := .value f, args, argTypes := at_ }) (hl : dEff dcx ops dr s T o k) : effOp cx ops dr st T o w (Nx cx Z0 s hd k) := by
 unfold dEff at hl
 simp only [hop] at hl
 split at hl
 ·rename_i g fst cap avs hf hvs
  split at hl
  ·rename_i hfst
   split at hl
   ·rename_i hok
    obtain ⟨hok, hnt⟩ := hok
    split at hl
    ·rename_i S ls ds s1 hpick
     obtain ⟨hSm, ds0, hal, hat, haf⟩ := pickS_ok hpick
     obtain ⟨cvf, h1, y, hy, hcv⟩ := rd_ok h.ek hf
     obtain ⟨g', cs, hg, _, rfl, hcs⟩ := (show CRf hd (BxE st) (.func (.func g) fst cap) y from hy)
     simp only [Fn.func.injEq] at hg
     subst hg
     simp only [fnV] at hcv hy
     -- the state in which what is handed on is marked
     have lk1 : Like st ((st.esc1 cvf).escs T args.toList) := (Like.esc1 st cvf).trans (Like.escs _ _ _)
     have hm1 : ∀ k b, BxE st k b → BxE ((st.esc1 cvf).escs T args.toList) k b := fun k b hh => escs_mono T args.toList _ (esc1_mono st cvf hh)
     have hL1 : Lk cx Z0 s hd Z F ((st.esc1 cvf).escs T args.toList) w := h.like lk1 hm1
     obtain ⟨hcan, hargs⟩ := vals_ok (E := BxE ((st.esc1 cvf).escs T args.toList)) h.ek hm1 args.toList avs (fun x hx k off e1 e2 => by
      have := escs_hit T args.toList (st.esc1 cvf) hx (by rw [rd_esc1]; exact e1) (by rw [esc1_len]; exact e2)
      rwa [show (st.esc1 cvf).idAt k = st.idAt k by rw [idAt_eq, idAt_eq, (esc1_bx st cvf).ids]] at this) hvs
     have hcc : All2 (CR hd (BxE ((st.esc1 cvf).escs T args.toList))) cap.toList cs := by
      refine hcs.mono fun a b hab => ?_
      have := (crl_crf (.cons hab .nil) : All2 (CRf hd (BxE st)) [a] [b])
      cases this with
      | cons c1 _ =>
        have c1 := c1.mono (Ext.refl hd) hm1
        cases a <;> first | exact c1 | exact absurd rfl (c1.2.1 _) | (have := c1.1; simp [constV] at this; done)
     have hvals : All2 (CR hd (BxE ((st.esc1 cvf).escs T args.toList))) (cap.toList.take (nfOf g) ++ (avs ++ cap.toList.drop (nfOf g))) (cs.take (nfOf g) ++ (args.toList.map (st.rho T) ++ cs.drop (nfOf g))) := (hcc.take _).append (hargs.append (hcc.drop _))
     have hfit := escFit_of hL1.ek.bf
     have hsp := G.sp _ S hSm
     have hokg : cx.ok (fnOf g) = true := by rw [← G.ok]; exact hok
     -- the rest, in either form
     have main : ∀ (rs : Rs), rsOf cx.P o.type = some rs → ∀ w1, Lk cx Z0 s hd Z F ((st.esc1 cvf).escs T args.toList) w1 → (∀ k ∈ ((st.esc1 cvf).escs T args.toList).ids, k < w1.heap.size) → (∀ b ∈ ((st.esc1 cvf).escs T args.toList).bx, b.esc = true → Box w1 b.id (b.cs.map (·.1)) b.ty) →
      ∀ E : (Value → World → Prop) → Prop, (∀ R : Value → World → Prop, Calls cx.P (fnOf g) (cs.take (nfOf g) ++ (args.toList.map (st.rho T) ++ cs.drop (nfOf g))).toArray w1 (fun e w2 => ∃ v, e = .returned v ∧ R v w2) → E R) → effW cx ops dr ((st.esc1 cvf).escs T args.toList) T rs o.dst w1 E (Nx cx Z0 s hd k) := by
      intro rs hrs w1 hW hlt hbox E hE
      generalize hst1 : (st.esc1 cvf).escs T args.toList = st1 at *
      unfold dCall at hl
      split at hl
      ·rename_i hrsok
       rw [G.P] at hrsok hl
       cases T with
       | nil =>
         simp only at hl
         split at hl
         ·rename_i hc
          obtain ⟨hc1, hc2, hc3⟩ := hc
          obtain ⟨a, hin, hl⟩ := hl
          have hro : dr = true → ro S.as = true ∧ S.af = [] := fun hd' => by
           rw [hd'] at hc1
           simpa using hc1
          simp only [effW]
          refine hE _ (call_end (dr := dr) hW hsp G.gl G.z0 hlt hbox hvals hnt hal hat haf hin hc2 hc3 hro ?_)
          rintro w2 rvs f hF hmine hown hf0 ⟨outs, hout, ⟨Z', ys, f', hRA⟩, hrest⟩
          have hl := allPs_at hl hRA hout
          split at hl
          ·rename_i vs2 s2 hmR
           split at hl
           ·rename_i s3 hgB
            split at hl
            ·rename_i hbk
             obtain ⟨hbk, hany⟩ := hbk
             obtain ⟨⟨Z2, fr, hRA2⟩, cc, hd3, Zn, F3, c1, c2, c3, _, c4, c5, c6, c7⟩ := hrest vs2 s2 s3 hmR hgB hbk
             obtain ⟨rs', ls', e1, e2, e3, e4⟩ := res_ok hrsok hRA2 c5 hany
             rw [hrs] at e1
             obtain rfl := Option.some.inj e1
             refine ⟨_, rfl, ?_⟩
             have hll := fits_length e3
             refine exKs_of (vs := ls' ++ (if dr then [] else escVals st1.bx cc)) (fits_app e3 (by unfold St.anew; exact c1)) ⟨by rw [← hll, List.take_left, e2], ?_, ?_⟩
             ·refine stp_of hF hmine fun k hk hm => ?_
              cases dr with
              | true => rw [hf0 rfl] at hm; cases hm
              | false =>
                simp only [St.kept, Bool.false_eq_true, if_false, St.keeps, List.mem_map, List.mem_filter] at hk
                obtain ⟨b, ⟨hb1, hb2⟩, rfl⟩ := hk
                rcases hown _ hm with ⟨r, hr⟩ | ⟨q, x, hx1, hx2, hx3⟩
                ·exact (hW.tk.sp.il b.id (List.mem_map.2 ⟨b, hb1, rfl⟩)).2 r hr
                ·obtain ⟨q2, hq2⟩ := List.getElem?_of_mem hb1
                 have n1 : st1.ids[q]? = some b.id := by unfold St.ids; rw [List.getElem?_map, hx1]; simp [hx2]
                 have n2 : st1.ids[q2]? = some b.id := by unfold St.ids; rw [List.getElem?_map, hq2]; rfl
                 have := (List.getElem?_inj (get_lt n1) hW.ek.nd).1 (n1.trans n2.symm)
                 subst this
                 rw [hx1] at hq2
                 obtain rfl := Option.some.inj hq2
                 rw [hx3] at hb2
                 cases hb2
             ·have hfin : Fr cx.M cx.w0 w2 → Nx cx Z0 s hd k ((st1.after dr ((ls' ++ (if dr then [] else escVals st1.bx cc)).drop rs.ks.length)).put o.dst (rsCv rs ((ls' ++ (if dr then [] else escVals st1.bx cc)).take rs.ks.length)) []) w2 := fun hfr => by
               rw [← hll, List.drop_left, List.take_left]
               refine ⟨_, hd3, Zn, F3, c4.put (cv := .v (retV vs2)) ?_, c7.trans (DAgr.put _ _ _ _), c6, hl⟩
               exact e4.mono (Ext.refl _) (fun _ _ h => after_E _ _ _ h) (after_l _ _ _)
              unfold St.asks
              rw [← hll, List.drop_left]
              cases dr with
              | true => rw [← hll, List.drop_left] at hfin; simp only [if_true]; exact hfin
              | false =>
                rw [← hll, List.drop_left] at hfin
                simp only [Bool.false_eq_true, if_false] at hfin ⊢
                refine boxAsks_of (fun b hb he => ?_) hfin
                obtain ⟨q, hq⟩ := List.getElem?_of_mem hb
                have hql : q < st1.bx.length := by have := get_lt hq; rwa [escBx_len] at this
                have hqc : q < cc.length := by rw [c3]; exact hql
                have hg1 := escBx_at st1.ctr c3 (fun k b c h1 h2 h3 => (c2 k b c h1 h2 h3).2) q _ _ (List.getElem?_eq_getElem hql) (List.getElem?_eq_getElem hqc)
                rw [hq] at hg1
                have hg1 := Option.some.inj hg1
                by_cases hee : (st1.bx[q]).esc = true
                ·rw [if_pos hee] at hg1
                 rw [hg1]
                 have := (c2 q _ _ (List.getElem?_eq_getElem hql) (List.getElem?_eq_getElem hqc) hee).1
                 simpa [Function.comp_def] using this
                ·rw [if_neg hee] at hg1
                 rw [hg1] at he
                 exact absurd he hee
            ·exact hl.elim
           ·exact hl.elim
          ·exact hl.elim
         ·exact hl.elim
       | cons t0 tr =>
         simp only at hl
         split at hl
         ·rename_i hc
          obtain ⟨hc1, hc2, hc3, hc4⟩ := hc
          have hs1 : s1 = s := argTake_rdo hc1 hat
          subst hs1
          have haf0 : S.af = [] := by simpa using hc3
          have hps : S.ps = S.rs := by simp [Spec.ps, haf0]
          have hone : (S.rs.all fun p => p.agg || p.sub.length == 1) = true := rsOk_one hrsok
          split at hl
          ·exact hl.elim
          ·rename_i gd hgd
           have hgx := dgx_ok hW.ek hgd
           obtain ⟨hl1, hl2⟩ := hl _ (allPs_of fun d h => h)
           simp only [effW, hgx]
           intro K' hK'
           have hstr : (S.rs.all fun p => Shp.strs p.sub) = true := scal_strs hc2
           -- what both ways come to
           have both : ∀ (outs : List (List D)) (w2 : World) (avs : List Value) (s2 : DS) (rvs : List Value) (Z2 : Nat → Nat → Prop) (hd3 : List Value) (Zn : Nat → Nat → Prop) (F3 : Nat → List Nat) (cc : List (List Value)) (fr : List Nat), Fr cx.M cx.w0 w2 → RepA w2 Z2 S.rs outs rvs fr → All2 (CRa hd3 (BxE st1)) avs rvs → resAny cx.P o.type avs = true → Lk cx Z0 s2 hd3 Zn F3 (st1.after dr (if dr then [] else escVals st1.bx cc)) w2 → Ext hd hd3 → DAgr s1 s2 → Fits (if dr then [] else escKs cx.P st1.bx) (if dr then [] else escVals st1.bx cc) → k (s2.put o.dst (.v (retV avs)) (t0 :: tr)) →
            ∃ ls', retV rvs = rs.mk ls' ∧ Fits rs.ks ls' ∧ K' (ls' ++ (if dr then [] else escVals st1.bx cc)) w2 := by
            intro outs w2 avs s2 rvs Z2 hd3 Zn F3 cc fr hfr q1 q2 q3 q4 q5 q6 q7 q8
            obtain ⟨rs', ls', e1, e2, e3, e4⟩ := res_ok hrsok q1 q2 q3
            rw [hrs] at e1
            obtain rfl := Option.some.inj e1
            have hll := fits_length e3
            refine ⟨ls', e2, e3, ?_⟩
            have := allKs_at hK' (fits_app e3 (by unfold St.anew; exact q7)) w2 hfr
            refine this ?_
            rw [← hll, List.drop_left, List.take_left]
            exact ⟨_, hd3, Zn, F3, q4.put (cv := .v (retV avs)) (e4.mono (Ext.refl _) (fun _ _ h => after_E _ _ _ h) (after_l _ _ _)), q6.trans (DAgr.put _ _ _ _), q5, q8⟩
           refine ⟨fun hg => ?_, fun hg => ?_⟩
           ·obtain ⟨a, hin, hl⟩ := hl1 hg
            have hnil : ∀ {Z : Nat → Nat → Prop} {ww : World} {ps : List Pm} {ds : List (List D)} {vs : List Value} {f : List Nat}, (ps.all fun p => Shp.rdos p.sub) = true → RepA ww Z ps ds vs f → f = [] := fun h1 h2 => ro_nil h2 (List.all_eq_true.2 fun p hp => rdos_bors (List.all_eq_true.1 h1 p hp))
            refine hE _ (call_end (dr := dr) hW hsp G.gl G.z0 hlt hbox hvals hnt hal hat haf hin hstr (by rw [haf0]; rfl) (fun _ => ⟨List.all_eq_true.2 fun p hp => rdos_bors (List.all_eq_true.1 hc1 p hp), haf0⟩) ?_)
            rintro w2 rvs f hF hmine hown hf0 ⟨outs, hout, ⟨Z', ys, f', hRA⟩, hrest⟩
            rw [hps] at hRA
            have hl3 := allPs_at hl hRA hout
            have hol : outs.length = S.rs.length := hRA.len.1
            have htk : outs.take S.rs.length = outs := List.take_of_length_le (Nat.le_of_eq hol)
            have hdk : outs.drop S.rs.length = [] := List.drop_eq_nil_of_le (Nat.le_of_eq hol)
            split at hl3
            ·rename_i avs s2 hmR
             split at hl3
             ·rename_i hany
              obtain ⟨hs2, _, _⟩ := matR_scal (hd := hd) (st := st1) (w := w2) (Z := Z') hc2 hone hmR
              subst hs2
              obtain ⟨⟨Z2, fr, hRA2⟩, cc, hd3, Zn, F3, c1, c2, c3, c4, c5, c6, c7, c8⟩ := hrest avs s2 s2 (by rw [htk]; exact hmR) (by rw [haf0, hdk]; rfl) hc4
              obtain ⟨ls', e1, e2, e3⟩ := both _ w2 avs s2 rvs Z2 hd3 Zn F3 cc fr c4 hRA2 c6 hany c5 c7 c8 c1 hl3
              refine ⟨_, rfl, ?_⟩
              have hll := fits_length e2
              refine exKs_of (vs := ls' ++ (if dr then [] else escVals st1.bx cc)) (fits_app e2 (by unfold St.anew; exact c1)) ⟨by rw [← hll, List.take_left, e1], ?_, ?_⟩
              ·refine stp_of hF hmine fun kk hk hm => ?_
               cases dr with
               | true => rw [hf0 rfl] at hm; cases hm
               | false =>
                 simp only [St.kept, Bool.false_eq_true, if_false, St.keeps, List.mem_map, List.mem_filter] at hk
                 obtain ⟨b, ⟨hb1, hb2⟩, rfl⟩ := hk
                 rcases hown _ hm with ⟨r, hr⟩ | ⟨q, x, hx1, hx2, hx3⟩
                 ·exact (hW.tk.sp.il b.id (List.mem_map.2 ⟨b, hb1, rfl⟩)).2 r hr
                 ·obtain ⟨q2, hq2⟩ := List.getElem?_of_mem hb1
                  have n1 : st1.ids[q]? = some b.id := by unfold St.ids; rw [List.getElem?_map, hx1]; simp [hx2]
                  have n2 : st1.ids[q2]? = some b.id := by unfold St.ids; rw [List.getElem?_map, hq2]; rfl
                  have := (List.getElem?_inj (get_lt n1) hW.ek.nd).1 (n1.trans n2.symm)
                  subst this
                  rw [hx1] at hq2
                  obtain rfl := Option.some.inj hq2
                  rw [hx3] at hb2
                  cases hb2
              ·unfold St.asks
               rw [← hll, List.drop_left]
               cases dr with
               | true => simp only [if_true] at e3 ⊢; exact e3
               | false =>
                 simp only [Bool.false_eq_true, if_false] at e3 ⊢
                 refine boxAsks_of (fun b hb he => ?_) e3
                 obtain ⟨q, hq⟩ := List.getElem?_of_mem hb
                 have hql : q < st1.bx.length := by have := get_lt hq; rwa [escBx_len] at this
                 have hqc : q < cc.length := by rw [c3]; exact hql
                 have hg1 := escBx_at st1.ctr c3 (fun k b c h1 h2 h3 => (c2 k b c h1 h2 h3).2) q _ _ (List.getElem?_eq_getElem hql) (List.getElem?_eq_getElem hqc)
                 rw [hq] at hg1
                 have hg1 := Option.some.inj hg1
                 by_cases hee : (st1.bx[q]).esc = true
                 ·rw [if_pos hee] at hg1
                  rw [hg1]
                  have := (c2 q _ _ (List.getElem?_eq_getElem hql) (List.getElem?_eq_getElem hqc) hee).1
                  simpa [Function.comp_def] using this
                 ·rw [if_neg hee] at hg1
                  rw [hg1] at he
                  exact absurd he hee
             ·exact hl3.elim
            ·exact hl3.elim
           ·obtain ⟨outs, _, hl4⟩ := exPs_ex (hl2 hg)
            split at hl4
            ·rename_i avs s2 hmR
             split at hl4
             ·rename_i hany
              obtain ⟨hs2, hRA2, hcra⟩ := matR_scal (hd := hd) (st := st1) (w := w1) (Z := Z) hc2 hone hmR
              subst hs2
              have hbg : Bg s2 hd st1 (st1.bx.map fun b => b.cs.map (·.1)) (· ∈ st1.ids) w1 := by
               refine ⟨by simp, hW.ek.bl.symm, fun k x b hk hb => ?_, fun k x hk hn => ?_⟩
               ·obtain ⟨b', g1, g2, _⟩ := hW.ek.bx k x hk
                rw [hb] at g1
                obtain rfl := Option.some.inj g1
                exact g2
               ·obtain ⟨b, g1, g2, g3⟩ := hW.ek.bx k x hk
                exact ⟨b, b.cs.map (·.1), g1, by rw [List.getElem?_map, g1]; rfl, g3 hn, List.mem_map.2 ⟨b, List.mem_of_getElem? g1, rfl⟩, fun he => hbox b (List.mem_of_getElem? g1) he, fun _ => rfl⟩
              obtain ⟨r1, r2, r3⟩ := after_ok (dr := dr) hW (Ext.refl _) rfl rfl hbg hW.tk hc4 (fun _ k b c hb hc => by
               rw [List.getElem?_map, hb] at hc
               exact (Option.some.inj hc).symm) hW.fr hW.z0 hW.zg
              obtain ⟨ls', e1, e2, e3⟩ := both _ w1 avs s2 avs Z hd Z F _ [] hW.fr hRA2 hcra hany r1 (Ext.refl _) (DAgr.refl _) (by
               cases dr
               ·exact escKs_fit (by simp) fun k b c hb hc _ => r2 k b c hb hc
               ·trivial) hl4
              refine exKs_of e2 ?_
              rw [escNow_vals] at e3
              exact e3
             ·exact hl4.elim
            ·exact hl4.elim
         ·split at hl
          ·rename_i hc
           obtain ⟨hdr, hc2, hc3, hc4⟩ := hc
           subst hdr
           have hone : (S.rs.all fun p => p.agg || p.sub.length == 1) = true := rsOk_one hrsok
           split at hl
           ·exact hl.elim
           ·rename_i gd hgd
            have hgx := dgx_ok hW.ek hgd
            obtain ⟨hl1, hl2⟩ := hl
            simp only [effW, hgx]
            intro K' hK'
            have hstr : (S.rs.all fun p => Shp.strs p.sub) = true := scal_strs hc2
            -- what both ways come to
            have both : ∀ (outs : List (List D)) (w2 : World) (avs : List Value) (s2 : DS) (rvs : List Value) (Z2 : Nat → Nat → Prop) (hd3 : List Value) (Zn : Nat → Nat → Prop) (F3 : Nat → List Nat) (cc : List (List Value)) (fr : List Nat), Fr cx.M cx.w0 w2 → RepA w2 Z2 S.rs outs rvs fr → All2 (CRa hd3 (BxE st1)) avs rvs → resAny cx.P o.type avs = true → Lk cx Z0 s2 hd3 Zn F3 (st1.after false (if false = true then [] else escVals st1.bx cc)) w2 → Ext hd hd3 → DAgr s s2 → Fits (if false = true then [] else escKs cx.P st1.bx) (if false = true then [] else escVals st1.bx cc) → k (s2.put o.dst (.v (retV avs)) (t0 :: tr)) →
             ∃ ls', retV rvs = rs.mk ls' ∧ Fits rs.ks ls' ∧ K' (ls' ++ (if false = true then [] else escVals st1.bx cc)) w2 := by
             intro outs w2 avs s2 rvs Z2 hd3 Zn F3 cc fr hfr q1 q2 q3 q4 q5 q6 q7 q8
             obtain ⟨rs', ls', e1, e2, e3, e4⟩ := res_ok hrsok q1 q2 q3
             rw [hrs] at e1
             obtain rfl := Option.some.inj e1
             have hll := fits_length e3
             refine ⟨ls', e2, e3, ?_⟩
             have := allKs_at hK' (fits_app e3 (by unfold St.anew; exact q7)) w2 hfr
             refine this ?_
             rw [← hll, List.drop_left, List.take_left]
             exact ⟨_, hd3, Zn, F3, q4.put (cv := .v (retV avs)) (e4.mono (Ext.refl _) (fun _ _ h => after_E _ _ _ h) (after_l _ _ _)), q6.trans (DAgr.put _ _ _ _), q5, q8⟩
            refine ⟨fun hg => ?_, fun hg => ?_⟩
            ·obtain ⟨a, hin, hl⟩ := hl1 hg
             refine hE _ (call_end (dr := false) hW hsp G.gl G.z0 hlt hbox hvals hnt hal hat haf hin hstr hc3 (fun h => by cases h) ?_)
             rintro w2 rvs f hF hmine hown hf0 ⟨outs, hout, ⟨Z', ys, f', hRA⟩, hrest⟩
             have hl := allPs_at hl hRA hout
             split at hl
             ·rename_i vs2 s2 hmR
              split at hl
              ·rename_i s3 hgB
               split at hl
               ·rename_i hbk
                obtain ⟨hbk, hany⟩ := hbk
                obtain ⟨⟨Z2, fr, hRA2⟩, cc, hd3, Zn, F3, c1, c2, c3, c4, c5, c6, c7, c8⟩ := hrest vs2 s2 s3 hmR hgB hbk
                obtain ⟨ls', e1, e2, e3⟩ := both _ w2 vs2 s3 rvs Z2 hd3 Zn F3 cc fr c4 hRA2 c6 hany c5 c7 c8 c1 hl
                refine ⟨_, rfl, ?_⟩
                have hll := fits_length e2
                refine exKs_of (vs := ls' ++ (if false = true then [] else escVals st1.bx cc)) (fits_app e2 (by unfold St.anew; exact c1)) ⟨by rw [← hll, List.take_left, e1], ?_, ?_⟩
                ·refine stp_of hF hmine fun kk hk hm => ?_
                 simp only [St.kept, Bool.false_eq_true, if_false, St.keeps, List.mem_map, List.mem_filter] at hk
                 obtain ⟨b, ⟨hb1, hb2⟩, rfl⟩ := hk
                 rcases hown _ hm with ⟨r, hr⟩ | ⟨q, x, hx1, hx2, hx3⟩
                 ·exact (hW.tk.sp.il b.id (List.mem_map.2 ⟨b, hb1, rfl⟩)).2 r hr
                 ·obtain ⟨q2, hq2⟩ := List.getElem?_of_mem hb1
                  have n1 : st1.ids[q]? = some b.id := by unfold St.ids; rw [List.getElem?_map, hx1]; simp [hx2]
                  have n2 : st1.ids[q2]? = some b.id := by unfold St.ids; rw [List.getElem?_map, hq2]; rfl
                  have := (List.getElem?_inj (get_lt n1) hW.ek.nd).1 (n1.trans n2.symm)
                  subst this
                  rw [hx1] at hq2
                  obtain rfl := Option.some.inj hq2
                  rw [hx3] at hb2
                  cases hb2
                ·unfold St.asks
                 rw [← hll, List.drop_left]
                 simp only [Bool.false_eq_true, if_false] at e3 ⊢
                 refine boxAsks_of (fun b hb he => ?_) e3
                 obtain ⟨q, hq⟩ := List.getElem?_of_mem hb
                 have hql : q < st1.bx.length := by have := get_lt hq; rwa [escBx_len] at this
                 have hqc : q < cc.length := by rw [c3]; exact hql
                 have hg1 := escBx_at st1.ctr c3 (fun k b c h1 h2 h3 => (c2 k b c h1 h2 h3).2) q _ _ (List.getElem?_eq_getElem hql) (List.getElem?_eq_getElem hqc)
                 rw [hq] at hg1
                 have hg1 := Option.some.inj hg1
                 by_cases hee : (st1.bx[q]).esc = true
                 ·rw [if_pos hee] at hg1
                  rw [hg1]
                  have := (c2 q _ _ (List.getElem?_eq_getElem hql) (List.getElem?_eq_getElem hqc) hee).1
                  simpa [Function.comp_def] using this
                 ·rw [if_neg hee] at hg1
                  rw [hg1] at he
                  exact absurd he hee
               ·exact hl.elim
              ·exact hl.elim
             ·exact hl.elim
            ·obtain ⟨outs, _, hl4⟩ := exPs_ex (hl2 hg)
             split at hl4
             ·rename_i avs s2 hmR
              split at hl4
              ·rename_i hany
               obtain ⟨hs2, hRA2, hcra⟩ := matR_scal (hd := hd) (st := st1) (w := w1) (Z := Z) hc2 hone hmR
               subst hs2
               have hbg : Bg s2 hd st1 (st1.bx.map fun b => b.cs.map (·.1)) (· ∈ st1.ids) w1 := by
                refine ⟨by simp, hW.ek.bl.symm, fun k x b hk hb => ?_, fun k x hk hn => ?_⟩
                ·obtain ⟨b', g1, g2, _⟩ := hW.ek.bx k x hk
                 rw [hb] at g1
                 obtain rfl := Option.some.inj g1
                 exact g2
                ·obtain ⟨b, g1, g2, g3⟩ := hW.ek.bx k x hk
                 exact ⟨b, b.cs.map (·.1), g1, by rw [List.getElem?_map, g1]; rfl, g3 hn, List.mem_map.2 ⟨b, List.mem_of_getElem? g1, rfl⟩, fun he => hbox b (List.mem_of_getElem? g1) he, fun _ => rfl⟩
               obtain ⟨r1, r2, r3⟩ := after_ok (dr := false) hW (Ext.refl _) rfl rfl hbg hW.tk hc4 (fun _ k b c hb hc => by
                rw [List.getElem?_map, hb] at hc
                exact (Option.some.inj hc).symm) hW.fr hW.z0 hW.zg
               obtain ⟨ls', e1, e2, e3⟩ := both _ w1 avs s2 avs Z hd Z F _ [] hW.fr hRA2 hcra hany r1 (Ext.refl _) (DAgr.refl _) (by
                exact escKs_fit (by simp) fun k b c hb hc _ => r2 k b c hb hc) hl4
               refine exKs_of e2 ?_
               rw [escNow_vals] at e3
               exact e3
              ·exact hl4.elim
             ·exact hl4.elim
          ·exact hl.elim
      ·exact hl.elim
     -- the two forms
     unfold effOp
     simp only [hop, h1, hcan]
     cases hrs : rsOf cx.P o.type with
     | none =>
       exfalso
       unfold dCall at hl
       split at hl
       ·rename_i hr
        rw [G.P] at hr
        unfold rsOk at hr
        rw [hrs] at hr
        cases hr
       ·exact hl
     | some rs =>
       simp only [hfit, if_true]
       rcases hcv with rfl | ⟨rfl, _⟩
       ·simp only [hokg, if_true]
        refine flush_of hL1 fun w1 h' => ltHyp_of fun hlt => boxHyps_of fun hbox => main rs hrs w1 h' hlt hbox _ fun R hR => ?_
        simpa using hR
       ·refine flush_of hL1 fun w1 h' => ltHyp_of fun hlt => boxHyps_of fun hbox => main rs hrs w1 h' hlt hbox _ fun R hR => ⟨hokg, ?_⟩
        simpa using hR
    ·exact hl.elim
   ·exact hl.elim
  ·exact hl.elim
 ·exact hl.elim
end
end Go.Dw
end
section
namespace Go.Dw
open Go Go.Cw
set_option linter.unusedVariables false
section
variable {dcx : Dcx} {cx : Cx} {ops : Array Oper} {s s' : DS} {T : List (Nat × Bool)} {o : Oper} {hd : List Value} {Z0 Z : Nat → Nat → Prop} {F : Nat → List Nat} {st : St} {w w' : World}
theorem mem_all {kk : DS → Prop} {dr : Bool} {w1 w2 : World} {s2 : DS} {hd2 : List Value} {Zn : Nat → Nat → Prop} {F2 : Nat → List Nat} {f : List Nat} {x v : Value} (h : Lk cx Z0 s hd Z F st w1) (hbox : ∀ b ∈ st.bx, b.esc = true → Box w1 b.id (b.cs.map (·.1)) b.ty) (hlt : ∀ k ∈ st.ids, k < w1.heap.size) (hbk : boxKinds cx.P s = true)
 (hF : Fr (· ∈ f) w1 w2) (hfm : ∀ k ∈ f, cx.w0.heap.size ≤ k ∨ cx.M k) (hfi : ∀ k ∈ f, ¬ k ∈ st.ids) (hfp : dr = true → ∀ q ∈ st.pins, ¬ q ∈ f) (ht : Tk cx s2.tb hd2 (BxE st) Zn F2 none [] (· ∈ st.ids) w2) (he : Ext hd hd2) (hk : Keeps s s2) (hb : s2.bx = s.bx)
 (z0 : ∀ m k, Z0 m k → Zn m k) (zg : ∀ m k, Zn m k → Z0 m k ∨ cx.w0.heap.size ≤ k ∨ cx.M k) (hv : CRf hd2 (BxE st) x v) (hsl : ∃ A n c, v = .slice A n c) (hx : ∀ g a b, x ≠ .func g a b) (hkk : kk (s2.put o.dst (.v x) T)) :
 ∃ A n c, v = .slice A n c ∧ Fits (st.anew cx.P dr) (if dr then [] else escVals st.bx (st.bx.map fun (b : Bx) => b.cs.map (·.1))) ∧ Fr cx.M cx.w0 w2 ∧ Stp cx.M cx.w0.heap.size (st.kept dr) w1 w2 ∧
  (∀ p : Prop, p → st.asks dr w2 (if dr then [] else escVals st.bx (st.bx.map fun (b : Bx) => b.cs.map (·.1))) p) ∧ Nx cx Z0 s hd kk ((st.after dr (if dr then [] else escVals st.bx (st.bx.map fun (b : Bx) => b.cs.map (·.1)))).put o.dst (.v (.slice A n c)) T) w2 := by
 have hbx2 : ∀ b ∈ st.bx, b.esc = true → Box w2 b.id (b.cs.map (·.1)) b.ty := fun b hb' hee => by
  have hm : b.id ∈ st.ids := List.mem_map.2 ⟨b, hb', rfl⟩
  exact Box.keptB (hbox b hb' hee) (hF.block _ (hlt _ hm) fun hh => hfi _ hh hm)
 have hbg : Bg s2 hd2 st (st.bx.map fun (b : Bx) => b.cs.map (·.1)) (· ∈ st.ids) w2 := by
  refine ⟨by simp, by rw [hb]; exact h.ek.bl.symm, fun k x b hk hb' => ?_, fun k x hk hn => ?_⟩
  ·rw [hb] at hk
   obtain ⟨b', g1, g2, _⟩ := h.ek.bx k x hk
   rw [hb'] at g1
   obtain rfl := Option.some.inj g1
   exact g2
  ·rw [hb] at hk
   obtain ⟨b, g1, g2, g3⟩ := h.ek.bx k x hk
   exact ⟨b, b.cs.map (·.1), g1, by rw [List.getElem?_map, g1]; rfl, (g3 hn).mono fun _ _ h => h.mono he (fun _ _ h => h), List.mem_map.2 ⟨b, List.mem_of_getElem? g1, rfl⟩, hbx2 b (List.mem_of_getElem? g1), fun _ => rfl⟩
 have hfr : Fr cx.M cx.w0 w2 := ⟨hF.os.trans h.fr.os, hF.tape.trans h.fr.tape, hF.output.trans h.fr.output, Nat.le_trans h.fr.size hF.size, fun k hk hn => by
  refine (hF.block k (Nat.lt_of_lt_of_le hk h.fr.size) fun hm => ?_).trans (h.fr.block k hk hn)
  rcases hfm k hm with h1 | h1
  ·omega
  ·exact hn h1⟩
 have hbk2 : boxKinds cx.P s2 = true := by unfold boxKinds; rw [hb]; exact hbk
 obtain ⟨r1, r2, r3⟩ := after_ok (dr := dr) h he hk.env hk.pins hbg ht hbk2 (fun _ k b c hb' hc => by
  rw [List.getElem?_map, hb'] at hc
  exact (Option.some.inj hc).symm) hfr z0 zg
 have hfits : Fits (st.anew cx.P dr) (if dr then [] else escVals st.bx (st.bx.map fun (b : Bx) => b.cs.map (·.1))) := by
  cases dr
  ·exact escKs_fit (by simp) fun k b c hb hc _ => r2 k b c hb hc
  ·trivial
 obtain ⟨A, n, c, rfl⟩ := hsl
 refine ⟨A, n, c, rfl, hfits, hfr, ?_, fun p hp => ?_, ?_⟩
 ·refine stp_of hF hfm fun k hk' hm => ?_
  cases dr with
  | true =>
    rcases List.mem_append.1 hk' with hk' | hk'
    ·exact hfi k hm hk'
    ·exact hfp rfl k hk' hm
  | false =>
    simp only [St.kept, Bool.false_eq_true, if_false, St.keeps, List.mem_map, List.mem_filter] at hk'
    obtain ⟨b, ⟨hb1, _⟩, rfl⟩ := hk'
    exact hfi _ hm (List.mem_map.2 ⟨b, hb1, rfl⟩)
 ·unfold St.asks
  cases dr with
  | true => exact hp
  | false =>
    simp only [Bool.false_eq_true, if_false]
    refine boxAsks_of (fun b hb' hee => ?_) hp
    obtain ⟨q, hq⟩ := List.getElem?_of_mem hb'
    have hql : q < st.bx.length := by have := get_lt hq; rwa [escBx_len] at this
    have hqc : (st.bx.map fun (b : Bx) => b.cs.map (·.1))[q]? = some ((st.bx[q]).cs.map (·.1)) := by rw [List.getElem?_map, List.getElem?_eq_getElem hql]; rfl
    have hg1 := escBx_at st.ctr (cc := st.bx.map fun b => b.cs.map (·.1)) (by simp) (fun k b c h1 h2 h3 => by
     rw [List.getElem?_map, h1] at h2
     obtain rfl := Option.some.inj h2
     simp) q _ _ (List.getElem?_eq_getElem hql) hqc
    rw [hq] at hg1
    have hg1 := Option.some.inj hg1
    by_cases he2 : (st.bx[q]).esc = true
    ·rw [if_pos he2] at hg1
     rw [hg1]
     have := hbx2 _ (List.getElem_mem hql) he2
     simpa [Function.comp_def] using this
    ·rw [if_neg he2] at hg1
     rw [hg1] at hee
     exact absurd hee he2
 ·refine ⟨_, hd2, Zn, F2, r1.put (cv := .v x) ?_, hk.agr.trans (DAgr.put _ _ _ _), he, hkk⟩
  have hv' : CR hd2 (BxE st) x (.slice A n c) := by
   cases x <;> first | exact hv | exact absurd rfl (hx _ _ _) | (have := hv.1; simp [constV] at this; done) | exact absurd rfl (hv.2.1 _)
  exact ⟨_, hv'.mono (Ext.refl _) (fun _ _ h => after_E _ _ _ h), .inl rfl⟩
theorem rsSl_ok {P : Program} {t : TypeId} (h : rsSl P t = true) : rsOf P t = some (.one ⟨false, [.sl]⟩) := by
 unfold rsSl at h
 split at h
 ·rename_i heq; exact heq
 ·cases h
theorem bytesOf_ok {P : Program} {e : TypeId} {b : Nat} (h : bytesOf P e = some b) : ∃ i z, P.info? e = some i ∧ i.zero = some z ∧ z.cells.size = i.size ∧ P.cellsOf e = i.size ∧ 0 < i.size ∧ i.bytes = b := by
 unfold bytesOf at h
 cases hi : P.info? e with
 | none => rw [hi] at h; cases h
 | some i =>
   rw [hi] at h
   simp only [Option.bind_some] at h
   split at h
   ·rename_i z hz
    split at h
    ·rename_i hc
     exact ⟨i, z, rfl, hz, hc.1, hc.2.1, hc.2.2, Option.some.inj h⟩
    ·cases h
   ·cases h
theorem zero_reps {Z : Nat → Nat → Prop} : ∀ {sub : List Shp} {vs : List Value}, zeroAts sub vs = true → Reps w Z sub (sub.map zeroD) vs []
 | [], [], _ => .nil
 | s :: ss, v :: vs, h => by
   simp only [zeroAts, Bool.and_eq_true] at h
   refine .cons (f := []) (fs := []) ?_ (zero_reps h.2)
   have h1 := h.1
   unfold zeroAt at h1
   split at h1
   ·simp only [Bool.and_eq_true, decide_eq_true_eq, beq_iff_eq] at h1
    obtain ⟨rfl, rfl⟩ := h1
    exact .v rfl (by simp [Ck.fits])
   ·rename_i b
    obtain rfl : b = false := by simpa using h1
    exact .v rfl rfl
   ·exact .nil
   ·cases h1
 | [], _ :: _, h => by simp [zeroAts] at h
 | _ :: _, [], h => by simp [zeroAts] at h
theorem rep_recs {Z : Nat → Nat → Prop} {sub : List Shp} {e : List D} {cs : List Value} (h : Reps w Z sub e cs []) : ∀ n : Nat, Recs w Z sub (List.replicate n e) (List.replicate n cs) []
 | 0 => .nil
 | n + 1 => .cons (f := []) (fs := []) h (rep_recs h n)
theorem Tk.newRow {tb : List (Te × Nat)} {E : Nat → Nat → Prop} {I : Nat → Prop} {lo : List Nat} {lt : Option Nat} (h : Tk cx tb hd E Z F lt lo I w) (hI : ∀ k, I k → k < w.heap.size) {f : List Nat} {w2 : World} (hF : Fr (· ∈ f) w w2) (hf : f = []) {e : TypeId} {sub : List Shp} {es : List (List D)} {y : Value} {g : List Nat} {Zn : Nat → Nat → Prop} {c : Nat} (hlt : lt = none ∨ lt = some tb.length)
 (hg : g.Nodup) (hgm : ∀ k ∈ g, k ∈ lo ∨ (w.heap.size ≤ k ∧ k < w2.heap.size)) (hz : ∀ m k, Z m k → Zn m k) (hz' : ∀ m k, Zn m k → Z m k ∨ (k ∈ lo ∧ ¬ k ∈ g)) (hz2 : ∀ m k, Zn m k → Zn 2 k) (hvw : ∀ m k, k ∈ lo → Zn m k ∨ k ∈ g.tail)
 (hrep : Rep w2 Zn (.l 0 e sub) (.l es) y g) : Tk cx (tb ++ [(.row 0 e sub es, c)]) (hd ++ [y]) E Zn (upd F tb.length g) none [] I w2 := by
 have hFn : F tb.length = [] := h.f0 _ (Nat.le_refl _)
 have hsp : Sp (upd F tb.length g) [] I Zn w2.heap.size (fun k => 0 < k ∧ (cx.w0.heap.size ≤ k ∨ cx.M k)) := by
  refine h.sp.gen hF.size hg .nil (fun _ _ h => by cases h) (fun k hk => ?_) (fun m k hk => ?_) hz2 (.inr hI)
  ·rcases hk with hk | hk
   ·rcases hgm k hk with hk' | ⟨hk1, hk2⟩
    ·exact .inr (.inl hk')
    ·exact .inr (.inr ⟨hk1, hk2, by have := h.n0; have := h.np; omega, .inl (Nat.le_trans h.n0 hk1)⟩)
   ·cases hk
  ·rcases hz' m k hk with hk | ⟨hk, hk2⟩
   ·exact .inl hk
   ·exact .inr ⟨.inr (.inl hk), hk2, by simp⟩
 refine ⟨by simp [h.hl], fun r t' c' hr => ?_, fun r hr => ?_, hsp, Nat.le_trans h.n0 hF.size, h.np⟩
 ·by_cases hlt' : r < tb.length
  ·rw [List.getElem?_append_left hlt'] at hr
   obtain ⟨v', h1, h2⟩ := h.te r t' c' hr
   have hhd : (hd ++ [y])[r]? = some v' := Ext.app _ _ _ _ h1
   refine ⟨v', hhd, ?_⟩
   have h2' : TeOk w2 Zn hd E (upd F tb.length g) none [] r v' t' := by
    refine h2.keep (fun k hk hd' => hF.block k hk (by rw [hf]; simp)) hz (upd_ne _ _ (by omega)) (fun k hk => (h.sp.fm r k hk).1) (fun r0 rt e sub es ht m k hk => ?_)
    by_cases h0 : r0 = tb.length
    ·subst h0
     rcases hk with hk | ⟨_, hk⟩ | hk | ⟨hl, hk⟩
     ·exact .inl (hz m k hk)
     ·rw [hFn] at hk; cases hk
     ·rw [hFn] at hk; cases hk
     ·rcases hvw m k hk with hk | hk
      ·exact .inl hk
      ·exact .inr (.inr (.inl (by rw [upd_same]; exact hk)))
    ·rcases hk with hk | ⟨hp, hk⟩ | hk | ⟨hl, hk⟩
     ·exact .inl (hz m k hk)
     ·exact .inr (.inl ⟨hp, by rw [upd_ne _ _ h0]; exact hk⟩)
     ·exact .inr (.inr (.inl (by rw [upd_ne _ _ h0]; exact hk)))
     ·rcases hlt with hlt | hlt
      ·rw [hlt] at hl; cases hl
      ·rw [hlt] at hl
       exact absurd (Option.some.inj hl).symm h0
   exact h2'.mono (fun _ _ _ => rfl) (fun _ _ h => h) (Ext.app _ _) (fun _ _ h => h) rfl (fun _ _ _ _ _ _ _ _ h => h) fun k hk => (hsp.fm r k hk).1
  ·have hr' : r = tb.length := by
    have := get_lt hr
    simp at this; omega
   subst hr'
   simp only [List.getElem?_concat_length, Option.some.injEq, Prod.mk.injEq] at hr
   obtain ⟨rfl, rfl⟩ := hr
   refine ⟨y, by rw [← h.hl]; simp, ?_⟩
   show Rep w2 Zn _ _ _ (upd F _ g _)
   rw [upd_same]
   exact hrep
 ·simp at hr
  rw [upd_ne _ _ (by omega)]
  exact h.f0 r (by omega)
theorem mem_fin {kk : DS → Prop} {dr : Bool} {w1 w2 : World} {s2 : DS} {hd2 : List Value} {Zn : Nat → Nat → Prop} {F2 : Nat → List Nat} {f : List Nat} {x v : Value} (h : Lk cx Z0 s hd Z F st w1) (hbox : ∀ b ∈ st.bx, b.esc = true → Box w1 b.id (b.cs.map (·.1)) b.ty) (hlt : ∀ k ∈ st.ids, k < w1.heap.size) (hbk : boxKinds cx.P s = true)
 (hF : Fr (· ∈ f) w1 w2) (hfm : ∀ k ∈ f, cx.w0.heap.size ≤ k ∨ cx.M k) (hfi : ∀ k ∈ f, ¬ k ∈ st.ids) (hfp : dr = true → ∀ q ∈ st.pins, ¬ q ∈ f) (ht : Tk cx s2.tb hd2 (BxE st) Zn F2 none [] (· ∈ st.ids) w2) (he : Ext hd hd2) (hk : Keeps s s2) (hb : s2.bx = s.bx)
 (z0 : ∀ m k, Z0 m k → Zn m k) (zg : ∀ m k, Zn m k → Z0 m k ∨ cx.w0.heap.size ≤ k ∨ cx.M k) (hv : CRf hd2 (BxE st) x v) (hsl : ∃ A n c, v = .slice A n c) (hx : ∀ g a b, x ≠ .func g a b) (hkk : kk (s2.put o.dst (.v x) T)) :
 exKs ((Rs.one ⟨false, [.sl]⟩).ks ++ st.anew cx.P dr) fun vs => v = (Rs.one ⟨false, [.sl]⟩).mk (vs.take (Rs.one ⟨false, [.sl]⟩).ks.length) ∧ Stp cx.M cx.w0.heap.size (st.kept dr) w1 w2 ∧
  st.asks dr w2 (vs.drop (Rs.one ⟨false, [.sl]⟩).ks.length) (Fr cx.M cx.w0 w2 → Nx cx Z0 s hd kk ((st.after dr (vs.drop (Rs.one ⟨false, [.sl]⟩).ks.length)).put o.dst (rsCv (.one ⟨false, [.sl]⟩) (vs.take (Rs.one ⟨false, [.sl]⟩).ks.length)) T) w2) := by
 obtain ⟨A, n, c, rfl, h1, _, h2, h3, h4⟩ := mem_all (T := T) h hbox hlt hbk hF hfm hfi hfp ht he hk hb z0 zg hv hsl hx hkk
 exact exKs_of (vs := .slice A n c :: (if dr then [] else escVals st.bx (st.bx.map fun (b : Bx) => b.cs.map (fun (x : Value × Nat) => x.1)))) (fits_app (a := [Ck.sl]) (x := [.slice A n c]) ⟨rfl, trivial⟩ h1) ⟨rfl, h2, h3 _ fun _ => h4⟩
theorem mem_go {kk : DS → Prop} {dr : Bool} (hd1 : isMem o = true) (h : Lk cx Z0 s hd Z F st w) (hcan : st.can [] (semOpnds o) = true) (hrf : rsFor cx.P o = rsOf cx.P o.type) (hrs : rsSl cx.P o.type = true) {m : Sem Value} (hsem : semOf (st.rho []) o = some m)
 (hm : ∀ st1 w1, Like st st1 → (∀ k b, BxE st k b → BxE st1 k b) → Lk cx Z0 s hd Z F st1 w1 → (∀ k ∈ st1.ids, k < w1.heap.size) → (∀ b ∈ st1.bx, b.esc = true → Box w1 b.id (b.cs.map (·.1)) b.ty) → (∀ x ∈ semOpnds o, ∀ k off, st.rd [] x = some (.bp k off) → k < st.bx.length → BxE st1 k (st.idAt k)) →
  semUpon cx.P m w1 fun v w2 => exKs ((Rs.one ⟨false, [.sl]⟩).ks ++ st1.anew cx.P dr) fun vs => v = (Rs.one ⟨false, [.sl]⟩).mk (vs.take (Rs.one ⟨false, [.sl]⟩).ks.length) ∧ Stp cx.M cx.w0.heap.size (st1.kept dr) w1 w2 ∧
   st1.asks dr w2 (vs.drop (Rs.one ⟨false, [.sl]⟩).ks.length) (Fr cx.M cx.w0 w2 → Nx cx Z0 s hd kk ((st1.after dr (vs.drop (Rs.one ⟨false, [.sl]⟩).ks.length)).put o.dst (rsCv (.one ⟨false, [.sl]⟩) (vs.take (Rs.one ⟨false, [.sl]⟩).ks.length)) []) w2)) :
 memOp cx ops dr st [] o w (Nx cx Z0 s hd kk) := by
 have hL1 := h.like (Like.escs st [] (semOpnds o)) (fun _ _ h => escs_mono [] (semOpnds o) st h)
 have hfit := escFit_of hL1.ek.bf
 unfold memOp
 simp only [hd1, hcan, hrf, rsSl_ok hrs, hsem, hfit, if_true]
 refine flush_of hL1 fun w1 h' => ltHyp_of fun hlt => boxHyps_of fun hbox => ?_
 simp only [effW]
 exact hm _ w1 (Like.escs _ _ _) (fun _ _ h => escs_mono [] _ st h) h' hlt hbox fun x hx k off e1 e2 => escs_hit [] _ st hx e1 e2
theorem fr_nil {w1 w2 : World} (h : Fr F0 w1 w2) : Fr (· ∈ ([] : List Nat)) w1 w2 := h.mono fun _ _ h => h.elim
theorem madeCells_flat (z : Array Value) (n sz : Nat) (hz : z.size = sz) (h0 : 0 < sz) : (madeCells z (n * sz)).toList = (List.replicate n z.toList).flatten := by
 apply List.ext_getElem?
 intro j
 have hl : (List.replicate n z.toList).flatten.length = n * sz := by simp [hz]
 by_cases hj : j < n * sz
 ·have e1 : (madeCells z (n * sz)).toList[j]? = some z[j % z.size]! := by
   simp [madeCells, hj]
  rw [e1]
  have hdm := Nat.div_add_mod j sz
  have hlt : j % sz < sz := Nat.mod_lt _ h0
  have hq : j / sz < n := (Nat.div_lt_iff_lt_mul h0).2 hj
  have := flatten_get (css := List.replicate n z.toList) (sz := sz) (fun cs hc => by rw [List.eq_of_mem_replicate hc]; simpa using hz) (i := j / sz) (cs := z.toList) (m := j % sz) (by simp [hq]) hlt
  rw [Nat.mul_comm] at hdm
  rw [hdm] at this
  rw [this, hz]
  rw [getElem!_pos z (j % sz) (by omega)]
  simp [hz, hlt]
 ·have hml : (madeCells z (n * sz)).toList.length = n * sz := by simp [madeCells]
  rw [List.getElem?_eq_none (by rw [hml]; omega), List.getElem?_eq_none (by rw [hl]; omega)]
theorem make_ok {kk : DS → Prop} {dr : Bool} (h : Lk cx Z0 s hd Z F st w) {t : TypeId} {x c : Operand} (hop : o.op = .makeSlice t x c) (hl : dMem cx.P dr s o kk) : memOp cx ops dr st [] o w (Nx cx Z0 s hd kk) := by
 unfold dMem at hl
 split at hl
 ·rename_i hpre
  simp only [Bool.and_eq_true] at hpre
  simp only [hop] at hl
  split at hl
  ·rename_i e kx n kc m he hx hc
   split at hl
   ·rename_i by_ sub hby hsub
    split at hl
    ·rename_i hcond
     obtain ⟨hcell, hzero⟩ := hcond
     obtain ⟨⟨hn0, hnm0, hnb, hnm⟩, hk⟩ := hl
     have hx' := rd_plain h.ek hx rfl
     have hc' := rd_plain h.ek hc rfl
     obtain ⟨hu, _⟩ := sliceElem_spec he
     obtain ⟨i, z, hi, hz, hzs, hci, hpos, hbi⟩ := bytesOf_ok hby
     refine mem_go (by simp [isMem, hop]) h (by simp [semOpnds, hop, St.can, hx', hc']) (by simp [rsFor, hop]) hpre.1 (m := Instr.makeSlice t (.int kx n) (.int kc m)) (by simp [semOf, hop, St.rho, hx', hc', St.den]) fun st1 w1 hlk hmn h' hlt hbox _ => ?_
     obtain ⟨p, rfl⟩ : ∃ p : Nat, n = (p : Int) := ⟨n.toNat, by omega⟩
     obtain ⟨q, rfl⟩ : ∃ q : Nat, m = (q : Int) := ⟨m.toNat, by omega⟩
     rw [Int.toNat_natCast] at hnb hnm hk
     have hpq : p ≤ q := by omega
     have hsz : i.size = sub.length := by rw [← hci, hcell]
     have h63 : (q : Int) ≤ 9223372036854775807 := by
      have hh := hnm
      simp [maxLen] at hh
      omega
     have hrun := run_make (P := cx.P) w1 t e i z hu hi hz kx kc p q (by omega) (by omega) (by
      have hh : ((i.bytes * q : Nat) : Int) ≤ 281474976710656 := by rw [hbi, Nat.mul_comm]; omega
      rwa [Int.natCast_mul] at hh) h63
     simp only [Int.toNat_natCast] at hrun
     unfold semUpon
     rw [hrun]
     have hF : Fr (· ∈ ([] : List Nat)) w1 _ := fr_nil (fr_alloc w1 (.cells (madeCells z.cells (q * i.size)) e))
     ·have hzc : zeroCs cx.P e = z.cells.toList := by simp [zeroCs, hi, hz]
      rw [hzc] at hzero
      have hmade := madeCells_flat z.cells q sub.length (hzs.trans hsz) (by omega)
      have hrecs := rep_recs (w := w1.alloc (.cells (madeCells z.cells (q * i.size)) e)) (Z := Z) (zero_reps hzero) p
      have hBox : Box (w1.alloc (.cells (madeCells z.cells (q * i.size)) e)) w1.heap.size ((List.replicate p z.cells.toList).flatten ++ (List.replicate (q - p) z.cells.toList).flatten) e := by
       unfold Box
       rw [heap_alloc, ← List.flatten_append, List.replicate_append_replicate, show p + (q - p) = q by omega, ← hmade, hsz]
       simp
      have hrl : (List.replicate p (sub.map zeroD)).length = p := by simp
      have hrep := Rep.own (c := q) hBox (by rw [← List.flatten_append, List.replicate_append_replicate, show p + (q - p) = q by omega, ← hmade]; simp [madeCells]) (by rw [hrl]; exact hpq) hnm hrecs
      rw [hrl] at hrep
      have htk := Tk.newRow (f := []) (g := [w1.heap.size]) (c := s.ctr) h'.tk hlt hF rfl (.inl rfl) (by simp) (fun k hk => by
       rw [List.mem_singleton] at hk
       subst hk
       exact .inr ⟨Nat.le_refl _, hBox.lt⟩) (fun _ _ h => h) (fun m k hk => .inl hk) h'.tk.sp.z2 (fun _ _ h => by cases h) hrep
      exact mem_fin h' hbox hlt hpre.2 hF (fun _ h => by cases h) (fun _ h => by cases h) (fun _ _ _ h => by cases h) htk (Ext.app _ _) (Keeps.addT _ _) rfl h'.z0 h'.zg (slV_cr h'.tk.hl ⟨_, _, _, rfl⟩) ⟨_, _, _, rfl⟩ (by intros; simp [slV]) hk
    ·exact hl.elim
   ·exact hl.elim
  ·exact hl.elim
 ·exact hl.elim
end
end Go.Dw
end
section
namespace Go.Dw
open Go Go.Cw
set_option linter.unusedVariables false
section
variable {dcx : Dcx} {cx : Cx} {ops : Array Oper} {s s' : DS} {T : List (Nat × Bool)} {o : Oper} {hd : List Value} {Z0 Z : Nat → Nat → Prop} {F : Nat → List Nat} {st : St} {w w' : World}
theorem append_run {P : Program} {t ty e : TypeId} {i : TypeInfo} {z : Value} {sz : Nat} (ht : P.underlying t = some (.slice e)) (hi : P.info? e = some i) (hz : i.zero = some z) (hsz : i.size = sz) (hzs : z.cells.size = sz) (h0 : 0 < sz) {x : Value} {n m c2 : Nat} {A2 : Option Addr} {xs ys : List Value}
 (hown : w.ownsRow 0 e sz x n xs) {Q : Nat → Prop} (hy : CatZ w Q A2 ys) (hl : ys.length = m * sz) (h1 : ∀ u ∈ ys, oneB u = true) (h63 : n + m ≤ maxLen) (hb : (n + m) * i.bytes ≤ 140737488355328) :
 ∃ v' w', (Builtin.append_ #[t, t] ty #[x, .slice A2 m c2]).run P w = .ok v' w' ∧ w'.ownsRow 0 e sz v' (n + m) (xs ++ ys) ∧ w.grownBy w' x.ownBlock ∧ ∀ g, v'.ownBlock = some g → x.ownBlock = some g ∨ (g = w.heap.size ∧ g < w'.heap.size) := by
 have hones : ∀ u ∈ ys, u.oneCell' = true := fun u hu => oneB_cell (h1 u hu)
 by_cases hm0 : m = 0
 ·subst hm0
  have hys : ys = [] := List.eq_nil_of_length_eq_zero (by simpa using hl)
  subst hys
  refine ⟨x, w, ?_, by simpa using hown, ⟨rfl, rfl, rfl, Nat.le_refl _, fun _ _ _ => rfl⟩, fun g hg => .inl hg⟩
  rcases hown.2 with ⟨rfl, rfl⟩ | ⟨g, cap, cur, rfl, _, _, hnc, _⟩
  ·cases A2 with
   | none => simp [Builtin.append_, run_underlying ht, sizeOf, typeInfo, hi, Builtin.lenOf, Builtin.firstCells]
   | some a =>
     have hfc := run_firstCells_some (P := P) w i.size 0 a 0 c2 [] (by simp) (by simp)
     simp [Builtin.append_, run_underlying ht, sizeOf, typeInfo, hi, Builtin.lenOf, hfc]
  ·cases A2 with
   | none => simp [Builtin.append_, run_underlying ht, sizeOf, typeInfo, hi, Builtin.lenOf, Builtin.firstCells, hnc, storeCells]
   | some a =>
     have hfc := run_firstCells_some (P := P) w i.size 0 a 0 c2 [] (by simp) (by simp)
     simp [Builtin.append_, run_underlying ht, sizeOf, typeInfo, hi, Builtin.lenOf, hfc, hnc, storeCells]
 ·have hne : ys ≠ [] := by
   rintro rfl
   have : 0 < m * sz := Nat.mul_pos (by omega) h0
   rw [List.length_nil] at hl
   omega
  obtain ⟨a, rfl, _, hc⟩ := hy hne
  obtain ⟨v', w', hrun, ho, hg, _⟩ := run_append_own (P := P) w 0 t ty e i z sz i.bytes ht hi hz hsz rfl hzs h0 x n xs hown a m c2 ys hl hc hones h63 hb (Nat.zero_le _)
  refine ⟨v', w', hrun, ho, hg, fun g hgv => ?_⟩
  have hlt : ∀ k, v'.ownBlock = some k → k < w'.heap.size := fun k hk => (ho.lt k hk).2
  rcases hown.2 with ⟨rfl, rfl⟩ | ⟨gx, cap, cur, rfl, _, hgx, hnc, hcm, hcs, htake⟩
  ·have hr := run_append_nil (P := P) w t ty e i z ht hi hz a m c2 ys (by rw [hl, hsz]) hc (by omega) (by simp only [maxLen] at h63; omega) (by have hb' := hb; simp only [Nat.zero_add] at hb'; omega)
   rw [hr] at hrun
   simp only [Result.ok.injEq] at hrun
   obtain ⟨rfl, rfl⟩ := hrun
   simp only [Value.ownBlock, Option.some.injEq] at hgv
   subst hgv
   exact .inr ⟨rfl, hlt _ rfl⟩
  ·by_cases hroom : n + m ≤ cap
   ·obtain ⟨w'', hr, _⟩ := run_append_fits (P := P) w 0 t ty e i sz ht hi hsz gx n cap xs hown a m c2 ys hl hc hones hroom
    rw [hr] at hrun
    simp only [Result.ok.injEq] at hrun
    obtain ⟨rfl, rfl⟩ := hrun
    exact .inl hgv
   ·have holds : ∀ j u, xs[j]? = some u → w.cell? ((⟨gx, 0, none⟩ : Addr).add j) = some u := hown.cells (g := gx) rfl
    have hr := run_append_grow (P := P) w t ty e i z ht hi hz ⟨gx, 0, none⟩ n cap xs (by rw [hown.1, hsz]) holds a m c2 ys (by rw [hl, hsz]) hc (by omega) (by simp only [maxLen] at h63; omega) (growslice_fits (by omega) hb)
    rw [hr] at hrun
    simp only [Result.ok.injEq] at hrun
    obtain ⟨rfl, rfl⟩ := hrun
    simp only [Value.ownBlock, Option.some.injEq] at hgv
    subst hgv
    exact .inr ⟨rfl, hlt _ rfl⟩
theorem Rep.owns {Z : Nat → Nat → Prop} {e : TypeId} {sub : List Shp} {es : List (List D)} {y : Value} {f : List Nat} (h : Rep w Z (.l 0 e sub) (.l es) y f) : ∃ css fs, w.ownsRow 0 e sub.length y es.length css.flatten ∧ Recs w Z sub es css fs ∧ ((y.ownBlock = none ∧ f = [] ∧ fs = [] ∧ es = []) ∨ ∃ b, y.ownBlock = some b ∧ f = b :: fs) := by
 rcases h.own_inv with ⟨rfl, rfl, rfl⟩ | ⟨b, c, css, rest, fs, rfl, rfl, h1, h2, h3, h4, h5⟩
 ·exact ⟨[], [], ⟨by simp, .inl ⟨rfl, rfl⟩⟩, .nil, .inl ⟨rfl, rfl, rfl, rfl⟩⟩
 ·refine ⟨css, fs, ⟨h5.size, .inr ⟨b, c, (css.flatten ++ rest).toArray, rfl, Nat.zero_le _, h1, h3, h4, by simpa using h2, ?_⟩⟩, h5, .inr ⟨b, rfl, rfl⟩⟩
  rw [← h5.size]
  simp
theorem owns_rep {Z : Nat → Nat → Prop} {e : TypeId} {sub : List Shp} {es : List (List D)} {css : List (List Value)} {y : Value} {fs : List Nat} (h : w.ownsRow 0 e sub.length y es.length css.flatten) (hR : Recs w Z sub es css fs) (hs : 0 < sub.length) : (y.ownBlock = none ∧ es = [] ∧ fs = [] ∧ Rep w Z (.l 0 e sub) (.l es) y []) ∨ ∃ b, y.ownBlock = some b ∧ Rep w Z (.l 0 e sub) (.l es) y (b :: fs) := by
 rcases h.2 with ⟨rfl, hn⟩ | ⟨g, cap, cur, rfl, _, hg, hnc, hcm, hcs, htake⟩
 ·have hes : es = [] := List.eq_nil_of_length_eq_zero hn
  subst hes
  have hfs : fs = [] := by cases hR; rfl
  exact .inl ⟨rfl, rfl, hfs, .nil⟩
 ·refine .inr ⟨g, rfl, ?_⟩
  have e1 : css.flatten ++ cur.toList.drop (es.length * sub.length) = cur.toList := by rw [← htake, List.take_append_drop]
  exact .own (rest := cur.toList.drop (es.length * sub.length)) (by unfold Box; rw [e1]; exact hg) (by rw [e1]; simpa using hcs) hnc hcm hR
theorem Tk.newRow2 {s : DS} {E : Nat → Nat → Prop} {I : Nat → Prop} {lo : List Nat} {lt : Option Nat} (h : Tk cx s.tb hd E Z F lt lo I w) (hI : ∀ k, I k → k < w.heap.size) {rx : Nat} {x : Te × Nat} (hrx : s.tb[rx]? = some x) {vx : Value} (hvx : hd[rx]? = some vx) {f : List Nat} {w2 : World} (hF : Fr (· ∈ f) w w2) (hf : ∀ k ∈ f, ∃ ft, F rx = k :: ft) {e : TypeId} {sub : List Shp} {es : List (List D)} {y : Value} {g : List Nat} {Zn : Nat → Nat → Prop} {c : Nat} (hlt : lt = none ∨ lt = some s.tb.length)
 (hg : g.Nodup) (hgm : ∀ k ∈ g, k ∈ F rx ∨ k ∈ lo ∨ (w.heap.size ≤ k ∧ k < w2.heap.size)) (hz : ∀ m k, Z m k → Zn m k) (hz' : ∀ m k, Zn m k → Z m k ∨ ((k ∈ F rx ∨ k ∈ lo) ∧ ¬ k ∈ g)) (hz2 : ∀ m k, Zn m k → Zn 2 k) (hvw : ∀ m k, k ∈ lo → Zn m k ∨ k ∈ g.tail)
 (hrep : Rep w2 Zn (.l 0 e sub) (.l es) y g) : Tk cx (((s.setT rx .dead).kill rx false).tb ++ [(.row 0 e sub es, c)]) (hd ++ [y]) E Zn (upd (upd F rx []) s.tb.length g) none [] I w2 := by
 have hrlt := get_lt hrx
 have hFn : F s.tb.length = [] := h.f0 _ (Nat.le_refl _)
 have hnr : s.tb.length ≠ rx := by omega
 -- the row's blocks are under way first
 have hsp1 := h.sp.gen (r := rx) (g := []) (lo' := F rx ++ lo) (n' := w.heap.size) (Z' := Z) (Nat.le_refl _) .nil (by
  rw [List.nodup_append]
  exact ⟨h.sp.fd rx, h.sp.ln, fun a ha b hb hab => h.sp.lf rx a (hab ▸ hb) ha⟩) (fun _ h => by cases h) (fun k hk => by
  rcases hk with hk | hk
  ·cases hk
  ·rcases List.mem_append.1 hk with hk | hk
   ·exact .inl hk
   ·exact .inr (.inl hk)) (fun m k hk => .inl hk) h.sp.z2 (.inl rfl)
 have hsp : Sp (upd (upd F rx []) s.tb.length g) [] I Zn w2.heap.size (fun k => 0 < k ∧ (cx.w0.heap.size ≤ k ∨ cx.M k)) := by
  have hFn' : upd F rx [] s.tb.length = [] := by rw [upd_ne _ _ hnr]; exact hFn
  refine hsp1.gen hF.size hg .nil (fun _ _ h => by cases h) (fun k hk => ?_) (fun m k hk => ?_) hz2 (.inr hI)
  ·rcases hk with hk | hk
   ·rcases hgm k hk with hk' | hk' | ⟨hk1, hk2⟩
    ·exact .inr (.inl (List.mem_append_left _ hk'))
    ·exact .inr (.inl (List.mem_append_right _ hk'))
    ·exact .inr (.inr ⟨hk1, hk2, by have := h.n0; have := h.np; omega, .inl (Nat.le_trans h.n0 hk1)⟩)
   ·cases hk
  ·rcases hz' m k hk with hk | ⟨hk, hk2⟩
   ·exact .inl hk
   ·exact .inr ⟨.inr (.inl (List.mem_append.2 hk)), hk2, by simp⟩
 refine ⟨by simp [DS.setT, DS.kill, h.hl], fun r t' c' hr => ?_, fun r hr => ?_, hsp, Nat.le_trans h.n0 hF.size, h.np⟩
 ·have hlen : ((s.setT rx .dead).kill rx false).tb.length = s.tb.length := by simp [DS.setT, DS.kill]
  by_cases hlt' : r < s.tb.length
  ·rw [List.getElem?_append_left (by rw [hlen]; exact hlt')] at hr
   simp only [DS.kill, DS.setT, List.getElem?_map] at hr
   cases hq2 : (s.tb.set rx (.dead, s.ctr))[r]? with
   | none => rw [hq2] at hr; cases hr
   | some y0 =>
     rw [hq2] at hr
     have hr := Option.some.inj hr
     rcases set_get hq2 with ⟨rfl, rfl, _⟩ | ⟨hne, hq3⟩
     ·simp only [killE] at hr
      obtain ⟨rfl, rfl⟩ := Prod.mk.inj hr
      refine ⟨vx, Ext.app _ _ _ _ hvx, ?_⟩
      show upd (upd F r []) _ g r = []
      rw [upd_ne _ _ (by omega), upd_same]
     ·obtain ⟨y1, y2⟩ := y0
      obtain ⟨v', h1, h2⟩ := h.te r y1 y2 hq3
      refine ⟨v', Ext.app _ _ _ _ h1, ?_⟩
      have hFr : upd (upd F rx []) s.tb.length g r = F r := by rw [upd_ne _ _ (by omega), upd_ne _ _ hne]
      rcases killE_cases rx false (s.ctr + 1) (y1, y2) with hk | hk
      ·rw [hk] at hr
       obtain ⟨rfl, rfl⟩ := Prod.mk.inj hr
       have hnv : ∀ rt e sub es, y1 ≠ .view rx rt e sub es := by
        rintro rt e sub es rfl
        simp [killE] at hk
       have h2' : TeOk w2 Zn hd E (upd (upd F rx []) s.tb.length g) none [] r v' y1 := by
        refine h2.keep (fun k hk' hd' => hF.block k hk' fun hm => ?_) hz hFr (fun k hk => (h.sp.fm r k hk).1) (fun r0 rt e sub es ht m k hk' => ?_)
        ·obtain ⟨ft, hft⟩ := hf k hm
         have hkx : k ∈ F rx := by rw [hft]; exact List.mem_cons_self ..
         rcases hd' with ⟨m, hd'⟩ | hd' | ⟨r0, rt, e, sub, es, ht, m, hd'⟩
         ·exact (h.sp.z m k hd').2.2.2 rx hkx
         ·exact hne (h.sp.fj _ _ _ hd' hkx)
         ·have hr0 : r0 ≠ rx := fun e0 => hnv rt e sub es (by rw [ht, e0])
          rcases hd' with hd' | ⟨_, hd'⟩ | hd' | ⟨_, hd'⟩
          ·exact (h.sp.z m k hd').2.2.2 rx hkx
          ·exact hr0 (h.sp.fj _ _ _ hd' hkx)
          ·exact hr0 (h.sp.fj _ _ _ (List.mem_of_mem_tail hd') hkx)
          ·exact h.sp.lf rx k hd' hkx
        ·have hr0 : r0 ≠ rx := fun e0 => hnv rt e sub es (by rw [ht, e0])
         by_cases h0 : r0 = s.tb.length
         ·subst h0
          rcases hk' with hk' | ⟨_, hk'⟩ | hk' | ⟨hl, hk'⟩
          ·exact .inl (hz m k hk')
          ·rw [hFn] at hk'; cases hk'
          ·rw [hFn] at hk'; cases hk'
          ·rcases hvw m k hk' with hk' | hk'
           ·exact .inl hk'
           ·exact .inr (.inr (.inl (by rw [upd_same]; exact hk')))
         ·have hFr0 : upd (upd F rx []) s.tb.length g r0 = F r0 := by rw [upd_ne _ _ h0, upd_ne _ _ hr0]
          rcases hk' with hk' | ⟨hp, hk'⟩ | hk' | ⟨hl, hk'⟩
          ·exact .inl (hz m k hk')
          ·exact .inr (.inl ⟨hp, by rw [hFr0]; exact hk'⟩)
          ·exact .inr (.inr (.inl (by rw [hFr0]; exact hk')))
          ·rcases hlt with hlt | hlt
           ·rw [hlt] at hl; cases hl
           ·rw [hlt] at hl
            exact absurd (Option.some.inj hl).symm h0
       exact h2'.mono (fun _ _ _ => rfl) (fun _ _ h => h) (Ext.app _ _) (fun _ _ h => h) rfl (fun _ _ _ _ _ _ _ _ h => h) fun k hk => (hsp.fm r k hk).1
      ·rw [hk] at hr
       obtain ⟨rfl, rfl⟩ := Prod.mk.inj hr
       show upd (upd F rx []) _ g r = []
       rw [hFr]
       cases y1 with
       | view => exact h2.1
       | row => simp [killE] at hk
       | pbx => simp [killE] at hk
       | dead => exact h2
  ·have hr' : r = s.tb.length := by
    have := get_lt hr
    simp [DS.setT, DS.kill] at this; omega
   subst hr'
   rw [← hlen, List.getElem?_concat_length] at hr
   obtain ⟨rfl, rfl⟩ := Prod.mk.inj (Option.some.inj hr)
   refine ⟨y, by rw [← h.hl]; simp, ?_⟩
   show Rep w2 Zn _ _ _ (upd _ _ g _)
   rw [upd_same]
   exact hrep
 ·simp [DS.setT, DS.kill] at hr
  rw [upd_ne _ _ (by omega), upd_ne _ _ (by omega)]
  exact h.f0 r (by omega)
end
end Go.Dw
end
section
namespace Go.Dw
open Go Go.Cw
set_option linter.unusedVariables false
section
variable {dcx : Dcx} {cx : Cx} {ops : Array Oper} {s s' : DS} {T : List (Nat × Bool)} {o : Oper} {hd : List Value} {Z0 Z : Nat → Nat → Prop} {F : Nat → List Nat} {st : St} {w w' : World}
theorem bw_of {w1 : World} (h : Lk cx Z0 s hd Z F st w1) (hbox : ∀ b ∈ st.bx, b.esc = true → Box w1 b.id (b.cs.map (·.1)) b.ty) : Bw s.bx hd (BxE st) (fun (k b : Nat) => ∃ x : Bx, st.bx[k]? = some x ∧ x.id = b) (· ∈ st.ids) w1 := by
 have hids : ∀ (k b : Nat), (∃ x : Bx, st.bx[k]? = some x ∧ x.id = b) → b ∈ st.ids := by
  rintro k b ⟨x, h1, rfl⟩
  exact List.mem_map.2 ⟨x, List.mem_of_getElem? h1, rfl⟩
 refine ⟨?_, fun k b ⟨x, h1, h2, _⟩ => ⟨x, h1, h2⟩, fun k x b _ _ hx => hids k b hx, ?_⟩
 ·rintro k k' b ⟨x, h1, h2⟩ ⟨x', h3, h4⟩
  have n1 : st.ids[k]? = some b := by unfold St.ids; rw [List.getElem?_map, h1]; simp [h2]
  have n2 : st.ids[k']? = some b := by unfold St.ids; rw [List.getElem?_map, h3]; simp [h4]
  exact (List.getElem?_inj (get_lt n1) h.ek.nd).1 (n1.trans n2.symm)
 ·rintro k x b hk hn ⟨y, h1, h2, h3⟩
  obtain ⟨b', g1, g2, g3⟩ := h.ek.bx k x hk
  rw [h1] at g1
  obtain rfl := Option.some.inj g1
  refine ⟨_, g3 hn, ?_⟩
  rw [← h2, ← g2]
  exact hbox y (List.mem_of_getElem? h1) h3
theorem catZ_any {Q : Nat → Prop} {A : Option Addr} {cs : List Value} (h : CatZ w Q A cs) : CatZ w (fun _ => True) A cs := fun hn => let ⟨p, a, _, c⟩ := h hn; ⟨p, a, trivial, c⟩
theorem Rep.cat {Z : Nat → Nat → Prop} {md : Nat} {e : TypeId} {sub : List Shp} {es : List (List D)} {y : Value} {f : List Nat} (h : Rep w Z (.l md e sub) (.l es) y f) : ∃ A c css fs, y = .slice A es.length c ∧ CatZ w (fun _ => True) A css.flatten ∧ Recs w Z sub es css fs ∧ (∀ k ∈ fs, k ∈ f.tail) ∧ (f.Nodup → fs.Nodup) := by
 cases h with
 | tree h1 h2 hc h3 h4 => exact ⟨_, _, _, _, rfl, catZ_any h3, h4, fun _ h => (by cases h), fun _ => .nil⟩
 | nil => exact ⟨none, 0, [], [], rfl, fun h => absurd rfl h, .nil, fun _ h => (by cases h), fun _ => .nil⟩
 | own h1 h2 h3 h4 h5 => exact ⟨_, _, _, _, rfl, fun _ => ⟨_, rfl, trivial, fun j v hj => by
  rw [add_none, Nat.zero_add]
  exact h1.cell (app_get hj)⟩, h5, fun _ h => h, fun h => (List.nodup_cons.1 h).2⟩
theorem scal_recs {Z Z' : Nat → Nat → Prop} : ∀ {sub : List Shp} {es : List (List D)} {css : List (List Value)} {f : List Nat}, scalars sub = true → Recs w Z sub es css f → f = [] ∧ Recs w Z' sub es css [] := by
 have one : ∀ {sub : List Shp} {d : List D} {c : List Value} {f : List Nat}, scalars sub = true → Reps w Z sub d c f → f = [] ∧ Reps w Z' sub d c [] := by
  intro sub
  induction sub with
  | nil => intro d c f _ h; cases h; exact ⟨rfl, .nil⟩
  | cons a l ih =>
    intro d c f hs h
    simp only [scalars, List.all_cons, Bool.and_eq_true] at hs
    cases h with
    | cons h1 h2 =>
      obtain ⟨e1, e2⟩ := ih (by simpa [scalars] using hs.2) h2
      subst e1
      cases h1 with
      | v g1 g2 => exact ⟨rfl, .cons (f := []) (fs := []) (.v g1 g2) e2⟩
      | _ => simp at hs
 intro sub es css f hs h
 induction es generalizing css f with
 | nil => cases h; exact ⟨rfl, .nil⟩
 | cons e es ih =>
   cases h with
   | cons h1 h2 =>
     obtain ⟨e1, e2⟩ := one hs h1
     obtain ⟨e3, e4⟩ := ih h2
     subst e1 e3
     exact ⟨rfl, .cons (f := []) (fs := []) e2 e4⟩
theorem append_ok {kk : DS → Prop} {dr : Bool} (h : Lk cx Z0 s hd Z F st w) {args : Array Operand} {at_ : Array TypeId} (hop : o.op = .call { callee := .builtin .append, args, argTypes := at_ }) (hl : dMem cx.P dr s o kk) : memOp cx ops dr st [] o w (Nx cx Z0 s hd kk) := by
 unfold dMem at hl
 split at hl
 ·rename_i hpre
  simp only [Bool.and_eq_true] at hpre
  simp only [hop] at hl
  split at hl
  ·rename_i x y t t' ha hat
   split at hl
   ·rename_i e vx vy he hx hy
    split at hl
    ·rename_i by_ ry ey suby esy0 hby hry
     split at hl
     ·rename_i sub hsub
      split at hl
      ·rename_i hc
       obtain ⟨rfl, hcell, hpos⟩ := hc
       obtain ⟨hu, _⟩ := sliceElem_spec he
       obtain ⟨i, z, hi, hz, hzs, hci, hipos, hbi⟩ := bytesOf_ok hby
       have hsz : i.size = sub.length := by rw [← hci, hcell]
       obtain ⟨cvx, hx1, hx2⟩ := rd_ok h.ek hx
       obtain ⟨cvy, hy1, hy2⟩ := rd_ok h.ek hy
       have hvyf : ∃ q n c, vy = .slice (some q) n c := by
        unfold DS.recs at hry
        split at hry
        ·exact ⟨_, _, _, rfl⟩
        ·cases hry
       obtain ⟨qy, ny, cy, rfl⟩ := hvyf
       have hvxf : ∀ g a b, vx ≠ .func g a b := by
        intro g a b e
        subst e
        simp [appSub] at hsub
       obtain ⟨yx, hyx, rfl⟩ := cvR_v hx2 hvxf
       obtain ⟨yy, hyy, rfl⟩ := cvR_v hy2 (by intros; simp)
       have hat' : at_ = #[t, t] := by rw [← Array.toList_inj]; simpa using hat
       refine mem_go (by simp [isMem, hop]) h (by simp [semOpnds, hop, ha, St.can, hx1, hy1]) (by simp [rsFor, hop]) hpre.1 (m := Builtin.append_ #[t, t] o.type #[yx, yy]) (by simp [semOf, hop, ha, St.rho, hx1, hy1, St.den, hat']) fun st1 w1 hlk hmn h' hlt hbox _ => ?_
       have hyx1 : CR hd (BxE st1) vx yx := hyx.mono (Ext.refl _) hmn
       have hyy1 : CRf hd (BxE st1) (.slice (some qy) ny cy) yy := (show CRf hd (BxE st) (.slice (some qy) ny cy) yy from hyy).mono (Ext.refl _) hmn
       -- what is added
       have hY : ∀ (esy : List (List D)) (s1 : DS), (if scalars sub then (match s.recs (.slice (some qy) ny cy) with | some (_, e2, suby2, esy) => if Shp.les suby2 sub && e2 == e then some (D.l esy, s) else none | none => none) else take (some s.tb.length) (.l (if Shp.bors sub then 2 else 0) e sub) (.slice (some qy) ny cy) s) = some (.l esy, s1) →
        ∃ A c css f fs Z1 F1, yy = .slice A esy.length c ∧ CatZ w1 (fun _ => True) A css.flatten ∧ Recs w1 Z1 sub esy css fs ∧ (∀ k ∈ fs, k ∈ f.tail) ∧ fs.Nodup ∧ Tk cx s1.tb hd (BxE st1) Z1 F1 (some s.tb.length) f (· ∈ st1.ids) w1 ∧ (∀ m k, Z m k → Z1 m k) ∧ (∀ m k, Z1 m k → Z m k ∨ ∃ r, k ∈ F r) ∧ (∀ r k, k ∈ F1 r → k ∈ F r) ∧ (∀ k ∈ f, ∃ r, k ∈ F r) ∧ Keeps s s1 ∧ s1.tb.length = s.tb.length ∧ s1.bx = s.bx := by
        intro esy s1 hq
        have htks : Tk cx s.tb hd (BxE st1) Z F (some s.tb.length) [] (· ∈ st1.ids) w1 := h'.tk.relt
        split at hq
        ·rename_i hsc
         split at hq
         ·rename_i r2 e2 suby2 esy2 hrec
          split at hq
          ·rename_i hc2
           simp only [Bool.and_eq_true, beq_iff_eq] at hc2
           simp only [Option.some.injEq, Prod.mk.injEq, D.l.injEq] at hq
           obtain ⟨rfl, rfl⟩ := hq
           -- its entry
           obtain ⟨_, _, hhy⟩ := (show CRl hd (BxE st1) (.slice (some qy) ny cy) yy from hyy1)
           simp only [DS.recs] at hrec
           have key : ∀ md ZZ ff, Rep w1 ZZ (.l md e2 suby2) (.l esy2) yy ff → ff.Nodup → ∃ A c css f fs Z1 F1, yy = .slice A esy2.length c ∧ CatZ w1 (fun _ => True) A css.flatten ∧ Recs w1 Z1 sub esy2 css fs ∧ (∀ k ∈ fs, k ∈ f.tail) ∧ fs.Nodup ∧ Tk cx s.tb hd (BxE st1) Z1 F1 (some s.tb.length) f (· ∈ st1.ids) w1 ∧ (∀ m k, Z m k → Z1 m k) ∧ (∀ m k, Z1 m k → Z m k ∨ ∃ r, k ∈ F r) ∧ (∀ r k, k ∈ F1 r → k ∈ F r) ∧ (∀ k ∈ f, ∃ r, k ∈ F r) ∧ Keeps s s ∧ s.tb.length = s.tb.length ∧ s.bx = s.bx := by
            intro md ZZ ff hR hnd
            obtain ⟨A, c, css, fs, e1, e3, e4, e5, e6⟩ := hR.cat
            obtain ⟨f', hw⟩ := Recs.le e4 hc2.1
            have hfs : fs.Nodup := e6 hnd
            have hR2 := hw.go hfs (fun m k => True) (fun _ _ _ => trivial) (fun _ _ => trivial) (fun _ _ _ _ => trivial)
            obtain ⟨_, hR3⟩ := scal_recs (Z' := Z) hsc hR2
            exact ⟨A, c, css, [], [], Z, F, e1, e3, hR3, fun _ h => (by cases h), .nil, htks, fun _ _ h => h, fun _ _ h => .inl h, fun _ _ h => h, fun _ h => (by cases h), Keeps.refl _, rfl, rfl⟩
           by_cases hev : evenB qy = true
           ·rw [if_pos hev] at hrec
            split at hrec
            ·rename_i md e3 sub3 es3 htb
             simp only [Option.some.injEq, Prod.mk.injEq] at hrec
             obtain ⟨rfl, rfl, rfl, rfl⟩ := hrec
             obtain ⟨c, v', _, k2, k3⟩ := h'.tk.at htb (by simp)
             rw [hhy] at k2
             obtain rfl := Option.some.inj k2
             exact key _ _ _ k3 (h'.tk.sp.fd _)
            ·rename_i r0 rt e3 sub3 es3 htb
             simp only [Option.some.injEq, Prod.mk.injEq] at hrec
             obtain ⟨rfl, rfl, rfl, rfl⟩ := hrec
             obtain ⟨c, v', _, k2, k3⟩ := h'.tk.at htb (by simp)
             rw [hhy] at k2
             obtain rfl := Option.some.inj k2
             exact key _ _ _ k3.2 .nil
            ·cases hrec
           ·rw [if_neg hev] at hrec; cases hrec
          ·cases hq
         ·cases hq
        ·obtain ⟨f, Z1, F1, I1, hT, hFs, hR⟩ := take_ok (E0 := fun _ _ => True) (some s.tb.length) _ _ yy s s1 _ Z F [] _ htks (fun h => by cases h) hyy1 hq
         obtain ⟨hI1, hbx1⟩ := hT.ii rfl
         have hT' : Tk cx s1.tb hd (BxE st1) Z1 F1 (some s.tb.length) f (· ∈ st1.ids) w1 := by
          have := hT.tk
          rw [List.append_nil] at this
          exact this.boxes fun k hk => .inl (hI1 k hk)
         obtain ⟨A, c, css, fs, e1, e3, e4, e5, e6⟩ := hR.cat
         refine ⟨A, c, css, f, fs, Z1, F1, e1, e3, e4, e5, e6 hT'.sp.ln, hT', hT.z, hT.zn, hFs, fun k hk => ?_, hT.keeps, hT.tl, hbx1⟩
         rcases hT.own k hk with hk' | ⟨q, x, hx1, hx2, _⟩
         ·exact hk'
         ·exact absurd hk (hT'.sp.il k (List.mem_map.2 ⟨x, List.mem_of_getElem? hx1, hx2⟩)).1
       split at hl
       ·rename_i esy s1 hq
        obtain ⟨A2, c2, cssy, fy, fsy, Z1, F1, rfl, hcat, hRy, hsuby, hndy, hT1, hz1, hzn1, hF1, hfy, hk1, htl1, hbx1⟩ := hY esy s1 hq
        have hlen_y := hRy.size
        have hylt : ∀ k ∈ fsy, k ∈ fy := fun k hk => List.mem_of_mem_tail (hsuby k hk)
        have hzg1 : ∀ m k, Z1 m k → Z0 m k ∨ cx.w0.heap.size ≤ k ∨ cx.M k := fun m k hk => by
         rcases hzn1 m k hk with hk | ⟨r, hk⟩
         ·exact h'.zg m k hk
         ·exact .inr (h'.tk.sp.fm r k hk).2.2
        have hFn : F1 s1.tb.length = [] := hT1.f0 _ (Nat.le_refl _)
        split at hl
        ·-- nothing to begin with
         obtain ⟨⟨hb1, hb2⟩, hk⟩ := hl
         have hyx0 : yx = .slice none 0 0 := hyx1.2.2
         subst hyx0
         obtain ⟨v', w2, hrun, hown, hgr, hblk⟩ := append_run (P := cx.P) (w := w1) (t := t) (ty := o.type) (sz := sub.length) (n := 0) (xs := []) (c2 := c2) hu hi hz hsz (hzs.trans hsz) hpos (World.ownsRow_nil w1 0 e sub.length) hcat hlen_y (fun u hu' => (hRy.ones u hu').1) (by omega) (by rw [Nat.zero_add, hbi]; exact hb1)
         unfold semUpon
         rw [hrun]
         have hF : Fr (· ∈ ([] : List Nat)) w1 w2 := fr_nil (fr_grown hgr)
         have hblkf : ∀ g, v'.ownBlock = some g → w1.heap.size ≤ g ∧ g < w2.heap.size := fun g hg => by
          rcases hblk g hg with hh | ⟨rfl, hh⟩
          ·cases hh
          ·exact ⟨Nat.le_refl _, hh⟩
         have hRy2 : Recs w2 Z1 sub esy cssy fsy := Recs.kept (fun m k hk hm => hF.block k hk (by simp)) (fun _ _ h => h) hRy fun k hk => hF.block k (hRy.lt k hk) (by simp)
         rw [Nat.zero_add, List.nil_append] at hown
         have hsl : ∃ A n c, v' = .slice A n c := by
          rcases hown.2 with ⟨rfl, _⟩ | ⟨_, _, _, rfl, _⟩ <;> exact ⟨_, _, _, rfl⟩
         have fin : ∀ (g : List Nat), (∀ k ∈ g, k ∈ fy ∨ (w1.heap.size ≤ k ∧ k < w2.heap.size)) → g.Nodup → (∀ k, k ∈ fsy → k ∈ g.tail) → Rep w2 Z1 (.l 0 e sub) (.l esy) v' g → exKs ((Rs.one ⟨false, [.sl]⟩).ks ++ st1.anew cx.P dr) fun vs => v' = (Rs.one ⟨false, [.sl]⟩).mk (vs.take (Rs.one ⟨false, [.sl]⟩).ks.length) ∧ Stp cx.M cx.w0.heap.size (st1.kept dr) w1 w2 ∧
          st1.asks dr w2 (vs.drop (Rs.one ⟨false, [.sl]⟩).ks.length) (Fr cx.M cx.w0 w2 → Nx cx Z0 s hd kk ((st1.after dr (vs.drop (Rs.one ⟨false, [.sl]⟩).ks.length)).put o.dst (rsCv (.one ⟨false, [.sl]⟩) (vs.take (Rs.one ⟨false, [.sl]⟩).ks.length)) []) w2) := by
          intro g hgm hgn hgt hrep
          have hrep' : Rep w2 (fun m k => Z1 m k ∨ (k ∈ fy ∧ ¬ k ∈ g)) (.l 0 e sub) (.l esy) v' g := Rep.kept (fun _ _ _ _ => rfl) (fun m k hk => .inl hk) hrep fun _ _ => rfl
          have htk := Tk.newRow (f := []) (g := g) (c := s1.ctr) hT1 hlt hF rfl (.inr (by rw [htl1])) hgn hgm (fun m k hk => .inl hk) (fun m k hk => hk) (fun m k hk => hk.imp (hT1.sp.z2 m k) id) (fun m k hk => ?_) hrep'
          ·exact mem_fin h' hbox hlt hpre.2 hF (fun _ h => by cases h) (fun _ h => by cases h) (fun _ _ _ h => by cases h) htk (Ext.app _ _) (hk1.trans (Keeps.addT _ _)) hbx1 (fun m k hk => .inl (hz1 m k (h'.z0 m k hk))) (fun m k hk => by
            rcases hk with hk | ⟨hk, _⟩
            ·exact hzg1 m k hk
            ·exact .inr (hT1.sp.lm k hk).2.2) (slV_cr hT1.hl hsl) hsl (by intros; simp [slV]) hk
          ·by_cases hkg : k ∈ g
           ·cases g with
            | nil => cases hkg
            | cons b gt =>
              rcases List.mem_cons.1 hkg with rfl | hkg
              ·-- the block is new
               have hkown : v'.ownBlock = some k := by
                cases hrep <;> rfl
               exact absurd (hT1.sp.lm k hk).1 (Nat.not_lt.2 (hblkf k hkown).1)
              ·exact .inr hkg
           ·exact .inl (.inr ⟨hk, hkg⟩)
         rcases owns_rep hown hRy2 hpos with ⟨ho, rfl, rfl, hrep⟩ | ⟨b, ho, hrep⟩
         ·exact fin [] (fun _ h => by cases h) .nil (fun _ h => by cases h) hrep
         ·refine fin (b :: fsy) (fun k hk => ?_) ?_ (fun k hk => hk) hrep
          ·rcases List.mem_cons.1 hk with rfl | hk
           ·exact .inr (hblkf _ ho)
           ·exact .inl (hylt k hk)
          ·rw [List.nodup_cons]
           exact ⟨fun hm => absurd (hT1.sp.lm b (hylt b hm)).1 (Nat.not_lt.2 (hblkf b ho).1), hndy⟩
        ·-- something of one's own
         rename_i p n0 c0
         split at hl
         ·rename_i e' subx esx htb
          split at hl
          ·rename_i hc2
           obtain ⟨rfl, hles, hev, hpin⟩ := hc2
           obtain ⟨⟨hb1, hb2⟩, hk⟩ := hl
           obtain ⟨_, ⟨A0, n1, c1, hyxs⟩, hhx⟩ := (show CRl hd (BxE st1) (.slice (some p) n0 c0) yx from hyx1)
           obtain ⟨cx0, hrow⟩ := tbAt_some htb (by simp)
           obtain ⟨vx', q1, q2⟩ := hT1.te _ _ _ hrow
           rw [hhx] at q1
           obtain rfl := Option.some.inj q1
           have hRx0 : Rep w1 Z1 (.l 0 e' subx) (.l esx) yx (F1 (p.block / 2)) := q2
           obtain ⟨cssx, fs, hownx, hRx, hbk⟩ := hRx0.owns
           have hle2 := Shp.les_len hles
           rw [hle2] at hownx
           have hfs : fs.Nodup ∧ (∀ k ∈ fs, k ∈ F1 (p.block / 2)) ∧ (∀ b, yx.ownBlock = some b → b ∈ F1 (p.block / 2) ∧ ¬ b ∈ fs) := by
            have hnd := hT1.sp.fd (p.block / 2)
            rcases hbk with ⟨e1, e2, rfl, _⟩ | ⟨b, e1, e2⟩
            ·exact ⟨.nil, fun _ h => (by cases h), fun b hb => (by rw [e1] at hb; cases hb)⟩
            ·rw [e2] at hnd ⊢
             rw [List.nodup_cons] at hnd
             exact ⟨hnd.2, fun k hk => List.mem_cons_of_mem _ hk, fun b' hb' => by
              rw [e1] at hb'
              obtain rfl := Option.some.inj hb'
              exact ⟨List.mem_cons_self .., hnd.1⟩⟩
           obtain ⟨fsx, hwk⟩ := Recs.le hRx hles
           have hfsx := hwk.nd hfs.1
           have hRx2 := hwk.go hfs.1 (fun m k => Z1 m k ∨ (k ∈ fs ∧ ¬ k ∈ fsx)) (fun _ _ h => .inl h) (fun k h => .inl (hT1.sp.z2 _ _ h)) (fun _ _ h1 h2 => .inr ⟨h1, h2⟩)
           obtain ⟨v', w2, hrun, hown, hgr, hblk⟩ := append_run (P := cx.P) (w := w1) (t := t) (ty := o.type) (c2 := c2) hu hi hz hsz (hzs.trans hsz) hpos hownx hcat hlen_y (fun u hu' => (hRy.ones u hu').1) (by simpa using hb2) (by rw [hbi]; simpa using hb1)
           unfold semUpon
           rw [hrun]
           have hF : Fr (· ∈ (yx.ownBlock.toList)) w1 w2 := ⟨hgr.os, hgr.tape, hgr.output, hgr.size, fun k hk hn => hgr.block k hk (by
            intro he
            exact hn (by rw [← he]; simp))⟩
           have hown1 : ∀ k ∈ yx.ownBlock.toList, k ∈ F1 (p.block / 2) ∧ ¬ k ∈ fs := fun k hk => hfs.2.2 k (by simpa using hk)
           have hRx3 : Recs w2 (fun m k => Z1 m k ∨ (k ∈ fs ∧ ¬ k ∈ fsx)) sub esx cssx fsx := Recs.kept (fun m k hk hm => hF.block k hk fun hm' => by
            rcases hm with hm | hm
            ·exact (hT1.sp.z m k hm).2.2.2 _ (hown1 k hm').1
            ·exact (hown1 k hm').2 hm.1) (fun _ _ h => h) hRx2 fun k hk => hF.block k (hRx2.lt k hk) fun hm' => (hown1 k hm').2 (hwk.sub k hk)
           have hRy3 : Recs w2 (fun m k => Z1 m k ∨ (k ∈ fs ∧ ¬ k ∈ fsx)) sub esy cssy fsy := Recs.kept (fun m k hk hm => hF.block k hk fun hm' => (hT1.sp.z m k hm).2.2.2 _ (hown1 k hm').1) (fun _ _ h => .inl h) hRy fun k hk => hF.block k (hRy.lt k hk) fun hm' => hT1.sp.lf _ k (hylt k hk) (hown1 k hm').1
           have hRxy := hRx3.append hRy3
           rw [← List.flatten_append, ← List.length_append] at hown
           have hblkf : ∀ g, v'.ownBlock = some g → ¬ g ∈ fs ∧ ¬ g ∈ fy ∧ (g ∈ F1 (p.block / 2) ∨ (w1.heap.size ≤ g ∧ g < w2.heap.size)) := fun g hg => by
            rcases hblk g hg with hh | ⟨rfl, hh⟩
            ·exact ⟨(hfs.2.2 g hh).2, fun hm => hT1.sp.lf _ g hm (hfs.2.2 g hh).1, .inl (hfs.2.2 g hh).1⟩
            ·exact ⟨fun hm => absurd (hT1.sp.fm _ _ (hfs.2.1 _ hm)).1 (Nat.lt_irrefl _), fun hm => absurd (hT1.sp.lm _ hm).1 (Nat.lt_irrefl _), .inr ⟨Nat.le_refl _, hh⟩⟩
           have hsl : ∃ A n c, v' = .slice A n c := by
            rcases hown.2 with ⟨rfl, _⟩ | ⟨_, _, _, rfl, _⟩ <;> exact ⟨_, _, _, rfl⟩
           have fin : ∀ (g : List Nat), (∀ k ∈ g, k ∈ F1 (p.block / 2) ∨ k ∈ fy ∨ (w1.heap.size ≤ k ∧ k < w2.heap.size)) → g.Nodup → (∀ k ∈ fs, k ∈ g → k ∈ fsx) → (∀ k ∈ fy, k ∈ g → k ∈ g.tail) → Rep w2 (fun m k => Z1 m k ∨ (k ∈ fs ∧ ¬ k ∈ fsx)) (.l 0 e' sub) (.l (esx ++ esy)) v' g → exKs ((Rs.one ⟨false, [.sl]⟩).ks ++ st1.anew cx.P dr) fun vs => v' = (Rs.one ⟨false, [.sl]⟩).mk (vs.take (Rs.one ⟨false, [.sl]⟩).ks.length) ∧ Stp cx.M cx.w0.heap.size (st1.kept dr) w1 w2 ∧
            st1.asks dr w2 (vs.drop (Rs.one ⟨false, [.sl]⟩).ks.length) (Fr cx.M cx.w0 w2 → Nx cx Z0 s hd kk ((st1.after dr (vs.drop (Rs.one ⟨false, [.sl]⟩).ks.length)).put o.dst (rsCv (.one ⟨false, [.sl]⟩) (vs.take (Rs.one ⟨false, [.sl]⟩).ks.length)) []) w2) := by
            intro g hgm hgn hgx hgy hrep
            have hrep' : Rep w2 (fun m k => Z1 m k ∨ ((k ∈ F1 (p.block / 2) ∨ k ∈ fy) ∧ ¬ k ∈ g)) (.l 0 e' sub) (.l (esx ++ esy)) v' g := Rep.kept (fun _ _ _ _ => rfl) (fun m k hk => by
             rcases hk with hk | ⟨h1, h2⟩
             ·exact .inl hk
             ·exact .inr ⟨.inl (hfs.2.1 k h1), fun hg => h2 (hgx k h1 hg)⟩) hrep fun _ _ => rfl
            have hff : ∀ k ∈ yx.ownBlock.toList, ∃ ft, F1 (p.block / 2) = k :: ft := fun k hk => by
             rcases hbk with ⟨e1, _⟩ | ⟨b, e1, e2⟩
             ·rw [e1] at hk; cases hk
             ·rw [e1] at hk
              simp at hk
              subst hk
              exact ⟨_, e2⟩
            have htk := Tk.newRow2 (c := ((s1.setT (p.block / 2) .dead).kill (p.block / 2) false).ctr) (g := g) hT1 hlt hrow hhx hF hff (.inr (by rw [htl1])) hgn hgm (fun m k hk => .inl hk) (fun m k hk => hk) (fun m k hk => hk.imp (hT1.sp.z2 m k) id) (fun m k hk => ?_) hrep'
            ·refine mem_fin h' hbox hlt hpre.2 hF (fun k hk => (hT1.sp.fm _ k (hown1 k hk).1).2.2) (fun k hk hi => (hT1.sp.il k hi).2 _ (hown1 k hk).1) (fun hdr q hq hm => ?_) htk (Ext.app _ _) (hk1.trans ((Keeps.setT _ _ _).trans ((Keeps.kill _ _ _).trans (Keeps.addT _ _)))) hbx1 (fun m k hk => .inl (hz1 m k (h'.z0 m k hk))) (fun m k hk => ?_) (slV_cr hT1.hl hsl) hsl (by intros; simp [slV]) hk
             ·-- what the drawing keeps is of boxes
              rw [hdr] at hpin
              simp only [Bool.not_true, Bool.false_or, DS.pinOk, List.all_eq_true] at hpin
              obtain ⟨r, g1, v, g2, rfl⟩ := h'.ek.pins q hq
              have hp := hpin r g1
              simp only [Bool.and_eq_true] at hp
              obtain ⟨hp1, hp2⟩ := hp
              have hne : r ≠ p.block / 2 := by simpa using hp1
              split at hp2
              ·rename_i t0 cs0 htb0
               obtain ⟨c0, hrow0⟩ := tbAt_some htb0 (by simp)
               obtain ⟨v2, g3, cs', _, g4⟩ := h'.tk.te _ _ _ hrow0
               rw [g2] at g3
               obtain rfl := Option.some.inj g3
               rcases g4 with ⟨_, b, rfl, hFr, _⟩ | ⟨h0, _⟩
               ·have hbm : b ∈ F r := by rw [hFr]; simp
                exact hne (h'.tk.sp.fj _ _ _ hbm (hF1 _ _ (hown1 b hm).1))
               ·exact h0 rfl
              ·cases hp2
             ·rcases hk with hk | ⟨hk | hk, _⟩
              ·exact hzg1 m k hk
              ·exact .inr (hT1.sp.fm _ k hk).2.2
              ·exact .inr (hT1.sp.lm k hk).2.2
            ·by_cases hkg : k ∈ g
             ·exact .inr (hgy k hk hkg)
             ·exact .inl (.inr ⟨.inr hk, hkg⟩)
           rcases owns_rep hown hRxy hpos with ⟨ho, he0, hf0, hrep⟩ | ⟨b, ho, hrep⟩
           ·exact fin [] (fun _ h => by cases h) .nil (fun _ _ h => by cases h) (fun _ _ h => by cases h) hrep
           ·obtain ⟨h1, h2, h3⟩ := hblkf b ho
            refine fin (b :: (fsx ++ fsy)) (fun k hk => ?_) ?_ (fun k hk hg => ?_) (fun k hk hg => ?_) hrep
            ·rcases List.mem_cons.1 hk with rfl | hk
             ·exact h3.imp id .inr
             ·rcases List.mem_append.1 hk with hk | hk
              ·exact .inl (hfs.2.1 k (hwk.sub k hk))
              ·exact .inr (.inl (hylt k hk))
            ·rw [List.nodup_cons, List.nodup_append]
             refine ⟨fun hm => ?_, hfsx, hndy, fun a ha b' hb' hab => ?_⟩
             ·rcases List.mem_append.1 hm with hm | hm
              ·exact h1 (hwk.sub _ hm)
              ·exact h2 (hylt _ hm)
             ·subst hab
              exact hT1.sp.lf _ a (hylt a hb') (hfs.2.1 a (hwk.sub a ha))
            ·rcases List.mem_cons.1 hg with rfl | hg
             ·exact absurd hk h1
             ·rcases List.mem_append.1 hg with hg | hg
              ·exact hg
              ·exact absurd (hfs.2.1 k hk) (hT1.sp.lf _ k (hylt k hg))
            ·rcases List.mem_cons.1 hg with rfl | hg
             ·exact absurd hk h2
             ·exact hg
          ·exact hl.elim
         ·exact hl.elim
        ·exact hl.elim
       ·exact hl.elim
      ·exact hl.elim
     ·exact hl.elim
    ·exact hl.elim
   ·exact hl.elim
  ·exact hl.elim
 ·exact hl.elim
end
end Go.Dw
end
section
namespace Go.Dw
open Go Go.Cw
set_option linter.unusedVariables false
section
variable {dcx : Dcx} {cx : Cx} {ops : Array Oper} {s s' : DS} {T : List (Nat × Bool)} {o : Oper} {hd : List Value} {Z0 Z : Nat → Nat → Prop} {F : Nat → List Nat} {st : St} {w w' : World}
theorem litRecs_ok {P : Program} {E : Nat → Nat → Prop} {n : Nat} {sub : List Shp} : ∀ (vs ys : List Value) (s s' : DS) (ds : List (List D)) (Z : Nat → Nat → Prop) (F : Nat → List Nat) (lo : List Nat) (I : Nat → Prop), Tk cx s.tb hd E Z F (some n) lo I w → s.tb.length = n → All2 (fun v (y : Value) => All2 (CRf hd E) (lvs v) y.cells.toList) vs ys → litRecs P sub vs s = some (ds, s') →
 ∃ f Z' F', Tk cx s'.tb hd E Z' F' (some n) (f ++ lo) I w ∧ Recs w Z' sub ds (ys.map fun y => y.cells.toList) f ∧ (∀ m k, Z m k → Z' m k) ∧ (∀ m k, Z' m k → Z m k ∨ ∃ r, k ∈ F r) ∧ (∀ r k, k ∈ F' r → k ∈ F r) ∧ Keeps s s' ∧ s'.tb.length = s.tb.length ∧ s'.bx = s.bx
 | [], ys, s, s', ds, Z, F, lo, I, h, hn, hv, ht => by
   cases hv
   simp only [litRecs, Option.some.injEq, Prod.mk.injEq] at ht
   obtain ⟨rfl, rfl⟩ := ht
   exact ⟨[], Z, F, h, .nil, fun _ _ h => h, fun _ _ h => .inl h, fun _ _ h => h, Keeps.refl _, rfl, rfl⟩
 | v :: vs, _, s, s', ds, Z, F, lo, I, h, hn, .cons (b := y) (m := ys) hv hvs, ht => by
   simp only [litRecs] at ht
   cases h1 : takes (some s.tb.length) sub (lvs v) s with
   | none => rw [h1] at ht; cases ht
   | some x =>
     obtain ⟨d, s1⟩ := x
     rw [h1] at ht
     simp only at ht
     cases h2 : litRecs P sub vs s1 with
     | none => rw [h2] at ht; cases ht
     | some x =>
       obtain ⟨ds2, s2⟩ := x
       rw [h2] at ht
       simp only [Option.some.injEq, Prod.mk.injEq] at ht
       obtain ⟨rfl, rfl⟩ := ht
       rw [hn] at h1
       obtain ⟨f1, Z1, F1, I1, hT, hF1, hR1⟩ := takes_ok (E0 := fun _ _ => True) (some n) sub (lvs v) y.cells.toList s s1 d Z F lo I h (fun h => by cases h) hv h1
       obtain ⟨hI, hb1⟩ := hT.ii rfl
       have hT1 : Tk cx s1.tb hd E Z1 F1 (some n) (f1 ++ lo) I w := hT.tk.boxes fun k hk => .inl (hI k hk)
       obtain ⟨f2, Z2, F2, hT2, hR2, g1, g2, g3, g4, g5, g6⟩ := litRecs_ok vs ys s1 s2 ds2 Z1 F1 (f1 ++ lo) I hT1 (hT.tl.trans hn) hvs h2
       refine ⟨f1 ++ f2, Z2, F2, hT2.perm (fun k => by simp only [List.mem_append, ← or_assoc]; rw [or_comm (a := k ∈ f2)]) ?_, .cons (Reps.kept (fun _ _ _ _ => rfl) g1 hR1 fun _ _ => rfl) hR2, fun m k hk => g1 m k (hT.z m k hk), fun m k hk => ?_, fun r k hk => hF1 r k (g3 r k hk), hT.keeps.trans g4, g5.trans hT.tl, g6.trans hb1⟩
       ·have hln := hT2.sp.ln
        rw [← List.append_assoc] at hln
        exact ((List.perm_append_comm (l₁ := f2) (l₂ := f1)).append_right lo).nodup_iff.1 hln
       ·rcases g2 m k hk with hk | ⟨r, hk⟩
        ·exact hT.zn m k hk
        ·exact .inr ⟨r, hF1 r k hk⟩
theorem idxs_zip {α : Type} (g : α → Value) : ∀ (i : Nat) (l : List (Nat × α)), idxs i (l.map (·.1)) = true → l.map (fun p => (p.1, g p.2)) = (((l.map (·.2)).map g).zipIdx i).map fun x => (x.2, x.1)
 | _, [], _ => rfl
 | i, p :: l, h => by
   simp only [List.map_cons, idxs, Bool.and_eq_true, beq_iff_eq] at h
   obtain ⟨rfl, h2⟩ := h
   simp only [List.map_cons, List.zipIdx_cons]
   rw [idxs_zip g _ l h2]
theorem fill_all {s n : Nat} (hs : 0 < s) (ys : List Value) (hy : ∀ y ∈ ys, y.cells.size = s) (hn : ys.length = n) (cells : Array Value) (hc : cells.size = n * s) :
 Instr.fill (fun i => some (i * s, s)) cells ((ys.zipIdx 0).map fun x => (x.2, x.1)) = some (ys.map fun y => y.cells.toList).flatten.toArray := by
 obtain ⟨r, hr, hsz, hk⟩ := Great.fill_dense hs ys 0 cells hy (by rw [Nat.zero_add, hn, hc]; exact Nat.le_refl _)
 rw [hr]
 congr 1
 have hall : ∀ cs ∈ ys.map (fun y => y.cells.toList), cs.length = s := fun cs h => by
  obtain ⟨y, h1, rfl⟩ := List.mem_map.1 h
  simpa using hy y h1
 have hlen : (ys.map fun y => y.cells.toList).flatten.length = n * s := by rw [flatten_length hall, List.length_map, hn]
 apply Array.ext_getElem?
 intro j
 rw [hk j, Nat.zero_add, Nat.zero_mul, hn]
 by_cases hj : j < n * s
 ·rw [if_pos ⟨Nat.zero_le _, hj⟩]
  have hq : j / s < n := (Nat.div_lt_iff_lt_mul hs).2 hj
  have hm : j % s < s := Nat.mod_lt _ hs
  have hg : ys[j / s]? = some (ys[j / s]'(by omega)) := List.getElem?_eq_getElem (by omega)
  have := flatten_get hall (i := j / s) (cs := (ys[j / s]'(by omega)).cells.toList) (m := j % s) (by rw [List.getElem?_map, hg]; rfl) hm
  have hdm := Nat.div_add_mod j s
  rw [Nat.mul_comm] at hdm
  rw [hdm] at this
  rw [List.getElem?_toArray, this, Nat.sub_zero, hg]
  simp
 ·rw [if_neg (by omega), Array.getElem?_eq_none (xs := cells) (by rw [hc]; exact Nat.not_lt.1 hj), Array.getElem?_eq_none (by rw [List.size_toArray, hlen]; exact Nat.not_lt.1 hj)]
theorem run_lit {P : Program} {t e : TypeId} {n : Nat} {ps : Array (Nat × Value)} {i : TypeInfo} {z : Value} {cells : Array Value} (hu : P.underlying t = some (.slice e)) (hi : P.info? e = some i) (hz : i.zero = some z) (hpos : 0 < i.size) (hsm : ¬ n * i.size > 2 ^ 24) (h0 : n = 0 → ps = #[])
 (hf : Instr.fill (fun j => some (j * i.size, i.size)) ((Array.range (n * i.size)).map (z.cells[· % z.cells.size]!)) ps.toList = some cells) : (Instr.buildSlice t n ps).run P w = .ok (.slice (some ⟨w.heap.size, 0, none⟩) n n) (w.alloc (.cells cells e)) := by
 by_cases hn : n = 0
 ·have := h0 hn
  subst this
  subst hn
  have hc : cells = #[] := by
   have hf' : some ((Array.range (0 * i.size)).map (z.cells[· % z.cells.size]!)) = some cells := hf
   rw [← Option.some.inj hf']
   simp
  subst hc
  simp [Instr.buildSlice, run_underlying hu, Go.sizeOf, typeInfo, hi, newRow, Instr.fill]
  exact congrArg (fun c => w.alloc (Obj.cells c e)) (Array.eq_empty_of_size_eq_zero (by simp))
 ·exact run_buildSlice w t e n ps _ i z hu hi hz hsm (by have := Nat.mul_pos (Nat.pos_of_ne_zero hn) hpos; omega) hf
theorem build_ok {kk : DS → Prop} {dr : Bool} (h : Lk cx Z0 s hd Z F st w) {t : TypeId} {n : Nat} {parts : Array (Nat × Operand)} (hop : o.op = .buildSlice t n parts) (hl : dMem cx.P dr s o kk) : memOp cx ops dr st [] o w (Nx cx Z0 s hd kk) := by
 unfold dMem at hl
 split at hl
 ·rename_i hpre
  simp only [Bool.and_eq_true] at hpre
  simp only [hop] at hl
  split at hl
  ·rename_i e vs he hvs
   split at hl
   ·rename_i by_ dflt hby hdf
    split at hl
    ·rename_i hcond
     obtain ⟨hcell, hidx, hpn, hnl, hall⟩ := hcond
     split at hl
     ·rename_i sub hsub
      split at hl
      ·rename_i hsl
       split at hl
       ·rename_i es s1 hrec
        obtain ⟨hu, _⟩ := sliceElem_spec he
        obtain ⟨i, z, hi, hz, hzs, hci, hipos, hbi⟩ := bytesOf_ok hby
        have hsz : i.size = sub.length := by rw [← hci, hcell, hsl]
        have hcan := (vals_ok (T := []) h.ek (E := fun _ _ => True) (fun _ _ _ => trivial) _ vs (fun _ _ _ _ _ _ => trivial) hvs).1
        refine mem_go (by simp [isMem, hop]) h (by simpa [semOpnds, hop] using hcan) (by simp [rsFor, hop]) hpre.1 (m := Instr.buildSlice t n (parts.toList.map fun p => (p.1, st.rho [] p.2)).toArray) (by simp [semOf, hop]) fun st1 w1 hlk hmn h' hlt hbox hesc => ?_
        have hA := (vals_ok (T := []) h.ek (E := BxE st1) hmn _ vs (fun x hx k off e1 e2 => hesc x (by simpa [semOpnds, hop] using hx) k off e1 e2) hvs).2
        have hlen : (parts.toList.map (·.2)).length = n := by simp [hpn]
        -- the leaves
        have hA2 : All2 (fun v (y : Value) => All2 (CRf hd (BxE st1)) (lvs v) y.cells.toList) vs ((parts.toList.map (·.2)).map (st.rho [])) ∧ ∀ y ∈ (parts.toList.map (·.2)).map (st.rho []), y.cells.size = sub.length := by
         have key : ∀ (a b : List Value), All2 (CR hd (BxE st1)) a b → (a.all fun v => notTup v && (lvs v).length == dflt.length) = true → All2 (fun v (y : Value) => All2 (CRf hd (BxE st1)) (lvs v) y.cells.toList) a b ∧ ∀ y ∈ b, y.cells.size = dflt.length := by
          intro a b hab
          induction hab with
          | nil => exact fun _ => ⟨.nil, fun _ h => by cases h⟩
          | cons h1 _ ih =>
            intro hh
            simp only [List.all_cons, Bool.and_eq_true, beq_iff_eq] at hh
            obtain ⟨i1, i2⟩ := ih hh.2
            have hl := h1.lvs (fun xs e => by subst e; simp [notTup] at hh)
            have hll := hl.len
            refine ⟨.cons hl i1, fun y hy => ?_⟩
            rcases List.mem_cons.1 hy with rfl | hy
            ·rw [← hh.1.2, ← hll]; simp
            ·exact i2 y hy
         exact (fun h => ⟨h.1, hsl ▸ h.2⟩) (key _ _ hA hall)
        obtain ⟨hA2, hcs⟩ := hA2
        obtain ⟨f, Z1, F1, hT1, hR, hz1, hzn1, hF1, hk1, htl1, hbx1⟩ := litRecs_ok vs _ s s1 es Z F [] _ (h'.tk.relt (lt := some s.tb.length)) rfl hA2 hrec
        rw [List.append_nil] at hT1
        have hel : es.length = n := by
         have := hR.len
         rw [← this]
         simp [hpn]
        have hfill := fill_all (n := n) (s := sub.length) (by omega) _ hcs (by rw [List.length_map]; exact hlen) ((Array.range (n * i.size)).map (z.cells[· % z.cells.size]!)) (by simp [hsz])
        have hrun := run_lit (P := cx.P) (w := w1) (t := t) (e := e) (n := n) (ps := (parts.toList.map fun p => (p.1, st.rho [] p.2)).toArray) hu hi hz hipos (by rw [hsz, hsl]; omega) (fun h0 => by
         have hpe : parts.toList = [] := List.eq_nil_of_length_eq_zero (by rw [Array.length_toList, hpn, h0])
         rw [hpe]; rfl) (by rw [List.toList_toArray, idxs_zip (st.rho []) 0 _ hidx, hsz]; rw [hsz] at hfill; exact hfill)
        unfold semUpon
        rw [hrun]
        have hF : Fr (· ∈ ([] : List Nat)) w1 _ := fr_nil (fr_alloc w1 (.cells ((((parts.toList.map (·.2)).map (st.rho [])).map fun y => y.cells.toList).flatten.toArray) e))
        have hBox : Box (w1.alloc (.cells ((((parts.toList.map (·.2)).map (st.rho [])).map fun y => y.cells.toList).flatten.toArray) e)) w1.heap.size ((((parts.toList.map (·.2)).map (st.rho [])).map fun y => y.cells.toList).flatten ++ []) e := by
         unfold Box
         rw [heap_alloc]
         simp
        have hR2 : Recs (w1.alloc (.cells ((((parts.toList.map (·.2)).map (st.rho [])).map fun y => y.cells.toList).flatten.toArray) e)) Z1 sub es _ f := Recs.kept (fun m k hk hm => hF.block k hk (by simp)) (fun _ _ h => h) hR fun k hk => hF.block k (hR.lt k hk) (by simp)
        have hrep := Rep.own (c := n) hBox (by rw [List.append_nil, hR.size, hel]) (by rw [hel]; exact Nat.le_refl _) (by have := Nat.le_mul_of_pos_right n (show 0 < dflt.length by omega); simp [maxLen]; omega) hR2
        rw [hel] at hrep
        have hnf : ∀ k ∈ f, k < w1.heap.size := fun k hk => (hT1.sp.lm k hk).1
        have htk := Tk.newRow (f := []) (g := w1.heap.size :: f) (c := s1.ctr) hT1 hlt hF rfl (.inr (by rw [htl1])) (List.nodup_cons.2 ⟨fun hm => absurd (hnf _ hm) (Nat.lt_irrefl _), hT1.sp.ln⟩) (fun k hk => by
         rcases List.mem_cons.1 hk with rfl | hk
         ·exact .inr ⟨Nat.le_refl _, hBox.lt⟩
         ·exact .inl hk) (fun _ _ h => h) (fun m k hk => .inl hk) hT1.sp.z2 (fun m k hk => .inr hk) hrep
        exact mem_fin h' hbox hlt hpre.2 hF (fun _ h => by cases h) (fun _ h => by cases h) (fun _ _ _ h => by cases h) htk (Ext.app _ _) (hk1.trans (Keeps.addT _ _)) hbx1 (fun m k hk => hz1 m k (h'.z0 m k hk)) (fun m k hk => by
         rcases hzn1 m k hk with hk | ⟨r, hk⟩
         ·exact h'.zg m k hk
         ·exact .inr (h'.tk.sp.fm r k hk).2.2) (slV_cr hT1.hl ⟨_, _, _, rfl⟩) ⟨_, _, _, rfl⟩ (by intros; simp [slV]) hl
       ·exact hl.elim
      ·exact hl.elim
     ·exact hl.elim
    ·exact hl.elim
   ·exact hl.elim
  ·exact hl.elim
 ·exact hl.elim
theorem litg_ok {kk : DS → Prop} {dr : Bool} (h : Lk cx Z0 s hd Z F st w) {t : TypeId} {n : Nat} {parts : Array (Nat × Operand)} (hop : o.op = .buildSlice t n parts) (hT : T ≠ []) (hl : dLitG cx.P ops dr s T o t n parts kk) : memOp cx ops dr st T o w (Nx cx Z0 s hd kk) := by
 unfold dLitG at hl
 split at hl
 ·rename_i hpre
  simp only [Bool.and_eq_true, Bool.not_eq_true'] at hpre
  obtain ⟨⟨hrs, hbk⟩, hdr⟩ := hpre
  subst hdr
  split at hl
  ·rename_i e vs g he hvs hg
   split at hl
   ·rename_i by_ sub hby hdf
    split at hl
    ·rename_i hcond
     obtain ⟨hcell, hidx, hpn, hnl, hall⟩ := hcond
     split at hl
     ·rename_i es s1 hrec
      obtain ⟨hl1, hl2⟩ := hl
      obtain ⟨hu, _⟩ := sliceElem_spec he
      obtain ⟨i, z, hi, hz, hzs, hci, hipos, hbi⟩ := bytesOf_ok hby
      have hsz : i.size = sub.length := by rw [← hci, hcell]
      have hcan := (vals_ok (T := T) h.ek (E := fun _ _ => True) (fun _ _ _ => trivial) _ vs (fun _ _ _ _ _ _ => trivial) hvs).1
      have hL1 := h.like (Like.escs st T (semOpnds o)) (fun _ _ h => escs_mono T (semOpnds o) st h)
      have hfit := escFit_of hL1.ek.bf
      have hmn : ∀ k b, BxE st k b → BxE (st.escs T (semOpnds o)) k b := fun _ _ h => escs_mono T _ st h
      have hesc : ∀ x ∈ semOpnds o, ∀ k off, st.rd T x = some (.bp k off) → k < st.bx.length → BxE (st.escs T (semOpnds o)) k (st.idAt k) := fun x hx k off e1 e2 => escs_hit T _ st hx e1 e2
      unfold memOp
      simp only [show isMem o = true by simp [isMem, hop], show st.can T (semOpnds o) = true by simpa [semOpnds, hop] using hcan, show rsFor cx.P o = rsOf cx.P o.type by simp [rsFor, hop], rsSl_ok hrs, show semOf (st.rho T) o = some (Instr.buildSlice t n (parts.toList.map fun p => (p.1, st.rho T p.2)).toArray) by simp [semOf, hop], hfit, if_true]
      generalize st.escs T (semOpnds o) = st1 at *
      refine flush_of hL1 fun w1 h' => ltHyp_of fun hlt => boxHyps_of fun hbox => ?_
      obtain ⟨a, r, rfl⟩ : ∃ a r, T = a :: r := by
       cases T with
       | nil => exact absurd rfl hT
       | cons a r => exact ⟨a, r, rfl⟩
      have hgx := dgx_ok h'.ek hg
      simp only [effW, hgx]
      intro K' hK'
      refine ⟨fun hgt => ?_, fun hgf => ?_⟩
      ·have hA := (vals_ok (T := a :: r) h.ek (E := BxE st1) hmn _ vs (fun x hx k off e1 e2 => hesc x (by simpa [semOpnds, hop] using hx) k off e1 e2) hvs).2
       have hlen : (parts.toList.map (·.2)).length = n := by simp [hpn]
       have hA2 : All2 (fun v (y : Value) => All2 (CRf hd (BxE st1)) (lvs v) y.cells.toList) vs ((parts.toList.map (·.2)).map (st.rho (a :: r))) ∧ ∀ y ∈ (parts.toList.map (·.2)).map (st.rho (a :: r)), y.cells.size = sub.length := by
        have key : ∀ (p q : List Value), All2 (CR hd (BxE st1)) p q → (p.all fun v => notTup v && (lvs v).length == sub.length) = true → All2 (fun v (y : Value) => All2 (CRf hd (BxE st1)) (lvs v) y.cells.toList) p q ∧ ∀ y ∈ q, y.cells.size = sub.length := by
         intro p q hab
         induction hab with
         | nil => exact fun _ => ⟨.nil, fun _ h => by cases h⟩
         | cons h1 _ ih =>
           intro hh
           simp only [List.all_cons, Bool.and_eq_true, beq_iff_eq] at hh
           obtain ⟨i1, i2⟩ := ih hh.2
           have hl := h1.lvs (fun xs e => by subst e; simp [notTup] at hh)
           have hll := hl.len
           refine ⟨.cons hl i1, fun y hy => ?_⟩
           rcases List.mem_cons.1 hy with rfl | hy
           ·rw [← hh.1.2, ← hll]; simp
           ·exact i2 y hy
        exact key _ _ hA hall
       obtain ⟨hA2, hcs⟩ := hA2
       obtain ⟨f, Z1, F1, hT1, hR, hz1, hzn1, hF1, hk1, htl1, hbx1⟩ := litRecs_ok vs _ s s1 es Z F [] _ (h'.tk.relt (lt := some s.tb.length)) rfl hA2 hrec
       rw [List.append_nil] at hT1
       have hel : es.length = n := by
        have := hR.len
        rw [← this]
        simp [hpn]
       have hfill := fill_all (n := n) (s := sub.length) (by omega) _ hcs (by rw [List.length_map]; exact hlen) ((Array.range (n * i.size)).map (z.cells[· % z.cells.size]!)) (by simp [hsz])
       have hrun := run_lit (P := cx.P) (w := w1) (t := t) (e := e) (n := n) (ps := (parts.toList.map fun p => (p.1, st.rho (a :: r) p.2)).toArray) hu hi hz hipos (by rw [hsz]; omega) (fun h0 => by
        have hpe : parts.toList = [] := List.eq_nil_of_length_eq_zero (by rw [Array.length_toList, hpn, h0])
        rw [hpe]; rfl) (by rw [List.toList_toArray, idxs_zip (st.rho (a :: r)) 0 _ hidx, hsz]; rw [hsz] at hfill; exact hfill)
       unfold semUpon
       rw [hrun]
       have hF : Fr (· ∈ ([] : List Nat)) w1 _ := fr_nil (fr_alloc w1 (.cells ((((parts.toList.map (·.2)).map (st.rho (a :: r))).map fun y => y.cells.toList).flatten.toArray) e))
       have hBox : Box (w1.alloc (.cells ((((parts.toList.map (·.2)).map (st.rho (a :: r))).map fun y => y.cells.toList).flatten.toArray) e)) w1.heap.size ((((parts.toList.map (·.2)).map (st.rho (a :: r))).map fun y => y.cells.toList).flatten ++ []) e := by
        unfold Box
        rw [heap_alloc]
        simp
       have hR2 : Recs (w1.alloc (.cells ((((parts.toList.map (·.2)).map (st.rho (a :: r))).map fun y => y.cells.toList).flatten.toArray) e)) Z1 sub es _ f := Recs.kept (fun m k hk hm => hF.block k hk (by simp)) (fun _ _ h => h) hR fun k hk => hF.block k (hR.lt k hk) (by simp)
       have hrep := Rep.own (c := n) hBox (by rw [List.append_nil, hR.size, hel]) (by rw [hel]; exact Nat.le_refl _) (by have := Nat.le_mul_of_pos_right n (show 0 < sub.length by omega); simp [maxLen]; omega) hR2
       rw [hel] at hrep
       have hnf : ∀ k ∈ f, k < w1.heap.size := fun k hk => (hT1.sp.lm k hk).1
       have htk := Tk.newRow (f := []) (g := w1.heap.size :: f) (c := s1.ctr) hT1 hlt hF rfl (.inr (by rw [htl1])) (List.nodup_cons.2 ⟨fun hm => absurd (hnf _ hm) (Nat.lt_irrefl _), hT1.sp.ln⟩) (fun k hk => by
        rcases List.mem_cons.1 hk with rfl | hk
        ·exact .inr ⟨Nat.le_refl _, hBox.lt⟩
        ·exact .inl hk) (fun _ _ h => h) (fun m k hk => .inl hk) hT1.sp.z2 (fun m k hk => .inr hk) hrep
       obtain ⟨A, m, c, e1, h1, hfr, h2, h3, h4⟩ := mem_all (T := a :: r) h' hbox hlt hbk hF (fun _ h => by cases h) (fun _ h => by cases h) (fun _ _ _ h => by cases h) htk (Ext.app _ _) (hk1.trans (Keeps.addT _ _)) hbx1 (fun m k hk => hz1 m k (h'.z0 m k hk)) (fun m k hk => by
        rcases hzn1 m k hk with hk | ⟨r, hk⟩
        ·exact h'.zg m k hk
        ·exact .inr (h'.tk.sp.fm r k hk).2.2) (slV_cr hT1.hl ⟨_, _, _, rfl⟩) ⟨_, _, _, rfl⟩ (by intros; simp [slV]) (hl1 hgt)
       have hfits := fits_app (a := [Ck.sl]) (x := [.slice A m c]) ⟨rfl, trivial⟩ h1
       exact exKs_of (vs := .slice A m c :: (if false then [] else escVals st1.bx (st1.bx.map fun (b : Bx) => b.cs.map (fun (x : Value × Nat) => x.1)))) hfits ⟨e1, h2, h3 _ (allKs_at hK' hfits _ hfr h4)⟩
      ·have hte : TeOk w1 Z (hd ++ [.slice none 0 0]) (BxE st1) (upd F s.tb.length []) none [] s.tb.length (.slice none 0 0) (.row 2 e (Shp.rds 2 sub) []) := by
        show Rep w1 Z _ _ _ (upd F s.tb.length [] s.tb.length)
        rw [upd_same]
        exact Rep.tree (css := []) (by decide) (Nat.zero_le _) (Nat.le_refl _) (fun h => absurd rfl h) .nil
       have htk := Tk.add (f := []) (c := s.ctr) h'.tk hte
       obtain ⟨A, m, c, e1, h1, hfr, h2, h3, h4⟩ := mem_all (T := a :: r) (kk := kk) (s2 := s.addT (.row 2 e (Shp.rds 2 sub) [])) h' hbox hlt hbk (f := []) (fr_nil (Fr.refl _ _)) (fun _ h => by cases h) (fun _ h => by cases h) (fun _ _ _ h => by cases h) htk (Ext.app _ _) (Keeps.addT _ _) rfl h'.z0 h'.zg (slV_cr h'.tk.hl ⟨_, _, _, rfl⟩) ⟨none, 0, 0, rfl⟩ (by intros; simp [slV]) (hl2 hgf)
       obtain ⟨rfl, rfl, rfl⟩ := Value.slice.inj e1
       have hfits := fits_app (a := [Ck.sl]) (x := [.slice none 0 0]) ⟨rfl, trivial⟩ h1
       have := allKs_at hK' hfits _ hfr h4
       refine exKs_of (vs := [.slice none 0 0]) ⟨rfl, trivial⟩ ?_
       simp only [Bool.false_eq_true, if_false] at this ⊢
       rw [escNow_vals] at this
       exact this
     ·exact hl.elim
    ·exact hl.elim
   ·exact hl.elim
  ·exact hl.elim
 ·exact hl.elim
end
end Go.Dw
end
section
namespace Go.Cw
open Go
section
variable {cx : Cx} {ops : Array Oper} {dr : Bool} {dn : Nat → Bool} {o : Oper} {st : St} {T : List (Nat × Bool)} {w : World} {k k' : St → World → Prop}
theorem allK_mono {c : Ck} {K K' : Value → Prop} (h : ∀ v, K v → K' v) : allK c K → allK c K' := by
 cases c <;> simp only [allK] <;> intro hh <;> intros <;> exact h _ (hh ..)
theorem allKs_mono {ks : List Ck} : ∀ {K K' : List Value → Prop}, (∀ v, K v → K' v) → allKs ks K → allKs ks K' := by
 induction ks with
 | nil => intro K K' h; exact h _
 | cons c r ih => intro K K' h; exact allK_mono fun v => ih fun vs => h _
theorem flush_mono {K K' : World → Prop} (h : ∀ w, K w → K' w) (hh : flush cx st w K) : flush cx st w K' := by
 unfold flush at hh ⊢
 split
 ·rename_i hd; rw [if_pos hd] at hh; exact fun w1 h1 h2 => h _ (hh w1 h1 h2)
 ·rename_i hd; rw [if_neg hd] at hh; exact h _ hh
theorem boxHyps_mono {p q : Prop} (h : p → q) : ∀ l : List Bx, boxHyps w l p → boxHyps w l q
 | [], hh => h hh
 | b :: r, hh => by
   simp only [boxHyps] at hh ⊢
   split
   ·rename_i hb; rw [if_pos hb] at hh; exact fun hx => boxHyps_mono h r (hh hx)
   ·rename_i hb; rw [if_neg hb] at hh; exact boxHyps_mono h r hh
theorem boxAsks_mono {p q : Prop} (h : p → q) : ∀ l : List Bx, boxAsks w l p → boxAsks w l q
 | [], hh => h hh
 | b :: r, hh => by
   simp only [boxAsks] at hh ⊢
   split
   ·rename_i hb; rw [if_pos hb] at hh; exact ⟨hh.1, boxAsks_mono h r hh.2⟩
   ·rename_i hb; rw [if_neg hb] at hh; exact boxAsks_mono h r hh
theorem asks_mono {p q : Prop} (h : p → q) {vs : List Value} (hh : st.asks dr w vs p) : st.asks dr w vs q := by
 unfold St.asks at hh ⊢
 split
 ·rename_i hb; rw [if_pos hb] at hh; exact h hh
 ·rename_i hb; rw [if_neg hb] at hh; exact boxAsks_mono h _ hh
theorem ltHyp_mono {p q : Prop} (h : p → q) (hh : ltHyp st w p) : ltHyp st w q := by
 unfold ltHyp at hh ⊢
 split
 ·rename_i hb; rw [hb] at hh; exact h hh
 ·rename_i hb
  split at hh
  ·rename_i hb'; exact absurd hb' hb
  ·exact fun hx => h (hh hx)
theorem effW_mono {rs : Rs} {dst : Option Tmp} {E : (Value → World → Prop) → Prop} (hE : ∀ R R' : Value → World → Prop, (∀ v w, R v w → R' v w) → E R → E R') (h : ∀ st w, k st w → k' st w) (hh : effW cx ops dr st T rs dst w E k) : effW cx ops dr st T rs dst w E k' := by
 unfold effW at hh ⊢
 simp only at hh ⊢
 split
 ·refine hE _ _ (fun v w2 h1 => ?_) hh
  exact exKs_mono (fun vs ⟨a, b, c⟩ => ⟨a, b, asks_mono (fun h2 h3 => h _ _ (h2 h3)) c⟩) h1
 ·rename_i T' hT
  split at hh
  ·exact absurd rfl hT
  ·split at hh
   ·exact hh.elim
   ·rename_i g hg
    intro K' hK
    exact hh K' (allKs_mono (fun vs h1 w2 h2 h3 => h1 w2 h2 (h _ _ h3)) hK)
theorem memOp_mono (h : ∀ st w, k st w → k' st w) (hh : memOp cx ops dr st T o w k) : memOp cx ops dr st T o w k' := by
 unfold memOp at hh ⊢
 simp only at hh ⊢
 split at hh
 ·rename_i rs s h1 h2 h3 h4
  split at hh
  ·rename_i hf
   rw [if_pos hf]
   exact flush_mono (fun w1 => ltHyp_mono (boxHyps_mono (effW_mono (fun R R' hr hs => semUpon_mono hs hr) h) _)) hh
  ·exact hh.elim
 ·exact hh.elim
theorem cellsK_mono {cv : CV} {p q : List Value → Prop} (h : ∀ l, p l → q l) (hh : cellsK st cv p) : cellsK st cv q := by
 cases cv <;> first | exact h _ hh | exact ⟨hh.1, h _ hh.2⟩
theorem calls_mono {P : Program} {g : FuncId} {args : Array Value} {R R' : Ending → World → Prop} (hr : ∀ e w, R e w → R' e w) (h : Calls P g args w R) : Calls P g args w R' := h.mono hr
theorem effOp_mono (h : ∀ st w, k st w → k' st w) (hh : effOp cx ops dr st T o w k) : effOp cx ops dr st T o w k' := by
 unfold effOp at hh ⊢
 split
 ·rename_i t x hop
  simp only [hop] at hh
  split at hh
  ·exact cellsK_mono (fun l hl b h1 h2 => h _ _ (hl b h1 h2)) hh
  ·exact hh.elim
  ·exact memOp_mono h hh
 ·rename_i t hop
  simp only [hop] at hh
  split at hh
  ·exact fun b h1 h2 => h _ _ (hh b h1 h2)
  ·exact hh.elim
 ·rename_i t x hop
  simp only [hop] at hh
  split at hh
  ·exact flush_mono (fun w1 => exKs_mono fun vs ⟨a, b⟩ => ⟨a, h _ _ b⟩) hh
  ·exact hh.elim
 ·rename_i src dst x hop
  simp only [hop] at hh
  split at hh
  ·split at hh
   ·rename_i hc
    simp only [hc, if_true]
    exact flush_mono (fun w1 ⟨bs, a, b, c⟩ => ⟨bs, a, b, h _ _ c⟩) hh
   ·exact hh.elim
  ·exact hh.elim
 ·rename_i t a x hop
  simp only [hop] at hh
  split at hh
  ·refine cellsK_mono (fun l hl => ?_) hh
   split at hl
   ·split at hl
    ·rename_i hc; rw [if_pos hc]; exact h _ _ hl
    ·exact hl.elim
   ·exact hl.elim
  ·refine cellsK_mono (fun l hl => ?_) hh
   split at hl
   ·rename_i hc
    rw [if_pos hc]
    refine flush_mono (fun w1 h1 => ?_) hl
    obtain ⟨b, o, cs, t, a1, a2, a3, a4, a5, a6⟩ := h1
    exact ⟨b, o, cs, t, a1, a2, a3, a4, a5, fun w2 g1 g2 => h _ _ (a6 w2 g1 g2)⟩
   ·exact hl.elim
  ·exact hh.elim
 ·rename_i f args at_ hop
  simp only [hop] at hh
  split at hh
  ·rename_i rs F hrs hF hcan
   simp only at hh ⊢
   split at hh
   ·rename_i hf
    rw [if_pos hf]
    split at hh
    ·split at hh
     ·rename_i hg
      simp only [hg, if_true]
      exact flush_mono (fun w1 => ltHyp_mono (boxHyps_mono (effW_mono (fun R R' hr hs => calls_mono (fun e w ⟨v, h1, h2⟩ => ⟨v, h1, hr _ _ h2⟩) hs) h) _)) hh
     ·exact hh.elim
    ·exact flush_mono (fun w1 => ltHyp_mono (boxHyps_mono (effW_mono (fun R R' hr hs => callV_mono hs (fun e w ⟨v, h1, h2⟩ => ⟨v, h1, hr _ _ h2⟩)) h) _)) hh
    ·exact hh.elim
   ·exact hh.elim
  ·exact hh.elim
 ·rename_i t m i x hop
  simp only [hop] at hh
  split at hh
  ·simp only at hh ⊢
   split at hh
   ·rename_i hf
    rw [if_pos hf]
    exact flush_mono (fun w1 => ltHyp_mono (boxHyps_mono (effW_mono (fun R R' hr hs => semUpon_mono hs hr) h) _)) hh
   ·exact hh.elim
  ·exact hh.elim
 ·rename_i h1 h2 h3 h31 h4 h5 h6
  split at hh <;> rename_i hop
  ·exact absurd hop (h1 _ _)
  ·exact absurd hop (h2 _)
  ·exact absurd hop (h3 _ _)
  ·exact absurd hop (h31 _ _ _)
  ·exact absurd hop (h4 _ _ _)
  ·exact absurd hop (h5 _ _ _)
  ·exact absurd hop (h6 _ _ _ _)
  ·exact memOp_mono h hh
theorem stepOp_mono (h : ∀ st w, k st w → k' st w) (hh : stepOp cx ops dr dn o st w k) : stepOp cx ops dr dn o st w k' := by
 unfold stepOp at hh ⊢
 split at hh
 ·exact hh.elim
 ·split at hh
  ·exact h _ _ hh
  ·exact ⟨hh.1, h _ _ hh.2⟩
  ·exact effOp_mono h hh
theorem seqOps_mono (h : ∀ st w, k st w → k' st w) : ∀ (l : List Oper) (i : Nat) (st : St) (w : World), seqOps cx ops l i st w k → seqOps cx ops l i st w k'
 | [], _, _, _, hh => h _ _ hh
 | _ :: r, _, st, w, hh => stepOp_mono (fun st w => seqOps_mono h r _ st w) hh
theorem each_mono {F F' : Nat → Prop} (h : ∀ i, F i → F' i) : ∀ l : List Nat, each l F → each l F'
 | [], _ => trivial
 | [i], hh => h i hh
 | i :: j :: r, hh => ⟨h i hh.1, each_mono h (j :: r) hh.2⟩
theorem drawOps_mono (h : ∀ st w, k st w → k' st w) : ∀ (f : Nat) (listed : Array Bool) (st : St) (w : World), drawOps cx ops f listed st w k → drawOps cx ops f listed st w k'
 | 0, _, _, _, hh => hh.elim
 | f + 1, listed, st, w, hh => by
   simp only [drawOps] at hh ⊢
   have one : ∀ i, (match ops[i]? with
    | some o => stepOp cx ops true (fun j => listed.getD j false) o st w fun st w => drawOps cx ops f (listed.setIfInBounds i true) st w k
    | none => False) → (match ops[i]? with
    | some o => stepOp cx ops true (fun j => listed.getD j false) o st w fun st w => drawOps cx ops f (listed.setIfInBounds i true) st w k'
    | none => False) := by
    intro i hi
    split at hi
    ·exact stepOp_mono (fun st w => drawOps_mono h f _ st w) hi
    ·exact hi.elim
   split at hh
   ·exact h _ _ hh
   ·split at hh
    ·exact one _ hh
    ·exact each_mono one _ hh
end
end Go.Cw
namespace Go.Dw
open Go Go.Cw
set_option linter.unusedVariables false
section
variable {dcx : Dcx} {cx : Cx} {ops : Array Oper} {s s' : DS} {T : List (Nat × Bool)} {o : Oper} {hd : List Value} {Z0 Z : Nat → Nat → Prop} {F : Nat → List Nat} {st : St} {w w' : World} {dn : Nat → Bool} {dr : Bool} {Gl : List (Nat × List Value)}
theorem dtag_ok {P : Program} (h : Ek P s hd st) (ht : dtag ops dn s o = some T) : tagSt ops dn st o = some T := by
 unfold dtag at ht
 unfold tagSt
 split at ht
 ·rename_i hg
  (try rw [hg]); exact ht
 ·rename_i j b hg
  try rw [hg]
  try simp only
  split at ht
  ·rename_i hj
   rw [if_pos hj]
   split at ht
   ·rename_i d hd'
    try rw [hd']
    try simp only
    split at ht
    ·rename_i e he
     obtain ⟨e', h1, h2, _⟩ := h.env _ _ he
     rw [h1]
     simp only
     rw [h2]
     exact ht
    ·cases ht
   ·cases ht
  ·cases ht
theorem loud_ok {P : Program} (hl : loud o = true) : quietOp P ops st T o = none := by
 unfold loud at hl
 unfold quietOp
 split at hl <;> rename_i hop <;> first | (simp only [hop, nilCmp, isPureAt, isPure, Bool.false_and]; rfl) | cases hl
theorem gImp_true (h : Ek cx.P s hd st) {q : Prop} (hT : (T.isEmpty || (dgx s ops T).isSome) = true) (hq : q) : gImp st ops T q := by
 refine dImp_ok (p := True) h (fun _ => hq) ?_
 cases T with
 | nil => trivial
 | cons a r =>
   simp only [List.isEmpty_cons, Bool.false_or] at hT
   simp only [dImp]
   cases hg : dgx s ops (a :: r) with
   | none => rw [hg] at hT; cases hT
   | some g => intro _; trivial
theorem reps_u8 {Z : Nat → Nat → Prop} {ds : List D} {cs : List Value} {f : List Nat} (h : Reps w Z [.v (.int .u8)] ds cs f) : ∃ k, cs = [.int .u8 k] ∧ byD ds = k := by
 cases h with
 | cons a b =>
   cases b
   cases a with
   | v h1 h2 =>
     rename_i v
     cases v <;> first | (simp [Ck.fits] at h2; done) | skip
     rename_i k n
     obtain rfl : IntKind.u8 = k := by simpa [Ck.fits] using h2
     exact ⟨_, rfl, rfl⟩
theorem Rep.bytes {Z : Nat → Nat → Prop} {md : Nat} {e : TypeId} {es : List (List D)} {A : Option Addr} {n c : Nat} {f : List Nat} (h : Rep w Z (.l md e [.v (.int .u8)]) (.l es) (.slice A n c) f) (hn : 0 < es.length) (hA : A.isSome = true) :
 Cells w A 0 ((es.map byD).map (Value.int .u8)) := by
 obtain ⟨p, rfl⟩ := Option.isSome_iff_exists.1 hA
 refine ⟨p, rfl, fun m hm => ?_⟩
 simp only [List.length_map] at hm
 obtain ⟨cs, f', h1, _, _, h4⟩ := h.rec_at (List.getElem?_eq_getElem hm)
 have hcs : ∃ k, cs = [.int .u8 k] ∧ byD es[m] = k := reps_u8 h1
 obtain ⟨k, rfl, hk⟩ := hcs
 obtain ⟨q, hq, hc⟩ := h4 0 1 (by decide) rfl
 obtain rfl := Option.some.inj hq
 have := hc 0 (by simp)
 simp only [List.drop_zero, List.take_succ_cons, List.take_zero, List.getElem?_cons_zero, List.length_singleton, Nat.mul_one, Nat.add_zero] at this
 rw [show (p.add 0).add m = (p.add m).add 0 by rw [add_add, add_add, Nat.add_comm], this]
 simp [hm, hk]
theorem conv_ok (h : Lk cx Z0 s hd Z F st w) {kk : DS → Prop} {src dst : TypeId} {x : Operand} (hop : o.op = .convert src dst x) (hl : dEff dcx ops dr s T o kk) (hP : dcx.P = cx.P) :
 (∃ cv s', T = [] ∧ QOk cx ops T o hd Z0 Z F st w s s' none cv ∧ kk (s'.put o.dst cv T)) ∨ quietOp cx.P ops st T o = none ∧ effOp cx ops dr st T o w (Nx cx Z0 s hd kk) := by
 unfold dEff at hl
 simp only [hop] at hl
 rw [hP] at hl
 split at hl
 ·rename_i v hx
  split at hl
  ·rename_i r e es hb hrec
   split at hl
   ·rename_i hdr
    subst hdr
    obtain ⟨cv', h1, h2⟩ := rd_ok h.ek hx
    obtain ⟨q, n0, c0, rfl⟩ : ∃ q n c, v = .slice (some q) n c := by
     unfold DS.recs at hrec
     split at hrec
     ·exact ⟨_, _, _, rfl⟩
     ·cases hrec
    obtain ⟨y, hy, rfl⟩ := cvR_v h2 (by intros; simp)
    obtain ⟨A, c', rfl, hlc, hhd, hsome, hmax⟩ := recs_ok h.tk (v := .slice (some q) n0 c0) hy hrec
    have hb' := hb
    unfold isB2S at hb'
    split at hb'
    ·rename_i el hs hd'
     split at hb'
     ·rename_i he
      have hop' : isPure o = true := by simp [isPure, hop]
      have hxs : semOpnds o = [x] := by simp [semOpnds, hop]
      have hcan : st.can [] (semOpnds o) = true := by rw [hxs]; simp [St.can, h1]
      have hq : quietOp cx.P ops st [] o = match pureOf cx.P (convert src dst (.slice A es.length c')) with | some v => some (none, .v v, st.escs [] (semOpnds o)) | none => none := by
       rw [quiet_generic hop' (by intro t x y u; simp [hop]), quietGen, opRel_nil (by simp [hop])]
       simp only [pure_at hop' (fun t' i' ho => by rw [hop] at ho; cases ho) (fun x' hx' r hr => by
        rw [hxs, List.mem_singleton] at hx'
        subst hx'
        rw [h1] at hr
        cases hr), hcan, Bool.and_self, if_true]
       simp only [semOf, hop, St.rho, h1, St.den]
       cases pureOf cx.P (convert src dst (.slice A es.length c')) <;> rfl
      obtain ⟨p0, p1⟩ := conv_pure hs hd' he (A := A) (c := c')
      cases hes : es with
      | nil =>
        subst hes
        refine .inl ⟨.v (.string (strD [])), s, rfl, .escs h (p' := none) (cv' := .v (.string .empty)) (xs := semOpnds o) ?_ (fun h => h) ⟨_, CR.plain rfl, .inl rfl⟩, hl⟩
        rw [hq]
        simp only [List.length_nil]
        rw [p0]
      | cons e0 er =>
        have hA := hsome (by rw [hes]; simp) (by decide)
        obtain ⟨p, rfl⟩ := Option.isSome_iff_exists.1 hA
        refine .inr ⟨?_, ?_⟩
        ·rw [hq, hes]
         simp only [List.length_cons]
         rw [p1]
        ·unfold effOp
         simp only [hop, h1, hb, if_true]
         refine flush_of h fun w1 h' => ?_
         refine ⟨es.map byD, by simp, ?_, ?_⟩
         ·have hrec' := hrec
          unfold DS.recs at hrec'
          simp only at hrec'
          by_cases hev : evenB q = true
          ·rw [if_pos hev] at hrec'
           split at hrec'
           ·rename_i md e2 sub2 es2 htb
            simp only [Option.some.injEq, Prod.mk.injEq] at hrec'
            obtain ⟨rfl, rfl, rfl, rfl⟩ := hrec'
            obtain ⟨c, v', _, k2, k3⟩ := h'.tk.at htb (by simp)
            rw [hhd] at k2
            obtain rfl := Option.some.inj k2
            have hrep : Rep w1 Z (.l md e2 [.v (.int .u8)]) (.l es2) _ (F (q.block / 2)) := k3
            exact hrep.bytes (by rw [hes]; simp) rfl
           ·rename_i r0 rt e2 sub2 es2 htb
            simp only [Option.some.injEq, Prod.mk.injEq] at hrec'
            obtain ⟨rfl, rfl, rfl, rfl⟩ := hrec'
            obtain ⟨c, v', _, k2, k3⟩ := h'.tk.at htb (by simp)
            rw [hhd] at k2
            obtain rfl := Option.some.inj k2
            exact k3.2.bytes (by rw [hes]; simp) rfl
           ·cases hrec'
          ·rw [if_neg hev] at hrec'; cases hrec'
         ·exact ⟨_, hd, Z, F, (h'.pin false (r := r) hhd).put (cv := .v (.string (strD es))) (cv' := .v (.string (strD es))) ⟨_, CR.plain rfl, .inl rfl⟩, DAgr.put _ _ _ _, Ext.refl _, hl⟩
     ·cases hb'
    ·cases hb'
   ·exact hl.elim
  ·exact hl.elim
 ·exact hl.elim
theorem eff_ok (G : Gd0 dcx cx Gl Z0) (h : Lk cx Z0 s hd Z F st w) {kk : DS → Prop} (hl : dEff dcx ops dr s T o kk) :
 (∃ cv s', T = [] ∧ QOk cx ops T o hd Z0 Z F st w s s' none cv ∧ kk (s'.put o.dst cv T)) ∨ quietOp cx.P ops st T o = none ∧ effOp cx ops dr st T o w (Nx cx Z0 s hd kk) := by
 have hP := G.P
 cases hop : o.op with
 | convert src dst x => exact conv_ok h hop hl hP
 | box t x => exact .inr ⟨loud_ok (by simp [loud, hop]), box_ok h hop hl hP⟩
 | alloc t => exact .inr ⟨loud_ok (by simp [loud, hop]), alloc_ok h hop hl hP⟩
 | load t x =>
   have hl0 := hl
   unfold dEff at hl
   simp only [hop] at hl
   split at hl
   ·rename_i r i sz off hx
    rw [hP] at hl
    refine .inr ⟨?_, load_ok h hop hx hl⟩
    obtain ⟨cv', h1, v, hv, rfl, _⟩ := rd_ok h.ek hx
    simp [quietOp, hop, h1]
   ·exact hl.elim
 | store t a x =>
   refine .inr ⟨loud_ok (by simp [loud, hop]), ?_⟩
   have hl0 := hl
   unfold dEff at hl
   simp only [hop] at hl
   split at hl
   ·rename_i kk off v ha hv
    exact storeB_ok h hop ha hl0 hP
   ·rename_i r i sz off v ha hv
    exact storeE_ok h hop ha hl0 hP
   ·exact hl.elim
 | makeSlice t x c =>
   refine .inr ⟨loud_ok (by simp [loud, hop]), ?_⟩
   unfold dEff at hl
   simp only [hop] at hl
   split at hl
   ·unfold effOp
    simp only [hop]
    rw [hP] at hl
    exact make_ok h hop hl
   ·exact hl.elim
 | buildSlice t n parts =>
   refine .inr ⟨loud_ok (by simp [loud, hop]), ?_⟩
   unfold dEff at hl
   simp only [hop] at hl
   unfold effOp
   simp only [hop]
   rw [hP] at hl
   split at hl
   ·exact build_ok h hop hl
   ·rename_i hT
    exact litg_ok h hop (fun e => hT e) hl
 | call c =>
   obtain ⟨callee, args, argTypes⟩ := c
   cases callee with
   | value f =>
     exact .inr ⟨loud_ok (by simp [loud, hop]), call_ok G h hop hl⟩
   | builtin b =>
     cases b with
     | append =>
       refine .inr ⟨loud_ok (by simp [loud, hop]), ?_⟩
       unfold dEff at hl
       simp only [hop] at hl
       split at hl
       ·unfold effOp
        simp only [hop]
        rw [hP] at hl
        exact append_ok h hop hl
       ·exact hl.elim
     | _ =>
       unfold dEff at hl
       simp only [hop] at hl
       split at hl
       ·unfold dMem at hl
        simp only [hop] at hl
        split at hl <;> exact hl.elim
       ·exact hl.elim
   | _ =>
     unfold dEff at hl
     simp only [hop] at hl
     split at hl
     ·unfold dMem at hl
      simp only [hop] at hl
      split at hl <;> exact hl.elim
     ·exact hl.elim
 | _ =>
   unfold dEff at hl
   simp only [hop] at hl
   split at hl
   ·unfold dMem at hl
    simp only [hop] at hl
    split at hl <;> exact hl.elim
   ·exact hl.elim
theorem nil_ok (h : Lk cx Z0 s hd Z F st w) {ng : Bool} {es : List (List D)} (hn : dNil cx.P s T o = some (ng, es)) : ∃ b, quietOp cx.P ops st T o = some (none, .v (.bool b), st) ∧ (es.length ≠ 0 → b = ng) := by
 have key : ∀ (t : TypeId) (x : Operand) (g : Bool), (match sliceElem cx.P t, s.rd T x with
  | some _, some (.v v) => match s.recs v with | some (_, _, sub, es) => if 0 < sub.length then some (g, es) else none | none => none
  | _, _ => none) = some (ng, es) → g = ng ∧ ∃ A n c e, st.rd T x = some (.v (.slice A n c)) ∧ cx.P.underlying t = some (.slice e) ∧ (es.length ≠ 0 → A.isSome = true) := by
  intro t x g hh
  split at hh
  ·rename_i e v he hx
   split at hh
   ·rename_i r e2 sub es2 hr
    split at hh
    ·rename_i hs
     simp only [Option.some.injEq, Prod.mk.injEq] at hh
     obtain ⟨rfl, rfl⟩ := hh
     obtain ⟨cv', h1, y, h2, h3⟩ := rd_ok h.ek hx
     obtain ⟨q, n0, c0, rfl⟩ : ∃ q n c, v = .slice (some q) n c := by
      unfold DS.recs at hr
      split at hr
      ·exact ⟨_, _, _, rfl⟩
      ·cases hr
     rcases h3 with rfl | ⟨_, _, _, _, h3⟩
     ·obtain ⟨A, c, rfl, _, _, hA, _⟩ := recs_ok h.tk (show CRl hd (BxE st) (.slice (some q) n0 c0) y from h2) hr
      exact ⟨rfl, A, _, c, e, h1, (sliceElem_spec he).1, fun hl => hA (Nat.pos_of_ne_zero hl) hs⟩
     ·cases h3
    ·cases hh
   ·cases hh
  ·cases hh
 unfold dNil at hn
 split at hn
 ·rename_i t x k hop
  obtain ⟨rfl, A, n, c, e, h1, h2, h3⟩ := key t x false hn
  refine ⟨!A.isSome, by simp [quietOp, hop, nilCmp, h1, isAggCv, isNilB, h2], fun hl => by rw [h3 hl]; rfl⟩
 ·rename_i t x k hop
  obtain ⟨rfl, A, n, c, e, h1, h2, h3⟩ := key t x true hn
  refine ⟨A.isSome, by simp [quietOp, hop, nilCmp, h1, isAggCv, isNilB, h2], h3⟩
 ·cases hn
theorem dAsk_imp {p : Prop} (h : dAsk s ops T o p) : dImp s ops T p := by
 unfold dAsk at h
 split at h
 ·obtain ⟨h1, h2⟩ := h
  cases T with
  | nil => exact h1
  | cons a r =>
    simp only [List.isEmpty_cons, Bool.false_or] at h2
    obtain ⟨g, hg⟩ := Option.isSome_iff_exists.1 h2
    simp only [dImp, hg]
    exact fun _ => h1
 ·exact h
theorem dAsk_of {p : Prop} (h : dAsk s ops T o p) (hT : T = [] ∨ firm o = true) : p := by
 unfold dAsk at h
 split at h
 ·exact h.1
 ·rename_i hf
  rcases hT with rfl | hT
  ·exact h
  ·exact absurd hT hf
theorem step_ok (G : Gd0 dcx cx Gl Z0) (h : Lk cx Z0 s hd Z F st w) {kk : DS → Prop} (hl : dStep dcx ops dr dn o s kk) : stepOp cx ops dr dn o st w (Nx cx Z0 s hd kk) := by
 have hP := G.P
 unfold dStep at hl
 unfold stepOp
 split at hl
 ·exact hl.elim
 ·rename_i T hT
  rw [dtag_ok h.ek hT]
  simp only
  rw [hP] at hl
  have fin : ∀ (p : Option Prop) (cv : DC) (s' : DS), QOk cx ops T o hd Z0 Z F st w s s' p cv → (∀ q : Prop, ((∀ q', p = some q' → q') → q) → gImp st ops T q) → kk (s'.put o.dst cv T) → (match quietOp cx.P ops st T o with
   | some (none, cv, st') => Nx cx Z0 s hd kk (st'.put o.dst cv T) w
   | some (some p, cv, st') => gImp st ops T p ∧ Nx cx Z0 s hd kk (st'.put o.dst cv T) w
   | none => effOp cx ops dr st T o w (Nx cx Z0 s hd kk)) := by
   intro p cv s' ⟨p', cv', st', hd', h1, h2, h3, h4, h5, h6, h7, h8⟩ hg hk
   rw [h1]
   have hn : Nx cx Z0 s hd kk (st'.put o.dst cv' T) w := ⟨_, hd', Z, F, h7.put h6, h8.agr.trans (DAgr.put _ _ _ _), h5, hk⟩
   cases p' with
   | none => exact hn
   | some q => exact ⟨hg q fun hq => h2 hq q rfl, hn⟩
  split at hl
  ·rename_i cv s' hq
   split at hl
   ·rename_i hc
    exact fin none cv s' (dq_ok h hq fun _ q hq => by cases hq) (fun q hq => gImp_true h.ek hc (hq fun _ h => by cases h)) hl
   ·exact hl.elim
  ·rename_i p cv s' hq
   refine fin (some p) cv s' (dq_ok h hq fun hT q hq' => ?_) (fun q hq => dImp_ok h.ek (fun hp => hq fun q' e => by obtain rfl := Option.some.inj e; exact hp) (dAsk_imp hl.1)) hl.2
   obtain rfl := Option.some.inj hq'
   exact dAsk_of hl.1 hT
  ·split at hl
   ·rename_i ng es hn
    obtain ⟨b, h1, h2⟩ := nil_ok (ops := ops) h hn
    rw [h1]
    exact ⟨_, hd, Z, F, h.put (cv := .v (.bool b)) (cv' := .v (.bool b)) ⟨.bool b, CR.plain rfl, .inl rfl⟩, DAgr.put _ _ _ _, Ext.refl _, hl b h2⟩
   ·rcases eff_ok G h hl with ⟨cv, s', hT0, hq, hk⟩ | ⟨h1, h2⟩
    ·subst hT0
     exact fin none cv s' hq (fun q hg => hg fun _ h => by cases h) hk
    ·rw [h1]
     exact h2
/-! ### Regions -/
theorem dDrop_get : ∀ {l : List (Option DE)} {t : Nat} {e : DE}, (dDrop l)[t]? = some (some e) → l[t]? = some (some e) ∧ e.tg = []
 | [], t, e, h => by simp [dDrop] at h
 | some x :: r, 0, e, h => by
   simp only [dDrop, List.getElem?_cons_zero, Option.some.injEq] at h
   split at h
   ·rename_i hx
    obtain rfl := Option.some.inj h
    exact ⟨rfl, hx⟩
   ·cases h
 | none :: r, 0, e, h => by simp [dDrop] at h
 | some x :: r, t + 1, e, h => by
   simp only [dDrop, List.getElem?_cons_succ] at h ⊢
   exact dDrop_get h
 | none :: r, t + 1, e, h => by
   simp only [dDrop, List.getElem?_cons_succ] at h ⊢
   exact dDrop_get h
theorem dDrop_length : ∀ l : List (Option DE), (dDrop l).length = l.length
 | [] => rfl
 | some x :: r => by simp [dDrop, dDrop_length r]
 | none :: r => by simp [dDrop, dDrop_length r]
theorem dropTags_put : ∀ {l : List (Option En)} {t : Nat} {e : En}, l[t]? = some (some e) → e.tg = [] → (dropTags l)[t]? = some (some e)
 | [], t, e, h, _ => by cases h
 | some x :: r, 0, e, h, ht => by
   simp only [List.getElem?_cons_zero, Option.some.injEq] at h
   subst h
   simp [dropTags, ht]
 | none :: r, 0, e, h, _ => by simp at h
 | some x :: r, t + 1, e, h, ht => by
   simp only [dropTags, List.getElem?_cons_succ] at h ⊢
   exact dropTags_put h ht
 | none :: r, t + 1, e, h, ht => by
   simp only [dropTags, List.getElem?_cons_succ] at h ⊢
   exact dropTags_put h ht
theorem Lk.endReg (h : Lk cx Z0 s hd Z F st w) : Lk cx Z0 s.endReg hd Z F st.endReg w :=
 ⟨⟨by simp only [DS.endReg, St.endReg, dDrop_length, dropTags_length]; exact h.ek.el, fun t e he => by
   obtain ⟨h1, h2⟩ := dDrop_get he
   obtain ⟨e', h3, h4, h5⟩ := h.ek.env t e h1
   exact ⟨e', dropTags_put h3 (h4.trans h2), h4, h5⟩, h.ek.bl, h.ek.bx, h.ek.bf, fun q hq => (by cases hq), h.ek.nd⟩, h.tk, h.fr, h.z0, h.zg⟩
theorem DAgr.endReg (s : DS) : DAgr s s.endReg := by
 refine ⟨Nat.le_refl _, dDrop_length _, fun t e he hv => ?_, fun _ b h => ⟨b, h, rfl, fun _ _ h _ => h⟩, Nat.le_refl _, fun _ _ h _ _ => h⟩
 exact (dDrop_get he).1
theorem seqd_ok (G : Gd0 dcx cx Gl Z0) {kk : DS → Prop} : ∀ (l : List Oper) (j : Nat) (s : DS) (hd : List Value) (Z : Nat → Nat → Prop) (F : Nat → List Nat) (st : St) (w : World), Lk cx Z0 s hd Z F st w → dSeq dcx ops l j s kk → seqOps cx ops l j st w (Nx cx Z0 s hd kk)
 | [], j, s, hd, Z, F, st, w, h, hl => ⟨_, hd, Z, F, h.endReg, DAgr.endReg s, Ext.refl _, hl⟩
 | o :: r, j, s, hd, Z, F, st, w, h, hl => by
   simp only [dSeq] at hl
   simp only [seqOps]
   refine stepOp_mono (fun st' w' ⟨s', hd', Z', F', h1, h2, h3, h4⟩ => ?_) (step_ok G h hl)
   refine seqOps_mono (fun st2 w2 ⟨s2, hd2, Z2, F2, g1, g2, g3, g4⟩ => ⟨s2, hd2, Z2, F2, g1, h2.trans g2, h3.trans g3, g4⟩) r _ _ _ (seqd_ok G r (j + 1) s' hd' Z' F' st' w' h1 h4)
theorem early_no (h : Ek cx.P s hd st) (he : dEarly cx.P ops dn s o = some false) : Cw.early cx.P ops dn st o = false := by
 unfold dEarly at he
 unfold Cw.early
 split at he
 ·cases he
 ·rename_i T hT
  rw [dtag_ok h hT]
  simp only
  split at he
  ·cases he
  ·split at he
   ·cases he
   ·rename_i hnl
    simp only [Bool.or_eq_true, not_or] at hnl
    split at he
    ·rename_i hl
     rw [loud_ok hl]
     simpa using hnl.1
    ·cases he
theorem early_yes (G : Gd0 dcx cx Gl Z0) (h : Lk cx Z0 s hd Z F st w) {kk : DS → Prop} (hl : dStep dcx ops dr dn o s kk) (he : dEarly cx.P ops dn s o = some true) : Cw.early cx.P ops dn st o = true := by
 have hP := G.P
 unfold dEarly at he
 unfold dStep at hl
 unfold Cw.early
 split at he
 ·cases he
 ·rename_i T hT
  rw [dtag_ok h.ek hT]
  rw [hT, hP] at hl
  simp only at hl ⊢
  cases hq : dq cx.P ops s T o with
  | none =>
    rw [hq] at he
    simp only at he
    split
    ·rfl
    ·rename_i hqn
     split at he
     ·rename_i hx
      rcases Bool.or_eq_true_iff.1 hx with hx | hx
      ·exact hx
      ·obtain ⟨⟨ng, es⟩, hn⟩ := Option.isSome_iff_exists.1 hx
       obtain ⟨b, h1, _⟩ := nil_ok (ops := ops) h hn
       rw [h1] at hqn
       cases hqn
     ·split at he <;> cases he
  | some x =>
    obtain ⟨p, cv, s'⟩ := x
    rw [hq] at hl
    obtain ⟨p', cv', st', hd', h1, _⟩ := dq_ok h hq fun hT q hq' => by
     cases p with
     | none => cases hq'
     | some p =>
       obtain rfl := Option.some.inj hq'
       exact dAsk_of hl.1 hT
    rw [h1]
theorem first_no {listed : Array Bool} (h : Ek cx.P s hd st) : ∀ l : List Nat, dFirst cx.P ops listed s l = some none → firstQuiet cx.P ops listed st l = none
 | [], _ => rfl
 | i :: r, hf => by
   simp only [dFirst] at hf
   simp only [firstQuiet]
   split at hf
   ·rename_i o ho
    try simp only [ho]
    split at hf
    ·split at hf
     ·cases hf
     ·rename_i he
      rw [early_no h he]
      simp only [Bool.and_false, Bool.false_and, Bool.false_eq_true, if_false]
      exact first_no h r hf
     ·cases hf
    ·rename_i hc
     rw [if_neg (by
      intro hh
      simp only [Bool.and_eq_true] at hh hc
      exact hc ⟨hh.1.1, hh.2⟩)]
     exact first_no h r hf
   ·rename_i ho
    try simp only [ho]
    exact first_no h r hf
theorem first_yes {listed : Array Bool} (h : Ek cx.P s hd st) {m : Nat} : ∀ l : List Nat, dFirst cx.P ops listed s l = some (some m) → (∀ o, ops[m]? = some o → dEarly cx.P ops (fun j => listed.getD j false) s o = some true → Cw.early cx.P ops (fun j => listed.getD j false) st o = true) → firstQuiet cx.P ops listed st l = some m
 | [], hf, _ => by cases hf
 | i :: r, hf, hm => by
   simp only [dFirst] at hf
   simp only [firstQuiet]
   split at hf
   ·rename_i o ho
    try simp only [ho]
    split at hf
    ·rename_i hc
     split at hf
     ·rename_i he
      simp only [Option.some.injEq] at hf
      subst hf
      rw [hm o ho he]
      simp only [Bool.and_eq_true] at hc
      simp only [hc.1, hc.2, Bool.and_self, if_true]
     ·rename_i he
      rw [early_no h he]
      simp only [Bool.and_false, Bool.false_and, Bool.false_eq_true, if_false]
      exact first_yes h r hf hm
     ·cases hf
    ·rename_i hc
     rw [if_neg (by
      intro hh
      simp only [Bool.and_eq_true] at hh hc
      exact hc ⟨hh.1.1, hh.2⟩)]
     exact first_yes h r hf hm
   ·rename_i ho
    try simp only [ho]
    exact first_yes h r hf hm
theorem Lk.reg (h : Lk cx Z0 s hd Z F st w) {kk : DS → Prop} (hk : kk s.endReg) : Nx cx Z0 s hd kk st.endReg w := ⟨_, hd, Z, F, h.endReg, DAgr.endReg s, Ext.refl _, hk⟩
theorem drawd_ok (G : Gd0 dcx cx Gl Z0) {kk : DS → Prop} : ∀ (f : Nat) (listed : Array Bool) (s : DS) (hd : List Value) (Z : Nat → Nat → Prop) (F : Nat → List Nat) (st : St) (w : World), Lk cx Z0 s hd Z F st w → dDraw dcx ops f listed s kk → drawOps cx ops f listed st w (Nx cx Z0 s hd kk)
 | 0, _, _, _, _, _, _, _, _, hl => hl.elim
 | f + 1, listed, s, hd, Z, F, st, w, h, hl => by
   have hP := G.P
   simp only [dDraw] at hl
   simp only [drawOps]
   have one : ∀ (i : Nat) (o : Oper), dStep dcx ops true (fun j => listed.getD j false) o s (fun s => dDraw dcx ops f (listed.setIfInBounds i true) s kk) → stepOp cx ops true (fun j => listed.getD j false) o st w fun st w => drawOps cx ops f (listed.setIfInBounds i true) st w (Nx cx Z0 s hd kk) := fun i o hi =>
    stepOp_mono (fun st' w' ⟨s', hd', Z', F', h1, h2, h3, h4⟩ => drawOps_mono (fun st2 w2 ⟨s2, hd2, Z2, F2, g1, g2, g3, g4⟩ => ⟨s2, hd2, Z2, F2, g1, h2.trans g2, h3.trans g3, g4⟩) f _ _ _ (drawd_ok G f _ s' hd' Z' F' st' w' h1 h4)) (step_ok G h hi)
   split at hl
   ·rename_i hr
    try simp only [hr]
    exact h.reg hl
   ·rename_i i r hr
    try simp only [hr]
    rw [hP] at hl
    split at hl
    ·rename_i m hm
     split at hl
     ·rename_i o ho
      rw [first_yes h.ek _ hm fun o' ho' he => by
       rw [ho] at ho'
       obtain rfl := Option.some.inj ho'
       exact early_yes G h hl he]
      try simp only [ho]
      exact one _ _ hl
     ·exact hl.elim
    ·rename_i hm
     rw [first_no h.ek _ hm]
     simp only
     refine each_mono (fun j hj => ?_) _ hl
     split at hj
     ·rename_i o ho
      try simp only [ho]
      exact one _ _ hj
     ·exact hj.elim
    ·exact hl.elim
end
end Go.Dw
end
section
namespace Go.Dw
open Go Go.Cw
set_option linter.unusedVariables false
section
variable {hd hd' : List Value} {E E' : Nat → Nat → Prop}
theorem CRl.fn {x y y' : Value} (h : CRl hd E x y) (h' : CRl hd' E' x y') (hh : Ext hd hd') (he : ∀ k b, E k b → E' k b) (hi : ∀ k b b', E' k b → E' k b' → b = b') : y = y' := by
 unfold CRl at h h'
 split at h
 ·simp only at h'
  have := hh _ _ h.2.2
  rw [h'.2.2] at this
  exact (Option.some.inj this).symm
 ·simp only at h'
  rcases h with ⟨h1, h2, h3, h4⟩ | ⟨h1, b, h2, h3⟩
  ·rcases h' with ⟨_, _, _, g4⟩ | ⟨g1, _⟩
   ·have := hh _ _ h4
    rw [g4] at this
    exact (Option.some.inj this).symm
   ·rw [h1] at g1; cases g1
  ·rcases h' with ⟨g1, _⟩ | ⟨g1, b', g2, g3⟩
   ·rw [h1] at g1; cases g1
   ·rw [h3, g3, hi _ _ _ (he _ _ h2) g2]
 ·rename_i n1 n2
  split at h'
  ·exact absurd rfl (n1 _ _ _)
  ·exact absurd rfl (n2 _)
  ·rw [h.2.2, h'.2.2]
theorem All2.fn {α β : Type} {R R' : α → β → Prop} (hr : ∀ a b b', R a b → R' a b' → b = b') : ∀ {l : List α} {m m' : List β}, All2 R l m → All2 R' l m' → m = m'
 | _, _, _, .nil, h => by cases h; rfl
 | _, _, _, .cons h1 h2, .cons g1 g2 => by rw [hr _ _ _ h1 g1, All2.fn hr h2 g2]
theorem CRf.fn {x y y' : Value} (h : CRf hd E x y) (h' : CRf hd' E' x y') (hh : Ext hd hd') (he : ∀ k b, E k b → E' k b) (hi : ∀ k b b', E' k b → E' k b' → b = b') : y = y' := by
 unfold CRf at h h'
 split at h
 ·simp only at h'
  obtain ⟨g, cs, h1, h2, h3, h4⟩ := h
  obtain ⟨g', cs', k1, k2, k3, k4⟩ := h'
  rw [h1] at k1
  obtain rfl := Fn.func.inj k1
  rw [h3, k3, All2.fn (fun a b b' x y => x.fn y hh he hi) h4 k4]
 ·rename_i n1
  split at h'
  ·exact absurd rfl (n1 _ _ _)
  ·exact h.fn h' hh he hi
theorem CR.fn {x y y' : Value} (h : CR hd E x y) (h' : CR hd' E' x y') (hh : Ext hd hd') (he : ∀ k b, E k b → E' k b) (hi : ∀ k b b', E' k b → E' k b' → b = b') : y = y' := by
 have agg : ∀ x y y', CRa hd E x y → CRa hd' E' x y' → y = y' := by
  intro x y y' h h'
  unfold CRa at h h'
  split at h
  ·simp only at h'
   obtain ⟨ys, rfl, h2⟩ := h
   obtain ⟨ys', rfl, k2⟩ := h'
   rw [All2.fn (fun a b b' x y => x.fn y hh he hi) h2 k2]
  ·rename_i n1
   split at h'
   ·exact absurd rfl (n1 _)
   ·exact h.fn h' hh he hi
 unfold CR at h h'
 split at h
 ·simp only at h'
  obtain ⟨ys, rfl, h2⟩ := h
  obtain ⟨ys', rfl, k2⟩ := h'
  rw [All2.fn agg h2 k2]
 ·rename_i n1
  split at h'
  ·exact absurd rfl (n1 _)
  ·exact agg _ _ _ h h'
end
section
variable {cx : Cx} {tb tb' : List (Te × Nat)} {hd : List Value} {E E' : Nat → Nat → Prop} {Z : Nat → Nat → Prop} {F : Nat → List Nat} {lo : List Nat} {I : Nat → Prop} {w : World}
theorem own_head {Z : Nat → Nat → Prop} {e : TypeId} {sub : List Shp} {es : List (List D)} {y : Value} {f : List Nat} (h : Rep w Z (.l 0 e sub) (.l es) y f) : f = [] ∨ ∃ b fs, f = b :: fs ∧ y.ownBlock = some b := by
 obtain ⟨_, fs, _, _, h3⟩ := h.owns
 rcases h3 with ⟨_, h4, _⟩ | ⟨b, h4, h5⟩
 ·exact .inl h4
 ·exact .inr ⟨b, fs, h5, h4⟩
theorem Tk.cut (h : Tk cx tb hd E Z F none lo I w) (hlen : tb'.length ≤ tb.length)
 (hc : ∀ (r : Nat) (t' : Te) (c' : Nat), tb'[r]? = some (t', c') → t' = .dead ∨ (∃ c, tb[r]? = some (t', c) ∧ ∀ (md : Nat) (t : TypeId) (cs cs' : List Value), t' = .pbx md t cs → All2 (CRf hd E) cs cs' → All2 (CRf (hd.take tb'.length) E') cs cs') ∨ ∃ (e : TypeId) (sub0 sub : List Shp) (es : List (List D)) (c : Nat), tb[r]? = some (.row 0 e sub0 es, c) ∧ t' = .row 0 e sub es ∧ Shp.les sub0 sub = true) :
 ∃ Z' F', Tk cx tb' (hd.take tb'.length) E' Z' F' none lo I w ∧ (∀ m k, Z m k → Z' m k) ∧ (∀ m k, Z' m k → Z m k ∨ ∃ r, k ∈ F r) := by
 -- each entry's blocks
 have hpick : ∀ r, ∃ g : List Nat, (∀ k ∈ g, k ∈ F r) ∧ g.Nodup ∧ (tb'.length ≤ r → g = []) ∧ (∀ k ∈ g, k ∈ (F r).tail → k ∈ g.tail) ∧ ∀ (t' : Te) (c' : Nat), tb'[r]? = some (t', c') →
  (t' = .dead → g = []) ∧ ((∃ c, tb[r]? = some (t', c)) → (∀ e sub es, t' ≠ .row 0 e sub es) → t' ≠ .dead → g = F r) ∧
  ∀ Z' : Nat → Nat → Prop, (∀ m k, Z m k → Z' m k) → (∀ m k, k ∈ F r → ¬ k ∈ g → Z' m k) → ∀ v e sub es, hd[r]? = some v → t' = .row 0 e sub es → Rep w Z' (.l 0 e sub) (.l es) v g := by
  intro r
  cases hr : tb'[r]? with
  | none =>
    exact ⟨[], fun _ h => (by cases h), .nil, fun _ => rfl, fun _ h => (by cases h), fun t' c' h => (by cases h)⟩
  | some x =>
    obtain ⟨t', c'⟩ := x
    have hlt := get_lt hr
    rcases hc r t' c' hr with rfl | ⟨c, h1, h2⟩ | ⟨e, sub0, sub, es, c, h1, rfl, h3⟩
    ·refine ⟨[], fun _ h => (by cases h), .nil, fun _ => rfl, fun _ h => (by cases h), fun t1 c1 h1 => ?_⟩
     obtain ⟨rfl, rfl⟩ := Prod.mk.inj (Option.some.inj h1)
     exact ⟨fun _ => rfl, fun _ _ hn => absurd rfl hn, fun _ _ _ v e sub es _ ht => by cases ht⟩
    ·refine ⟨F r, fun _ h => h, h.sp.fd r, fun hn => absurd hlt (Nat.not_lt.2 hn), fun _ _ h => h, fun t1 c1 h1' => ?_⟩
     obtain ⟨rfl, rfl⟩ := Prod.mk.inj (Option.some.inj h1')
     obtain ⟨v, g1, g2⟩ := h.te r _ _ h1
     refine ⟨fun hd' => ?_, fun _ _ _ => rfl, fun Z' hz _ v' e sub es hv ht => ?_⟩
     ·subst hd'; exact g2
     ·subst ht
      rw [g1] at hv
      obtain rfl := Option.some.inj hv
      exact Rep.kept (fun _ _ _ _ => rfl) hz g2 fun _ _ => rfl
    ·obtain ⟨v, g1, g2⟩ := h.te r _ _ h1
     have g2' : Rep w Z (.l 0 e sub0) (.l es) v (F r) := g2
     obtain ⟨f', hw⟩ := g2'.le (s' := .l 0 e sub) (by simp [Shp.le, mdLe, h3])
     have hn := h.sp.fd r
     refine ⟨f', hw.sub, hw.nd hn, fun hn => absurd hlt (Nat.not_lt.2 hn), fun k hk hkt => ?_, fun t1 c1 h1' => ?_⟩
     ·have hrep := hw.go hn (fun _ _ => True) (fun _ _ _ => trivial) (fun _ _ => trivial) (fun _ _ _ _ => trivial)
      rcases own_head hrep with e1 | ⟨b, fs, e1, e2⟩
      ·rw [e1] at hk; cases hk
      ·rcases own_head g2' with e3 | ⟨b', fs', e3, e4⟩
       ·rw [e3] at hkt; cases hkt
       ·rw [e2] at e4
        obtain rfl := Option.some.inj e4
        rw [e3] at hkt hn
        rw [e1] at hk ⊢
        rcases List.mem_cons.1 hk with rfl | hk
        ·exact absurd hkt (List.nodup_cons.1 hn).1
        ·exact hk
     ·obtain ⟨rfl, rfl⟩ := Prod.mk.inj (Option.some.inj h1')
      refine ⟨fun hd' => (by cases hd'), fun _ hnr => absurd rfl (hnr e sub es), fun Z' hz hz2 v' e' sub' es' hv ht => ?_⟩
      obtain ⟨_, rfl, rfl, rfl⟩ := Te.row.inj ht
      rw [g1] at hv
      obtain rfl := Option.some.inj hv
      exact hw.go hn Z' hz (fun k hk => hz 2 k (h.sp.z2 1 k hk)) (fun m k hk hk' => hz2 m k hk hk')
 let F' : Nat → List Nat := fun r => Classical.choose (hpick r)
 have hF' := fun r => Classical.choose_spec (hpick r)
 have hF1 : ∀ r k, k ∈ F' r → k ∈ F r := fun r => (hF' r).1
 refine ⟨fun m k => Z m k ∨ ∃ r, k ∈ F r ∧ ¬ k ∈ F' r, F', ⟨by simp [h.hl]; omega, fun r t' c' hr => ?_, fun r hr => (hF' r).2.2.1 hr, ⟨fun r => (hF' r).2.1, fun r r' k hk hk' => h.sp.fj r r' k (hF1 r k hk) (hF1 r' k hk'), h.sp.ln, fun r k hk hk' => h.sp.lf r k hk (hF1 r k hk'), fun k hk => ⟨(h.sp.il k hk).1, fun r hr => (h.sp.il k hk).2 r (hF1 r k hr)⟩, fun m k hk => ?_, fun m k hk => hk.imp (h.sp.z2 m k) id, fun r k hk => h.sp.fm r k (hF1 r k hk), h.sp.lm, h.sp.im⟩, h.n0, h.np⟩, fun m k hk => .inl hk, fun m k hk => hk.imp id fun ⟨r, h1, _⟩ => ⟨r, h1⟩⟩
 ·have hlt := get_lt hr
  obtain ⟨p1, p2, p3, p4, p5⟩ := hF' r
  obtain ⟨q1, q2, q3⟩ := p5 t' c' hr
  have hdr : ∀ v, hd[r]? = some v → (hd.take tb'.length)[r]? = some v := fun v hv => by rw [List.getElem?_take, if_pos hlt]; exact hv
  have hrt : r < hd.length := by rw [h.hl]; omega
  refine ⟨hd[r], hdr _ (List.getElem?_eq_getElem hrt), ?_⟩
  have hvr : hd[r]? = some hd[r] := List.getElem?_eq_getElem hrt
  have hrow : ∀ e sub es, t' = .row 0 e sub es → TeOk w (fun m k => Z m k ∨ ∃ r, k ∈ F r ∧ ¬ k ∈ F' r) (hd.take tb'.length) E' F' none lo r hd[r] t' := by
   intro e sub es ht
   have := q3 (fun m k => Z m k ∨ ∃ r, k ∈ F r ∧ ¬ k ∈ F' r) (fun _ _ h => .inl h) (fun m k h1 h2 => .inr ⟨r, h1, h2⟩) _ e sub es hvr ht
   subst ht
   exact this
  rcases hc r t' c' hr with rfl | ⟨c, h1, h2⟩ | ⟨e, sub0, sub, es, c, h1, rfl, h3⟩
  ·exact q1 rfl
  ·by_cases hrw : ∃ e sub es, t' = .row 0 e sub es
   ·obtain ⟨e, sub, es, ht⟩ := hrw
    exact hrow e sub es ht
   ·by_cases hde : t' = .dead
    ·subst hde; exact q1 rfl
    ·have hg : F' r = F r := q2 ⟨c, h1⟩ (fun e sub es ht => hrw ⟨e, sub, es, ht⟩) hde
     obtain ⟨v, g1, g2⟩ := h.te r _ _ h1
     rw [hvr] at g1
     obtain rfl := Option.some.inj g1
     cases t' with
     | row md e sub es =>
       show Rep w _ _ _ _ _
       rw [hg]
       exact Rep.kept (fun _ _ _ _ => rfl) (fun _ _ h => .inl h) g2 fun _ _ => rfl
     | view r0 pos e sub es =>
       refine ⟨hg.trans g2.1, Rep.kept (fun _ _ _ _ => rfl) (fun m k hk => ?_) g2.2 fun _ _ => rfl⟩
       rcases hk with hk | ⟨hp, hk⟩ | hk | ⟨hl, _⟩
       ·exact .inl (.inl hk)
       ·by_cases hm : k ∈ F' r0
        ·exact .inr (.inl ⟨hp, hm⟩)
        ·exact .inl (.inr ⟨r0, hk, hm⟩)
       ·by_cases hm : k ∈ F' r0
        ·exact .inr (.inr (.inl ((hF' r0).2.2.2.1 k hm hk)))
        ·exact .inl (.inr ⟨r0, List.mem_of_mem_tail hk, hm⟩)
       ·cases hl
     | pbx md t cs =>
       obtain ⟨cs', k1, k2⟩ := g2
       refine ⟨cs', h2 md t cs cs' rfl k1, ?_⟩
       rcases k2 with ⟨h0, b, k2, k3, k4⟩ | ⟨h0, p, k2, k3, k4⟩
       ·exact .inl ⟨h0, b, k2, hg.trans k3, k4⟩
       ·exact .inr ⟨h0, p, k2, hg.trans k3, k4.kept (fun _ _ _ => rfl) (fun _ h => .inl h)⟩
     | dead => exact absurd rfl hde
  ·exact hrow e sub es rfl
 ·rcases hk with hk | ⟨r, h1, h2⟩
  ·obtain ⟨a, b, c, d⟩ := h.sp.z m k hk
   exact ⟨a, b, c, fun q hq => d q (hF1 q k hq)⟩
  ·refine ⟨(h.sp.fm r k h1).1, fun hi => (h.sp.il k hi).2 r h1, fun hl => h.sp.lf r k hl h1, fun q hq => ?_⟩
   have := h.sp.fj r q k h1 (hF1 q k hq)
   subst this
   exact h2 hq
end
end Go.Dw
end
section
namespace Go.Dw
open Go Go.Cw
set_option linter.unusedVariables false
structure Mt (s s' : DS) : Prop where
 tb : ∃ l, s'.tb = s.tb ++ l
 ctr : s.ctr ≤ s'.ctr
 env : s'.env = s.env
 bx : s'.bx = s.bx
 pins : s'.pins = s.pins
theorem Mt.refl (s : DS) : Mt s s := ⟨⟨[], by simp⟩, Nat.le_refl _, rfl, rfl, rfl⟩
theorem Mt.trans {a b c : DS} (h : Mt a b) (k : Mt b c) : Mt a c :=
 ⟨let ⟨l, h1⟩ := h.tb; let ⟨m, h2⟩ := k.tb; ⟨l ++ m, by rw [h2, h1, List.append_assoc]⟩, Nat.le_trans h.ctr k.ctr, k.env.trans h.env, k.bx.trans h.bx, k.pins.trans h.pins⟩
theorem Mt.addT (s : DS) (t : Te) : Mt s (s.addT t) := ⟨⟨_, rfl⟩, Nat.le_succ _, rfl, rfl, rfl⟩
mutual
theorem mat_mt : ∀ (sh : Shp) (d : D) (s : DS) (v : Value) (s' : DS), mat sh d s = some (v, s') → Mt s s'
 | .v k, d, s, v, s', h => by
   simp only [mat] at h
   split at h
   ·split at h
    ·simp only [Option.some.injEq, Prod.mk.injEq] at h
     obtain ⟨_, rfl⟩ := h; exact Mt.refl _
    ·cases h
   ·cases h
 | .l md e sub, d, s, v, s', h => by
   simp only [mat] at h
   split at h
   ·simp only [Option.some.injEq, Prod.mk.injEq] at h
    obtain ⟨_, rfl⟩ := h; exact Mt.addT _ _
   ·cases h
 | .p md t sub, d, s, v, s', h => by
   simp only [mat] at h
   split at h
   ·split at h
    ·rename_i cs s1 hm
     simp only [Option.some.injEq, Prod.mk.injEq] at h
     obtain ⟨_, rfl⟩ := h; exact (mats_mt sub _ s _ _ hm).trans (Mt.addT _ _)
    ·cases h
   ·cases h
 | .f g sub, d, s, v, s', h => by
   simp only [mat] at h
   split at h
   ·split at h
    ·rename_i cs s1 hm
     split at h
     ·simp only [Option.some.injEq, Prod.mk.injEq] at h
      obtain ⟨_, rfl⟩ := h; exact mats_mt sub _ s _ _ hm
     ·cases h
    ·cases h
   ·cases h
theorem mats_mt : ∀ (sh : List Shp) (d : List D) (s : DS) (v : List Value) (s' : DS), mats sh d s = some (v, s') → Mt s s'
 | [], d, s, v, s', h => by
   simp only [mats] at h
   split at h
   ·simp only [Option.some.injEq, Prod.mk.injEq] at h
    obtain ⟨_, rfl⟩ := h; exact Mt.refl _
   ·cases h
 | t :: ts, d, s, v, s', h => by
   simp only [mats] at h
   split at h
   ·split at h
    ·rename_i v1 s1 h1
     split at h
     ·rename_i vs s2 h2
      simp only [Option.some.injEq, Prod.mk.injEq] at h
      obtain ⟨_, rfl⟩ := h
      exact (mat_mt t _ _ _ _ h1).trans (mats_mt ts _ _ _ _ h2)
     ·cases h
    ·cases h
   ·cases h
end
theorem dKeep_len (keep : List Nat) : ∀ (i : Nat) (l : List (Option DE)), (dKeep keep i l).length = l.length
 | _, [] => rfl
 | i, e :: r => by simp [dKeep, dKeep_len keep (i + 1) r]
theorem dKeep_get (keep : List Nat) : ∀ (i : Nat) (l : List (Option DE)) (t : Nat), (dKeep keep i l)[t]? = if keep.contains (i + t) then l[t]? else l[t]?.map fun _ => none
 | _, [], t => by simp [dKeep]
 | i, e :: r, 0 => by
   simp only [dKeep, List.getElem?_cons_zero, Nat.add_zero, Option.map_some]
   split <;> rfl
 | i, e :: r, t + 1 => by
   simp only [dKeep, List.getElem?_cons_succ]
   rw [dKeep_get keep (i + 1) r t, show i + 1 + t = i + (t + 1) by omega]
structure Tb (s s' : DS) : Prop where
 len : s'.tb.length = s.tb.length
 ctr : s.ctr ≤ s'.ctr
 env : s'.env = s.env
 bx : s'.bx = s.bx
 pins : s'.pins = s.pins
theorem deadAll_tb : ∀ (l : List Nat) (s : DS), Tb s (deadAll l s) ∧ (∀ r, ¬ r ∈ l → (deadAll l s).tb[r]? = s.tb[r]?) ∧ ∀ (r : Nat) (x : Te × Nat), (deadAll l s).tb[r]? = some x → r ∈ l → x.1 = .dead ∧ s.ctr ≤ x.2
 | [], s => ⟨⟨rfl, Nat.le_refl _, rfl, rfl, rfl⟩, fun _ _ => rfl, fun _ _ _ h => by cases h⟩
 | q :: l, s => by
   obtain ⟨h1, h2, h3⟩ := deadAll_tb l (s.setT q .dead)
   simp only [deadAll]
   refine ⟨⟨by rw [h1.len]; simp [DS.setT], Nat.le_trans (Nat.le_succ _) h1.ctr, h1.env, h1.bx, h1.pins⟩, fun r hr => ?_, fun r x hx hr => ?_⟩
   ·rw [h2 r fun hm => hr (List.mem_cons_of_mem _ hm)]
    simp only [DS.setT]
    rw [List.getElem?_set_ne fun h => hr (by rw [h]; exact List.mem_cons_self ..)]
   ·by_cases hm : r ∈ l
    ·obtain ⟨a, b⟩ := h3 r x hx hm
     exact ⟨a, Nat.le_trans (Nat.le_succ _) b⟩
    ·rcases List.mem_cons.1 hr with rfl | hr
     ·rw [h2 r hm] at hx
      simp only [DS.setT] at hx
      rcases set_get hx with ⟨_, hx, _⟩ | ⟨hn, _⟩
      ·rw [hx]; exact ⟨rfl, Nat.le_refl _⟩
      ·exact absurd rfl hn
     ·exact absurd hr hm
theorem instR_tb : ∀ (l : List (Nat × List Shp)) (c rest : List D) (s : DS) (ds' : List D) (s' : DS), instR l (c ++ rest) s = some (ds', s') → c.length = l.length → (l.map (·.1)).Nodup →
 ds' = rest ∧ Tb s s' ∧ (∀ r, ¬ r ∈ l.map (·.1) → s'.tb[r]? = s.tb[r]?) ∧ ∀ (i r : Nat) (sub : List Shp), l[i]? = some (r, sub) → ∃ es e sub0 es0 v, c[i]? = some (.l es) ∧ s.tbAt r = .row 0 e sub0 es0 ∧ s'.tb[r]? = some (.row 0 e sub es, v) ∧ s.ctr ≤ v
 | [], c, rest, s, ds', s', h, hl, _ => by
   obtain rfl : c = [] := List.eq_nil_of_length_eq_zero hl
   simp only [instR, List.nil_append, Option.some.injEq, Prod.mk.injEq] at h
   obtain ⟨rfl, rfl⟩ := h
   exact ⟨rfl, ⟨rfl, Nat.le_refl _, rfl, rfl, rfl⟩, fun _ _ => rfl, fun i r sub h => by simp at h⟩
 | (q, sub) :: l, [], rest, s, ds', s', h, hl, _ => by simp at hl
 | (q, sub) :: l, d :: c, rest, s, ds', s', h, hl, hn => by
   simp only [List.cons_append, instR] at h
   split at h
   ·rename_i es ds hds
    obtain ⟨rfl, rfl⟩ := List.cons.inj hds
    split at h
    ·rename_i e sub0 es0 htb
     simp only [List.map_cons, List.nodup_cons] at hn
     obtain ⟨h1, h2, h3, h4⟩ := instR_tb l c rest _ ds' s' h (by simpa using hl) hn.2
     obtain ⟨cc, hrow⟩ := tbAt_some htb (by simp)
     have hq : s'.tb[q]? = some (.row 0 e sub es, s.ctr) := by
      rw [h3 q hn.1]
      simp only [DS.setT]
      rw [List.getElem?_set_self (get_lt hrow)]
     refine ⟨h1, ⟨by rw [h2.len]; simp [DS.setT], Nat.le_trans (Nat.le_succ _) h2.ctr, h2.env, h2.bx, h2.pins⟩, fun r hr => ?_, fun i r sub' hi => ?_⟩
     ·simp only [List.map_cons, List.mem_cons, not_or] at hr
      rw [h3 r hr.2]
      simp only [DS.setT]
      rw [List.getElem?_set_ne (Ne.symm hr.1)]
     ·cases i with
      | zero =>
        simp only [List.getElem?_cons_zero, Option.some.injEq, Prod.mk.injEq] at hi
        obtain ⟨rfl, rfl⟩ := hi
        exact ⟨es, e, sub0, es0, s.ctr, rfl, htb, hq, Nat.le_refl _⟩
      | succ i =>
        obtain ⟨es', e', sub0', es0', v, g1, g2, g3, g4⟩ := h4 i r sub' (by simpa using hi)
        have hrq : q ≠ r := fun e0 => hn.1 (by rw [e0]; exact List.mem_map.2 ⟨(r, sub'), List.mem_of_getElem? (by simpa using hi), rfl⟩)
        refine ⟨es', e', sub0', es0', v, by simpa using g1, ?_, g3, Nat.le_trans (Nat.le_succ _) g4⟩
        unfold DS.tbAt at g2 ⊢
        simp only [DS.setT] at g2
        rw [List.getElem?_set_ne hrq] at g2
        exact g2
    ·cases h
   ·cases h
def Slo (l : List (Nat × Shp)) (c : Nat) (env env' : List (Option DE)) : Prop :=
 env'.length = env.length ∧ ∀ t : Nat, (¬ t ∈ l.map (·.1) → env'[t]? = env[t]?) ∧ ∀ e, t ∈ l.map (·.1) → env'[t]? = some (some e) → c ≤ e.vr
theorem instS_mt : ∀ (l : List (Nat × Shp)) (ds : List D) (s : DS) (ds' : List D) (s' : DS), instS l ds s = some (ds', s') → (∃ k, s'.tb = s.tb ++ k) ∧ s.ctr ≤ s'.ctr ∧ s'.bx = s.bx ∧ s'.pins = s.pins ∧ Slo l s.ctr s.env s'.env
 | [], ds, s, ds', s', h => by
   simp only [instS, Option.some.injEq, Prod.mk.injEq] at h
   obtain ⟨rfl, rfl⟩ := h
   exact ⟨⟨[], by simp⟩, Nat.le_refl _, rfl, rfl, rfl, fun t => ⟨fun _ => rfl, fun e h => by cases h⟩⟩
 | (q, sh) :: l, ds, s, ds', s', h => by
   simp only [instS] at h
   split at h
   ·split at h
    ·rename_i v s1 hm
     obtain ⟨⟨k1, m1⟩, m2, m3, m4, m5⟩ := mat_mt sh _ _ _ _ hm
     obtain ⟨⟨k2, n1⟩, n2, n3, n4, n5, n6⟩ := instS_mt l _ _ _ _ h
     refine ⟨⟨k1 ++ k2, by rw [n1]; simp only; rw [m1, List.append_assoc]⟩, Nat.le_trans m2 n2, n3.trans m4, n4.trans m5, by rw [n5]; simp [m3], fun t => ⟨fun ht => ?_, fun e ht he => ?_⟩⟩
     ·simp only [List.map_cons, List.mem_cons, not_or] at ht
      rw [(n6 t).1 ht.2]
      simp only
      rw [List.getElem?_set_ne (Ne.symm ht.1), m3]
     ·by_cases hm : t ∈ l.map (·.1)
      ·exact Nat.le_trans m2 ((n6 t).2 e hm he)
      ·rw [(n6 t).1 hm] at he
       simp only at he
       rcases set_get he with ⟨_, he, _⟩ | ⟨hne, _⟩
       ·obtain rfl := Option.some.inj he; exact m2
       ·simp only [List.map_cons, List.mem_cons] at ht
        rcases ht with ht | ht
        ·exact absurd ht hne
        ·exact absurd ht hm
    ·cases h
   ·cases h
def Cel (l : List (Nat × Nat × Shp)) (c : Nat) (bx bx' : List DB) : Prop :=
 bx'.length = bx.length ∧ ∀ (k : Nat) (b : DB), bx[k]? = some b → ∃ b', bx'[k]? = some b' ∧ b'.ty = b.ty ∧ b'.cs.length = b.cs.length ∧ ∀ (j : Nat) (x : Value × Nat), b'.cs[j]? = some x → ((∃ y ∈ l, y.1 = k ∧ y.2.1 = j) ∧ c ≤ x.2) ∨ b.cs[j]? = some x
theorem instC_mt : ∀ (l : List (Nat × Nat × Shp)) (ds : List D) (s : DS) (ds' : List D) (s' : DS), instC l ds s = some (ds', s') → (∃ k, s'.tb = s.tb ++ k) ∧ s.ctr ≤ s'.ctr ∧ s'.env = s.env ∧ s'.pins = s.pins ∧ Cel l s.ctr s.bx s'.bx
 | [], ds, s, ds', s', h => by
   simp only [instC, Option.some.injEq, Prod.mk.injEq] at h
   obtain ⟨rfl, rfl⟩ := h
   exact ⟨⟨[], by simp⟩, Nat.le_refl _, rfl, rfl, rfl, fun k b hb => ⟨b, hb, rfl, rfl, fun _ _ h => .inr h⟩⟩
 | (q, p, sh) :: l, ds, s, ds', s', h => by
   simp only [instC] at h
   split at h
   ·split at h
    ·rename_i v s1 hm
     obtain ⟨⟨k1, m1⟩, m2, m3, m4, m5⟩ := mat_mt sh _ _ _ _ hm
     obtain ⟨⟨k2, n1⟩, n2, n3, n4, n5, n6⟩ := instC_mt l _ _ _ _ h
     refine ⟨⟨k1 ++ k2, by rw [n1]; simp only; rw [m1, List.append_assoc]⟩, Nat.le_trans m2 n2, n3.trans m3, n4.trans m5, by rw [n5]; simp [m4], fun k b hb => ?_⟩
     have hb' : (s1.bx.modify q fun b => { b with cs := b.cs.set p (v, s1.ctr) })[k]? = some (if q = k then { b with cs := b.cs.set p (v, s1.ctr) } else b) := by
      rw [List.getElem?_modify, m4, hb]
      by_cases hqk : q = k <;> simp [hqk]
     obtain ⟨b', g1, g2, g3, g4⟩ := n6 k _ hb'
     refine ⟨b', g1, by rw [g2]; split <;> rfl, by rw [g3]; split <;> simp, fun j x hx => ?_⟩
     rcases g4 j x hx with ⟨⟨y, y1, y2⟩, y3⟩ | hx
     ·exact .inl ⟨⟨y, List.mem_cons_of_mem _ y1, y2⟩, Nat.le_trans m2 y3⟩
     ·split at hx
      ·rename_i hqk
       simp only at hx
       rcases set_get hx with ⟨rfl, hx, _⟩ | ⟨_, hx⟩
       ·exact .inl ⟨⟨_, List.mem_cons_self .., hqk, rfl⟩, by rw [hx]; exact m2⟩
       ·exact .inr hx
      ·exact .inr hx
    ·cases h
   ·cases h
theorem instP_mt : ∀ (l : List (Nat × TypeId × List Shp)) (ds : List D) (s : DS) (ds' : List D) (s' : DS), instP l ds s = some (ds', s') → s.tb.length ≤ s'.tb.length ∧ s.ctr ≤ s'.ctr ∧ s'.env = s.env ∧ s'.bx = s.bx ∧ s'.pins = s.pins ∧ ∀ (r : Nat) (x : Te × Nat), r < s.tb.length → s'.tb[r]? = some x → s.tb[r]? = some x ∨ (r ∈ l.map (·.1) ∧ s.ctr ≤ x.2)
 | [], ds, s, ds', s', h => by
   simp only [instP, Option.some.injEq, Prod.mk.injEq] at h
   obtain ⟨rfl, rfl⟩ := h
   exact ⟨Nat.le_refl _, Nat.le_refl _, rfl, rfl, rfl, fun _ _ _ h => .inl h⟩
 | (q, t, sub) :: l, ds, s, ds', s', h => by
   simp only [instP] at h
   split at h
   ·split at h
    ·rename_i vs s1 hm
     obtain ⟨⟨k1, m1⟩, m2, m3, m4, m5⟩ := mats_mt sub _ _ _ _ hm
     split at h
     ·obtain ⟨n1, n2, n3, n4, n5, n6⟩ := instP_mt l _ _ _ _ h
      have hl1 : s.tb.length ≤ s1.tb.length := by rw [m1]; simp
      have hl : (s1.setT q (.pbx 0 t vs)).tb.length = s1.tb.length := by simp [DS.setT]
      have hc : s1.ctr ≤ (s1.setT q (.pbx 0 t vs)).ctr := Nat.le_succ _
      refine ⟨by omega, by omega, n3.trans m3, n4.trans m4, n5.trans m5, fun r x hr hx => ?_⟩
      rcases n6 r x (by omega) hx with h1 | ⟨h1, h2⟩
      ·simp only [DS.setT] at h1
       rcases set_get h1 with ⟨rfl, h1, _⟩ | ⟨_, h1⟩
       ·refine .inr ⟨List.mem_cons_self .., ?_⟩
        rw [h1]; exact m2
       ·rw [m1, List.getElem?_append_left hr] at h1
        exact .inl h1
      ·exact .inr ⟨List.mem_cons_of_mem _ h1, by omega⟩
     ·cases h
    ·cases h
   ·cases h
theorem inst_parts {s s' : DS} {h : DHn} {ds : List D} (hi : s.inst h ds = some s') : ∃ ds1 sB ds2 sC ds3 sD sE, instR h.rows ds (deadAll h.dead { s with env := dKeep h.keep 0 s.env, ctr := s.ctr + 1, pins := [] }) = some (ds1, sB) ∧ instS h.slots ds1 sB = some (ds2, sC) ∧ instC h.cells ds2 sC = some (ds3, sD) ∧ instP h.pbs ds3 sD = some ([], sE) ∧ s' = { sE with ctr := sE.ctr + 1 } ∧ ∀ x ∈ h.pbs, x.1 < s.tb.length := by
 unfold DS.inst at hi
 simp only at hi
 split at hi
 ·rename_i ds1 sB h1
  split at hi
  ·rename_i ds2 sC h2
   split at hi
   ·rename_i ds3 sD h3
    split at hi
    ·rename_i hpl
     split at hi
     ·rename_i sE h4
      exact ⟨ds1, sB, ds2, sC, ds3, sD, sE, h1, h2, h3, h4, (Option.some.inj hi).symm, fun x hx => by simpa using List.all_eq_true.1 hpl x hx⟩
     ·cases hi
    ·cases hi
   ·cases hi
  ·cases hi
 ·cases hi
end Go.Dw
end
section
namespace Go.Dw
open Go Go.Cw
set_option linter.unusedVariables false
section
variable {dcx : Dcx} {cx : Cx} {s s' s0 s1 : DS} {hd hd0 : List Value} {Z0 Z : Nat → Nat → Prop} {F : Nat → List Nat} {st st0 : St} {w wa : World} {a : Act}
def BxA (st st' : St) : Prop := ∀ (k : Nat) (b : Bx), st.bx[k]? = some b → ∃ b', st'.bx[k]? = some b' ∧ b'.id = b.id ∧ (b.esc = true → b'.esc = true)
theorem BxA.E {st st' : St} (h : BxA st st') {k b : Nat} (he : BxE st k b) : BxE st' k b :=
 let ⟨x, h1, h2, h3⟩ := he; let ⟨y, k1, k2, k3⟩ := h k x h1; ⟨y, k1, k2.trans h2, k3 h3⟩
theorem BxE.fn {k b b' : Nat} (h : BxE st k b) (h' : BxE st k b') : b = b' := by
 obtain ⟨x, h1, rfl, _⟩ := h
 obtain ⟨y, k1, rfl, _⟩ := h'
 rw [h1] at k1
 rw [Option.some.inj k1]
def markAll (st : St) : St := { st with bx := st.bx.map Bx.mark }
theorem markAll_like (st : St) : Like st (markAll st) := ⟨rfl, rfl, rfl, rfl, by simp [SameBx, markAll, Bx.mark, Function.comp_def]⟩
theorem markAll_bxa (st : St) : BxA st (markAll st) := fun k b h => ⟨b.mark, by simp [markAll, h], rfl, fun _ => rfl⟩
theorem markAll_esc (st : St) : ∀ b ∈ (markAll st).bx, b.esc = true := fun b hb => by
 obtain ⟨x, _, rfl⟩ := List.mem_map.1 hb
 rfl
theorem rest_ok (h : Lk cx Z0 s hd Z F st w) (hR : RelO cx st a w wa) : Lk cx Z0 s hd Z F (markAll st.clean) wa ∧ RelO cx (markAll st.clean) a wa wa := by
 have hRc : RelO cx st.clean a wa wa := ⟨hR.size, hR.env, clean_wok hR.wok, hR.defers, hR.versB⟩
 have hl : Lk cx Z0 s hd Z F st.clean wa := by
  have hh := hR.wok.here
  split at hh
  ·exact (h.world hh hR.wok.fr).clean
  ·subst hh; exact h.clean
 exact ⟨hl.like (markAll_like _) fun k b => (markAll_bxa _).E, hRc.like (markAll_like _)⟩
theorem CR.flat {E : Nat → Nat → Prop} {x y : Value} (h : CR hd E x y) (h1 : ∀ xs, x ≠ .agg xs) (h2 : ∀ xs, x ≠ .tuple xs) : CRf hd E x y := by
 cases x <;> first | exact h | exact absurd rfl (h1 _) | exact absurd rfl (h2 _)
theorem take_flat {lt : Option Nat} {sh : Shp} {v : Value} {s s' : DS} {d : D} (h : take lt sh v s = some (d, s')) : (∀ xs, v ≠ .agg xs) ∧ ∀ xs, v ≠ .tuple xs := by
 constructor <;> (rintro xs rfl; cases sh <;> simp [take] at h)
 all_goals (rename_i k; cases k <;> simp [flatK, Ck.fits] at h)
theorem takes_app {lt : Option Nat} : ∀ (a b : List Shp) (va vb : List Value) (s s1 s2 : DS) (da db : List D), takes lt a va s = some (da, s1) → takes lt b vb s1 = some (db, s2) → takes lt (a ++ b) (va ++ vb) s = some (da ++ db, s2)
 | [], b, va, vb, s, s1, s2, da, db, h1, h2 => by
   simp only [takes] at h1
   split at h1
   ·simp only [Option.some.injEq, Prod.mk.injEq] at h1
    obtain ⟨rfl, rfl⟩ := h1
    exact h2
   ·cases h1
 | t :: ts, b, va, vb, s, s1, s2, da, db, h1, h2 => by
   simp only [takes] at h1
   split at h1
   ·rename_i v vs
    split at h1
    ·rename_i d s3 h3
     split at h1
     ·rename_i ds s4 h4
      simp only [Option.some.injEq, Prod.mk.injEq] at h1
      obtain ⟨rfl, rfl⟩ := h1
      have := takes_app ts b vs vb s3 s4 s2 ds db h4 h2
      simp only [List.cons_append, takes, h3, this]
     ·cases h1
    ·cases h1
   ·cases h1
theorem packS_ok (h : Lk cx Z0 s hd Z F st w) (he : ∀ b ∈ st.bx, b.esc = true) : ∀ (l : List (Nat × Shp)) (s1 : DS) (ds : List D) (s2 : DS), packS s l s1 = some (ds, s2) → ∃ vs ys, takes none (l.map (·.2)) vs s1 = some (ds, s2) ∧ All2 (CRf hd (BxE st)) vs ys ∧ All2 (fun (x : Nat × Shp) y => ∃ e', st.env[x.1]? = some (some e') ∧ y = st.den e'.cv) l ys
 | [], s1, ds, s2, hp => by
   simp only [packS, Option.some.injEq, Prod.mk.injEq] at hp
   obtain ⟨rfl, rfl⟩ := hp
   exact ⟨[], [], rfl, .nil, .nil⟩
 | (t, sh) :: l, s1, ds, s2, hp => by
   simp only [packS] at hp
   split at hp
   ·rename_i cv vr hen
    split at hp
    ·rename_i v hv
     split at hp
     ·rename_i d s3 h3
      split at hp
      ·rename_i ds' s4 h4
       simp only [Option.some.injEq, Prod.mk.injEq] at hp
       obtain ⟨rfl, rfl⟩ := hp
       obtain ⟨vs, ys, k1, k2, k3⟩ := packS_ok h he l s3 ds' s4 h4
       obtain ⟨e', g1, g2, g3⟩ := h.ek.env t _ hen
       obtain ⟨f1, f2⟩ := take_flat h3
       refine ⟨v :: vs, st.den e'.cv :: ys, by simp only [List.map_cons, takes, h3, k1], .cons ?_ k2, .cons ⟨e', g1, rfl⟩ k3⟩
       cases cv with
       | v x =>
         obtain rfl := Option.some.inj hv
         obtain ⟨y, c1, c2⟩ := g3
         have : st.den e'.cv = y := by rcases c2 with c2 | ⟨c2, _⟩ <;> (rw [c2]; rfl)
         rw [this]
         exact c1.flat f1 f2
       | bp k off =>
         obtain rfl := Option.some.inj hv
         obtain ⟨c1, c2⟩ := g3
         rw [c1]
         refine .inr ⟨by simp [evenB], st.idAt k, ?_, rfl⟩
         show BxE st ((2 * k + 1) / 2) _
         rw [show (2 * k + 1) / 2 = k by omega]
         exact ⟨st.bx[k], List.getElem?_eq_getElem c2, (idAt_get (List.getElem?_eq_getElem c2)).symm, he _ (List.getElem_mem c2)⟩
       | er r i sz off =>
         simp only [DC.val] at hv
         split at hv
         ·rename_i hc
          obtain ⟨rfl, rfl, rfl⟩ := hc
          obtain rfl := Option.some.inj hv
          obtain ⟨u, hu, c1, hz⟩ := g3
          rw [c1]
          exact er_val hu (hz rfl)
         ·cases hv
      ·cases hp
     ·cases hp
    ·cases hp
   ·cases hp
theorem packC_ok (h : Lk cx Z0 s hd Z F st w) : ∀ (l : List (Nat × Nat × Shp)) (s1 : DS) (ds : List D) (s2 : DS), packC s l s1 = some (ds, s2) → ∃ vs ys, takes none (l.map (·.2.2)) vs s1 = some (ds, s2) ∧ All2 (CRf hd (BxE st)) vs ys ∧ All2 (fun (x : Nat × Nat × Shp) y => ∃ b' c, st.bx[x.1]? = some b' ∧ b'.cs[x.2.1]? = some c ∧ c.1 = y) l ys
 | [], s1, ds, s2, hp => by
   simp only [packC, Option.some.injEq, Prod.mk.injEq] at hp
   obtain ⟨rfl, rfl⟩ := hp
   exact ⟨[], [], rfl, .nil, .nil⟩
 | (k, j, sh) :: l, s1, ds, s2, hp => by
   simp only [packC] at hp
   split at hp
   ·rename_i v vr hen
    split at hp
    ·rename_i d s3 h3
     split at hp
     ·rename_i ds' s4 h4
      simp only [Option.some.injEq, Prod.mk.injEq] at hp
      obtain ⟨rfl, rfl⟩ := hp
      obtain ⟨vs, ys, k1, k2, k3⟩ := packC_ok h l s3 ds' s4 h4
      cases hb : s.bx[k]? with
      | none => rw [hb] at hen; cases hen
      | some b =>
        rw [hb] at hen
        simp only [Option.bind_some] at hen
        obtain ⟨b', g1, g2, g3⟩ := h.ek.bx k b hb
        have hcs := g3 (by intro e0; rw [e0] at hen; cases hen)
        obtain ⟨y, c1, c2⟩ := hcs.get (i := j) (a := v) (by rw [List.getElem?_map, hen]; rfl)
        rw [List.getElem?_map] at c1
        cases hc : b'.cs[j]? with
        | none => rw [hc] at c1; cases c1
        | some c =>
          rw [hc] at c1
          obtain rfl := Option.some.inj c1
          exact ⟨v :: vs, c.1 :: ys, by simp only [List.map_cons, takes, h3, k1], .cons c2 k2, .cons ⟨b', c, g1, hc, rfl⟩ k3⟩
     ·cases hp
    ·cases hp
   ·cases hp
theorem packC_len : ∀ (l : List (Nat × Nat × Shp)) (s1 : DS) (ds : List D) (s2 : DS), packC s l s1 = some (ds, s2) → ds.length = (l.map (·.2.2)).length
 | [], s1, ds, s2, hp => by
   simp only [packC, Option.some.injEq, Prod.mk.injEq] at hp
   obtain ⟨rfl, rfl⟩ := hp
   rfl
 | (k, j, sh) :: l, s1, ds, s2, hp => by
   simp only [packC] at hp
   split at hp
   ·split at hp
    ·split at hp
     ·rename_i ds' s4 h4
      simp only [Option.some.injEq, Prod.mk.injEq] at hp
      obtain ⟨rfl, rfl⟩ := hp
      have := packC_len l _ _ _ h4
      simp [this]
     ·cases hp
    ·cases hp
   ·cases hp
theorem packR_ok : ∀ (l : List (Nat × List Shp)) (s : DS) (c : List D), packR s1 l s = some c → All2 (fun (x : Nat × List Shp) d => ∃ es e sub' sub0 es0, d = D.l es ∧ s.tbAt x.1 = .row 0 e sub' es ∧ s1.tbAt x.1 = .row 0 e sub0 es0 ∧ Shp.les sub' x.2 = true) l c
 | [], s, c, h => by
   simp only [packR, Option.some.injEq] at h
   subst h; exact .nil
 | (r, sub) :: l, s, c, h => by
   simp only [packR] at h
   split at h
   ·rename_i e0 sub0 es0 e sub' es h1 h2
    split at h
    ·rename_i hc
     obtain ⟨rfl, hc⟩ := hc
     split at h
     ·rename_i ds hds
      simp only [Option.some.injEq] at h
      subst h
      exact .cons ⟨es, e0, sub', sub0, es0, rfl, h2, h1, hc⟩ (packR_ok l s ds hds)
     ·cases h
    ·cases h
   ·cases h
theorem Reps.cons_inv {Z : Nat → Nat → Prop} {t : Shp} {b : List Shp} {d : List D} {y : List Value} {f : List Nat} (h : Reps w Z (t :: b) d y f) : ∃ d0 dl y0 yl f0 fs, d = d0 :: dl ∧ y = y0 :: yl ∧ f = f0 ++ fs ∧ Rep w Z t d0 y0 f0 ∧ Reps w Z b dl yl fs := by
 cases h with
 | cons h1 h2 => exact ⟨_, _, _, _, _, _, rfl, rfl, rfl, h1, h2⟩
theorem Reps.app {Z : Nat → Nat → Prop} : ∀ {a b : List Shp} {d : List D} {y : List Value} {f : List Nat}, Reps w Z (a ++ b) d y f → ∃ da db ya yb fa fb, d = da ++ db ∧ y = ya ++ yb ∧ f = fa ++ fb ∧ Reps w Z a da ya fa ∧ Reps w Z b db yb fb
 | [], b, d, y, f, h => ⟨[], d, [], y, [], f, rfl, rfl, rfl, .nil, h⟩
 | t :: ts, b, _, _, _, .cons (f := f0) h1 h2 => by
   obtain ⟨da, db, ya, yb, fa, fb, rfl, rfl, rfl, k1, k2⟩ := Reps.app h2
   exact ⟨_ :: da, db, _ :: ya, yb, f0 ++ fa, fb, rfl, rfl, (List.append_assoc ..).symm, .cons h1 k1, k2⟩
def setS : List (Nat × Shp) → List Value → List (Option En) → List (Option En)
 | (t, _) :: l, y :: ys, env => setS l ys (env.set t (some ⟨.v y, [], 0⟩))
 | _, _, env => env
theorem setS_len : ∀ (l : List (Nat × Shp)) (ys : List Value) (env : List (Option En)), (setS l ys env).length = env.length
 | [], _, _ => by simp [setS]
 | _ :: _, [], _ => by simp [setS]
 | (t, _) :: l, y :: ys, env => by simp [setS, setS_len l ys]
theorem setS_get : ∀ (l : List (Nat × Shp)) (ys : List Value) (env : List (Option En)) (t : Nat) (e : En), (setS l ys env)[t]? = some (some e) → env[t]? = some (some e) ∨ ∃ (i : Nat) (sh : Shp) (y : Value), l[i]? = some (t, sh) ∧ ys[i]? = some y ∧ e = ⟨.v y, [], 0⟩
 | [], _, _, _, _, h => .inl (by simpa [setS] using h)
 | _ :: _, [], _, _, _, h => .inl (by simpa [setS] using h)
 | (q, sh) :: l, y :: ys, env, t, e, h => by
   simp only [setS] at h
   rcases setS_get l ys _ t e h with h | ⟨i, sh', y', h1, h2, h3⟩
   ·rcases set_get h with ⟨rfl, h, _⟩ | ⟨_, h⟩
    ·exact .inr ⟨0, sh, y, rfl, rfl, Option.some.inj h⟩
    ·exact .inl h
   ·exact .inr ⟨i + 1, sh', y', by simpa using h1, by simpa using h2, h3⟩
def EnvR (hd : List Value) (st : St) (env : List (Option DE)) (env' : List (Option En)) : Prop :=
 env'.length = env.length ∧ ∀ (t : Nat) (e : DE), env[t]? = some (some e) → ∃ e', env'[t]? = some (some e') ∧ e'.tg = e.tg ∧ CvR hd st e.cv e'.cv
theorem EnvR.mono {hd' : List Value} {env : List (Option DE)} {env' : List (Option En)} (h : EnvR hd st env env') (hh : Ext hd hd') : EnvR hd' st env env' :=
 ⟨h.1, fun t e he => let ⟨e', h1, h2, h3⟩ := h.2 t e he; ⟨e', h1, h2, h3.mono hh (fun _ _ h => h) (Nat.le_refl _)⟩⟩
theorem EnvR.set {env : List (Option DE)} {env' : List (Option En)} (h : EnvR hd st env env') {t : Nat} {v y : Value} {c : Nat} (hv : CRf hd (BxE st) v y) : EnvR hd st (env.set t (some ⟨.v v, [], c⟩)) (env'.set t (some ⟨.v y, [], 0⟩)) := by
 refine ⟨by simp [h.1], fun q e he => ?_⟩
 rcases set_get he with ⟨rfl, he, hlt⟩ | ⟨hn, he⟩
 ·obtain rfl := Option.some.inj he
  refine ⟨⟨.v y, [], 0⟩, by rw [List.getElem?_set_self (by rw [h.1]; exact hlt)], rfl, y, ?_, .inl rfl⟩
  cases v <;> first | exact hv | (have := hv.1; simp [constV] at this; done) | exact absurd rfl (hv.2.1 _)
 ·obtain ⟨e', h1, h2⟩ := h.2 q e he
  exact ⟨e', by rw [List.getElem?_set_ne (Ne.symm hn)]; exact h1, h2⟩
theorem instS_ok {E : Nat → Nat → Prop} {I : Nat → Prop} {Z : Nat → Nat → Prop} (hE : E = BxE st) : ∀ (l : List (Nat × Shp)) (dl rest : List D) (yl : List Value) (f lo : List Nat) (s s' : DS) (ds' : List D) (hd : List Value) (F : Nat → List Nat) (env' : List (Option En)), instS l (dl ++ rest) s = some (ds', s') → Tk cx s.tb hd E Z F none (f ++ lo) I w → Reps w Z (l.map (·.2)) dl yl f → EnvR hd st s.env env' →
 ds' = rest ∧ ∃ hd' F', Tk cx s'.tb hd' E Z F' none lo I w ∧ Ext hd hd' ∧ EnvR hd' st s'.env (setS l yl env')
 | [], dl, rest, yl, f, lo, s, s', ds', hd, F, env', h, ht, hr, he => by
   cases hr
   simp only [instS, List.nil_append, Option.some.injEq, Prod.mk.injEq] at h
   obtain ⟨rfl, rfl⟩ := h
   exact ⟨rfl, hd, F, ht, Ext.refl _, by simpa [setS] using he⟩
 | (t, sh) :: l, dl, rest, yl, f, lo, s, s', ds', hd, F, env', h, ht, hr, he => by
   simp only [List.map_cons] at hr
   obtain ⟨d0, dl, y0, yl, f0, fs, rfl, rfl, rfl, h1, h2⟩ := hr.cons_inv
   simp only [List.cons_append, instS] at h
   split at h
   ·rename_i v s1 hm
    rw [List.append_assoc] at ht
    obtain ⟨hd1, F1, k1, k2, k3, k4, k5⟩ := mat_ok sh _ s hd F (fs ++ lo) _ v f0 s1 ht h1 hm
    have he1 : EnvR hd1 st (s1.env.set t (some ⟨.v v, [], s1.ctr⟩)) (env'.set t (some ⟨.v y0, [], 0⟩)) := by
     rw [k3.env]
     exact (he.mono k2).set (hE ▸ k5)
    obtain ⟨g1, hd2, F2, g2, g3, g4⟩ := instS_ok hE l _ rest _ fs lo _ s' ds' hd1 F1 _ h k1 h2 he1
    exact ⟨g1, hd2, F2, g2, k2.trans g3, g4⟩
   ·cases h
def BoxP (hd : List Value) (st : St) (pend : List (Nat × Nat × Shp)) (bx : List DB) : Prop :=
 bx.length = st.bx.length ∧ ∀ (k : Nat) (b : DB), bx[k]? = some b → ∃ b', st.bx[k]? = some b' ∧ b'.ty = b.ty ∧ b.cs.length = b'.cs.length ∧ ∀ (j : Nat) (x : Value × Nat), b.cs[j]? = some x → (∃ y ∈ pend, y.1 = k ∧ y.2.1 = j) ∨ ∃ c, b'.cs[j]? = some c ∧ CRf hd (BxE st) x.1 c.1
theorem BoxP.mono {hd' : List Value} {pend : List (Nat × Nat × Shp)} {bx : List DB} (h : BoxP hd st pend bx) (hh : Ext hd hd') : BoxP hd' st pend bx :=
 ⟨h.1, fun k b hb => let ⟨b', h1, h2, h3, h4⟩ := h.2 k b hb; ⟨b', h1, h2, h3, fun j x hx => (h4 j x hx).imp id fun ⟨c, c1, c2⟩ => ⟨c, c1, c2.mono hh fun _ _ h => h⟩⟩⟩
theorem instC_ok {E : Nat → Nat → Prop} {I : Nat → Prop} {Z : Nat → Nat → Prop} (hE : E = BxE st) : ∀ (l : List (Nat × Nat × Shp)) (dl rest : List D) (yl : List Value) (f lo : List Nat) (s s' : DS) (ds' : List D) (hd : List Value) (F : Nat → List Nat), instC l (dl ++ rest) s = some (ds', s') → Tk cx s.tb hd E Z F none (f ++ lo) I w → Reps w Z (l.map (·.2.2)) dl yl f → All2 (fun (x : Nat × Nat × Shp) y => ∀ b', st.bx[x.1]? = some b' → ∃ c, b'.cs[x.2.1]? = some c ∧ c.1 = y) l yl → BoxP hd st l s.bx →
 ds' = rest ∧ ∃ hd' F', Tk cx s'.tb hd' E Z F' none lo I w ∧ Ext hd hd' ∧ BoxP hd' st [] s'.bx
 | [], dl, rest, yl, f, lo, s, s', ds', hd, F, h, ht, hr, hy, he => by
   cases hr
   simp only [instC, List.nil_append, Option.some.injEq, Prod.mk.injEq] at h
   obtain ⟨rfl, rfl⟩ := h
   exact ⟨rfl, hd, F, ht, Ext.refl _, he⟩
 | (q, p, sh) :: l, dl, rest, yl, f, lo, s, s', ds', hd, F, h, ht, hr, hy, he => by
   simp only [List.map_cons] at hr
   obtain ⟨d0, dl, y0, yl, f0, fs, rfl, rfl, rfl, h1, h2⟩ := hr.cons_inv
   obtain ⟨hqf, hy⟩ : (∀ b', st.bx[q]? = some b' → ∃ c, b'.cs[p]? = some c ∧ c.1 = y0) ∧ All2 (fun (x : Nat × Nat × Shp) y => ∀ b', st.bx[x.1]? = some b' → ∃ c, b'.cs[x.2.1]? = some c ∧ c.1 = y) l yl := by
    cases hy with | cons a b => exact ⟨a, b⟩
   simp only [List.cons_append, instC] at h
   split at h
   ·rename_i v s1 hm
    rw [List.append_assoc] at ht
    obtain ⟨hd1, F1, k1, k2, k3, k4, k5⟩ := mat_ok sh _ s hd F (fs ++ lo) _ v f0 s1 ht h1 hm
    have he1 : BoxP hd1 st l (s1.bx.modify q fun b => { b with cs := b.cs.set p (v, s1.ctr) }) := by
     rw [k4]
     have he' := he.mono k2
     refine ⟨by simp [he'.1], fun k b hb => ?_⟩
     rw [List.getElem?_modify] at hb
     cases hb0 : s.bx[k]? with
     | none => rw [hb0] at hb; cases hb
     | some b0 =>
       rw [hb0] at hb
       obtain ⟨b', g1, g2, g3, g4⟩ := he'.2 k b0 hb0
       by_cases hqk : q = k
       ·subst hqk
        simp only [if_true, Option.map_eq_map, Option.map_some, Option.some.injEq] at hb
        subst hb
        refine ⟨b', g1, g2, by simpa using g3, fun j x hx => ?_⟩
        rcases set_get hx with ⟨rfl, hx, _⟩ | ⟨hne, hx⟩
        ·obtain ⟨cq, hq2, hq3⟩ := hqf b' g1
         refine .inr ⟨cq, hq2, ?_⟩
         rw [hx, hq3]
         exact hE ▸ k5
        ·rcases g4 j x hx with ⟨y, y1, y2, y3⟩ | hc
         ·rcases List.mem_cons.1 y1 with rfl | y1
          ·exact absurd y3.symm hne
          ·exact .inl ⟨y, y1, y2, y3⟩
         ·exact .inr hc
       ·simp only [hqk, if_false, Option.map_eq_map, Option.map_some, Option.some.injEq, id] at hb
        subst hb
        refine ⟨b', g1, g2, g3, fun j x hx => ?_⟩
        rcases g4 j x hx with ⟨y, y1, y2, y3⟩ | hc
        ·rcases List.mem_cons.1 y1 with rfl | y1
         ·exact absurd y2 hqk
         ·exact .inl ⟨y, y1, y2, y3⟩
        ·exact .inr hc
    obtain ⟨g1, hd2, F2, g2, g3, g4⟩ := instC_ok hE l _ rest _ fs lo _ s' ds' hd1 F1 h k1 h2 hy he1
    exact ⟨g1, hd2, F2, g2, k2.trans g3, g4⟩
   ·cases h
end
end Go.Dw
end
section
namespace Go.Dw
open Go Go.Cw
set_option linter.unusedVariables false
section
variable {dcx : Dcx} {cx : Cx} {s s' s0 s1 : DS} {hd hd0 : List Value} {Z0 Z Za : Nat → Nat → Prop} {F Fa : Nat → List Nat} {st st0 : St} {w wa wz : World} {a : Act} {hn : DHn} {ds : List D}
structure Mid (hn : DHn) (s0 s1 : DS) : Prop where
 el : s1.env.length = s0.env.length
 env : ∀ t, t ∈ hn.keep → ¬ t ∈ hn.slots.map (·.1) → s1.env[t]? = s0.env[t]?
 bl : s1.bx.length = s0.bx.length
 bx : ∀ (k : Nat) (b : DB), s0.bx[k]? = some b → ∃ b1, s1.bx[k]? = some b1 ∧ b1.ty = b.ty ∧ b1.cs.length = b.cs.length ∧ ∀ (j : Nat) (x : Value × Nat), b1.cs[j]? = some x → (∃ y ∈ hn.cells, y.1 = k ∧ y.2.1 = j) ∨ b.cs[j]? = some x
 tl : s0.tb.length ≤ s1.tb.length
 tb : ∀ r, r < s0.tb.length → r ∈ hn.dead ∨ r ∈ hn.rows.map (·.1) ∨ s1.tb[r]? = s0.tb[r]?
 rows : ∀ r, r ∈ hn.rows.map (·.1) → ∀ e sub es, s1.tbAt r = .row 0 e sub es → ¬ r ∈ hn.dead → ∀ e' sub' es', s0.tbAt r = .row 0 e' sub' es' → e = e'
theorem Mid.refl (hn : DHn) (s : DS) : Mid hn s s :=
 ⟨rfl, fun _ _ _ => rfl, rfl, fun k b hb => ⟨b, hb, rfl, rfl, fun j x hx => .inr hx⟩, Nat.le_refl _, fun _ _ => .inr (.inr rfl), fun r _ e sub es h1 _ e' sub' es' h2 => by rw [h1] at h2; exact (Te.row.inj h2).2.1⟩
theorem instR_split : ∀ (l : List (Nat × List Shp)) (ds : List D) (s : DS) (ds' : List D) (s' : DS), instR l ds s = some (ds', s') → ∃ c, ds = c ++ ds' ∧ c.length = l.length
 | [], ds, s, ds', s', h => by
   simp only [instR, Option.some.injEq, Prod.mk.injEq] at h
   obtain ⟨rfl, rfl⟩ := h
   exact ⟨[], rfl, rfl⟩
 | (r, sub) :: l, ds, s, ds', s', h => by
   simp only [instR] at h
   split at h
   ·split at h
    ·obtain ⟨c, h1, h2⟩ := instR_split l _ _ _ _ h
     exact ⟨_ :: c, by rw [h1]; rfl, by simp [h2]⟩
    ·cases h
   ·cases h
theorem tbAt_eq {s s' : DS} {r : Nat} (h : s.tb[r]? = s'.tb[r]?) : s.tbAt r = s'.tbAt r := by unfold DS.tbAt; rw [h]
theorem inst_tb (hnd : (hn.rows.map (·.1)).Nodup) {sB : DS} {ds1 : List D} (h : instR hn.rows ds (deadAll hn.dead { s0 with env := dKeep hn.keep 0 s0.env, ctr := s0.ctr + 1, pins := [] }) = some (ds1, sB)) :
 ∃ c, ds = c ++ ds1 ∧ c.length = hn.rows.length ∧ sB.tb.length = s0.tb.length ∧ s0.ctr + 1 ≤ sB.ctr ∧ sB.env = dKeep hn.keep 0 s0.env ∧ sB.bx = s0.bx ∧ sB.pins = [] ∧
  ∀ (r : Nat) (x : Te × Nat), sB.tb[r]? = some x →
   (¬ r ∈ hn.rows.map (·.1) ∧ r ∈ hn.dead ∧ x.1 = .dead ∧ s0.ctr ≤ x.2) ∨ (¬ r ∈ hn.rows.map (·.1) ∧ ¬ r ∈ hn.dead ∧ s0.tb[r]? = some x) ∨
   ∃ (i : Nat) (sub : List Shp) (es : List (List D)) (e : TypeId) (sub0 : List Shp) (es0 : List (List D)), hn.rows[i]? = some (r, sub) ∧ c[i]? = some (.l es) ∧ s0.tbAt r = .row 0 e sub0 es0 ∧ ¬ r ∈ hn.dead ∧ x.1 = .row 0 e sub es ∧ s0.ctr ≤ x.2 := by
 obtain ⟨c, rfl, hc⟩ := instR_split _ _ _ _ _ h
 obtain ⟨d1, d2, d3⟩ := deadAll_tb hn.dead { s0 with env := dKeep hn.keep 0 s0.env, ctr := s0.ctr + 1, pins := [] }
 obtain ⟨r1, r2, r3, r4⟩ := instR_tb _ _ _ _ _ _ h hc hnd
 refine ⟨c, rfl, hc, r2.len.trans d1.len, Nat.le_trans d1.ctr r2.ctr, r2.env.trans d1.env, r2.bx.trans d1.bx, r2.pins.trans d1.pins, fun r x hx => ?_⟩
 by_cases hr : r ∈ hn.rows.map (·.1)
 ·obtain ⟨⟨r', sub⟩, hm, rfl⟩ := List.mem_map.1 hr
  obtain ⟨i, hi⟩ := List.getElem?_of_mem hm
  obtain ⟨es, e, sub0, es0, v, g1, g2, g3, g4⟩ := r4 i r' sub hi
  rw [hx] at g3
  obtain rfl := Option.some.inj g3
  have hnd : ¬ r' ∈ hn.dead := by
   intro hm
   obtain ⟨cc, hrow⟩ := tbAt_some g2 (by simp)
   have := (d3 r' _ hrow hm).1
   cases this
  refine .inr (.inr ⟨i, sub, es, e, sub0, es0, hi, g1, ?_, hnd, rfl, ?_⟩)
  ·rw [← g2]
   exact (tbAt_eq (d2 r' hnd)).symm
  ·exact Nat.le_trans (Nat.le_trans (Nat.le_succ _) d1.ctr) g4
 ·rw [r3 r hr] at hx
  by_cases hdd : r ∈ hn.dead
  ·obtain ⟨q1, q2⟩ := d3 r x hx hdd
   exact .inl ⟨hr, hdd, q1, Nat.le_trans (Nat.le_succ _) q2⟩
  ·rw [d2 r hdd] at hx
   exact .inr (.inl ⟨hr, hdd, hx⟩)
theorem inst_agr (hnd : (hn.rows.map (·.1)).Nodup) (hpd : ∀ r, r ∈ hn.pbs.map (·.1) → r ∈ hn.dead) (hi : s0.inst hn ds = some s') : DAgr s0 s' ∧ Mid hn s0 s' := by
 obtain ⟨ds1, sB, ds2, sC, ds3, sD0, sD, h1, h2, h3, h4, rfl, _⟩ := inst_parts hi
 obtain ⟨c, rfl, hc, b1, b2, b3, b4, b5, b6⟩ := inst_tb hnd h1
 obtain ⟨⟨k1, c1⟩, c2, c3, c4, c5, c6⟩ := instS_mt _ _ _ _ _ h2
 obtain ⟨⟨k2, e1⟩, e2, e3, e4, e5, e6⟩ := instC_mt _ _ _ _ _ h3
 obtain ⟨p1, p2, p3, p4, p5, p6⟩ := instP_mt _ _ _ _ _ h4
 have htb0 : ∀ r, r < s0.tb.length → sD0.tb[r]? = sB.tb[r]? := fun r hr => by
  rw [e1, c1, List.append_assoc, List.getElem?_append_left (by rw [b1]; exact hr)]
 have hlen0 : s0.tb.length ≤ sD0.tb.length := by rw [e1, c1, ← b1]; simp
 have hlen : s0.tb.length ≤ sD.tb.length := Nat.le_trans hlen0 p1
 have htb : ∀ r x, r < s0.tb.length → sD.tb[r]? = some x → sB.tb[r]? = some x ∨ (r ∈ hn.dead ∧ s0.ctr ≤ x.2) := fun r x hr hx => by
  rcases p6 r x (by omega) hx with h | ⟨h, h'⟩
  ·rw [htb0 r hr] at h; exact .inl h
  ·exact .inr ⟨hpd r h, by omega⟩
 rw [← p3] at e3
 rw [← p4] at e5
 rw [← p4] at e6
 have hbx : ∀ (k : Nat) (b : DB), s0.bx[k]? = some b → ∃ b', sD.bx[k]? = some b' ∧ b'.ty = b.ty ∧ b'.cs.length = b.cs.length ∧ ∀ (j : Nat) (x : Value × Nat), b'.cs[j]? = some x → ((∃ y ∈ hn.cells, y.1 = k ∧ y.2.1 = j) ∧ sC.ctr ≤ x.2) ∨ b.cs[j]? = some x := by
  intro k b hb
  exact e6 k b (by rw [c3, b4]; exact hb)
 constructor
 ·refine ⟨by show s0.ctr ≤ sD.ctr + 1; omega, by show sD.env.length = _; rw [e3, c5, b3, dKeep_len], fun t e he hv => ?_, fun k b hb => ?_, hlen, fun r x hx hr hv => ?_⟩
  ·have he : sD.env[t]? = some (some e) := he
   rw [e3] at he
   by_cases hm : t ∈ hn.slots.map (·.1)
   ·have := (c6 t).2 e hm he
    omega
   ·rw [(c6 t).1 hm, b3, dKeep_get, Nat.zero_add] at he
    split at he
    ·exact he
    ·cases hq : s0.env[t]? with
     | none => rw [hq] at he; cases he
     | some y => rw [hq] at he; cases he
  ·obtain ⟨b', g1, g2, g3, g4⟩ := hbx k b hb
   refine ⟨b', g1, g2, fun j x hx hv => ?_⟩
   rcases g4 j x hx with ⟨_, hx'⟩ | hx'
   ·omega
   ·exact hx'
  ·have hx : sD.tb[r]? = some x := hx
   rcases htb r x hr hx with hx | ⟨_, hx⟩
   case inr => omega
   rcases b6 r x hx with ⟨_, _, _, h4⟩ | ⟨_, _, h4⟩ | ⟨_, _, _, _, _, _, _, _, _, _, _, h4⟩
   ·omega
   ·exact h4
   ·omega
 ·refine ⟨by show sD.env.length = _; rw [e3, c5, b3, dKeep_len], fun t ht hs => ?_, by show sD.bx.length = _; rw [e5, c3, b4], fun k b hb => ?_, hlen, fun r hr => ?_, fun r hr e sub es h1 hdd e' sub' es' h2 => ?_⟩
  ·show sD.env[t]? = _
   rw [e3, (c6 t).1 hs, b3, dKeep_get, Nat.zero_add, if_pos (by simpa using ht)]
  ·obtain ⟨b', g1, g2, g3, g4⟩ := hbx k b hb
   exact ⟨b', g1, g2, g3, fun j x hx => (g4 j x hx).imp (·.1) id⟩
  ·show _ ∨ _ ∨ sD.tb[r]? = _
   rcases htb r _ hr (List.getElem?_eq_getElem (by omega)) with hx | ⟨hx, _⟩
   case inr => exact .inl hx
   rcases b6 r _ hx with ⟨_, h4, _⟩ | ⟨_, _, h4⟩ | ⟨i, sub, _, _, _, _, h4, _⟩
   ·exact .inl h4
   ·exact .inr (.inr (by rw [List.getElem?_eq_getElem (by omega), h4]))
   ·exact .inr (.inl (List.mem_map.2 ⟨_, List.mem_of_getElem? h4, rfl⟩))
  ·obtain ⟨cc, hrow⟩ := tbAt_some h2 (by simp)
   have hlt := get_lt hrow
   have h1 : sD.tbAt r = _ := h1
   obtain ⟨cc1, hrow1⟩ := tbAt_some h1 (by simp)
   rcases htb r _ hlt hrow1 with hrow1 | ⟨hx, _⟩
   case inr => exact absurd hx hdd
   rcases b6 r _ hrow1 with ⟨h4, _⟩ | ⟨h4, _⟩ | ⟨i, sub2, es2, e2, sub3, es3, _, _, h5, _, h6, _⟩
   ·exact absurd hr h4
   ·exact absurd hr h4
   ·rw [h2] at h5
    have q1 := (Te.row.inj h5).2.1
    have q2 := (Te.row.inj h6).2.1
    rw [q1, q2]
theorem keptE_get {c : Nat} {env env' : List (Option DE)} : ∀ {l : List Nat}, keptE c env env' l = true → ∀ t ∈ l, ∀ e, env[t]? = some (some e) → ∃ e', env'[t]? = some (some e') ∧ e'.vr < c
 | [], _, t, ht, _, _ => by cases ht
 | q :: r, h, t, ht, e, he => by
   simp only [keptE, Bool.and_eq_true] at h
   rcases List.mem_cons.1 ht with rfl | ht
   ·have h1 := h.1
    rw [he] at h1
    simp only at h1
    split at h1
    ·rename_i e' he'
     exact ⟨e', he', by simpa using h1⟩
    ·cases h1
   ·exact keptE_get h.2 t ht e he
theorem keptC_get {c k : Nat} {hc : List (Nat × Nat × Shp)} : ∀ {l : List (Value × Nat)} {i : Nat}, keptC c hc k i l = true → ∀ (j : Nat) (x : Value × Nat), l[j]? = some x → x.2 < c ∨ ∃ y ∈ hc, y.1 = k ∧ y.2.1 = i + j
 | [], i, _, j, x, hx => by cases hx
 | y :: r, i, h, j, x, hx => by
   simp only [keptC, Bool.and_eq_true, Bool.or_eq_true, decide_eq_true_eq, List.any_eq_true, beq_iff_eq] at h
   cases j with
   | zero =>
     simp only [List.getElem?_cons_zero, Option.some.injEq] at hx
     subst hx
     exact h.1.imp id fun ⟨z, z1, z2, z3⟩ => ⟨z, z1, z2, by simpa using z3⟩
   | succ j =>
     rcases keptC_get h.2 j x (by simpa using hx) with h1 | ⟨z, z1, z2, z3⟩
     ·exact .inl h1
     ·exact .inr ⟨z, z1, z2, by omega⟩
theorem keptB_get {c : Nat} {hc : List (Nat × Nat × Shp)} : ∀ {l l' : List DB} {i : Nat}, keptB c hc i l l' = true → ∀ (k : Nat) (b : DB), l[k]? = some b → ∃ b', l'[k]? = some b' ∧ b.cs.length = b'.cs.length ∧ b'.cs ≠ [] ∧ ∀ (j : Nat) (x : Value × Nat), b'.cs[j]? = some x → x.2 < c ∨ ∃ y ∈ hc, y.1 = i + k ∧ y.2.1 = j
 | [], _, i, _, k, b, hb => by cases hb
 | b0 :: r, [], i, h, k, b, hb => by simp [keptB] at h
 | b0 :: r, b1 :: r', i, h, k, b, hb => by
   simp only [keptB, Bool.and_eq_true, beq_iff_eq, Bool.not_eq_true', List.isEmpty_eq_false_iff] at h
   cases k with
   | zero =>
     simp only [List.getElem?_cons_zero, Option.some.injEq] at hb
     subst hb
     exact ⟨b1, rfl, h.1.1.1, h.1.1.2, fun j x hx => (keptC_get h.1.2 j x hx).imp id fun ⟨y, y1, y2, y3⟩ => ⟨y, y1, by simpa using y2, by simpa using y3⟩⟩
   | succ k =>
     obtain ⟨b', g1, g2, g3, g4⟩ := keptB_get h.2 k b (by simpa using hb)
     exact ⟨b', by simpa using g1, g2, g3, fun j x hx => (g4 j x hx).imp id fun ⟨y, y1, y2, y3⟩ => ⟨y, y1, by omega, y3⟩⟩
theorem keptT_get {c : Nat} : ∀ {l l' : List (Te × Nat)} {i : Nat}, keptT c hn i l l' = true → ∀ r, r < l.length → ∃ x, l'[r]? = some x ∧ (x.2 < c ∨ i + r ∈ hn.dead ∨ i + r ∈ hn.rows.map (·.1))
 | [], _, i, _, r, hr => by simp at hr
 | y :: l, [], i, h, r, hr => by simp [keptT] at h
 | y :: l, x :: l', i, h, r, hr => by
   simp only [keptT, Bool.and_eq_true, Bool.or_eq_true, decide_eq_true_eq, List.any_eq_true, beq_iff_eq, List.contains_iff_mem] at h
   cases r with
   | zero =>
     refine ⟨x, rfl, ?_⟩
     rcases h.1 with (h1 | h1) | ⟨z, z1, z2⟩
     ·exact .inl h1
     ·exact .inr (.inl h1)
     ·exact .inr (.inr (List.mem_map.2 ⟨z, z1, z2⟩))
   | succ r =>
     obtain ⟨x', g1, g2⟩ := keptT_get h.2 r (by simpa using hr)
     refine ⟨x', by simpa using g1, ?_⟩
     rw [show i + 1 + r = i + (r + 1) by omega] at g2
     exact g2
end
end Go.Dw
end
section
namespace Go.Dw
open Go Go.Cw
set_option linter.unusedVariables false
section
variable {dcx : Dcx} {cx : Cx} {s s' s0 s1 : DS} {hd hd0 : List Value} {Z0 Z Za : Nat → Nat → Prop} {F Fa : Nat → List Nat} {st st0 : St} {w wa wz : World} {a : Act} {hn : DHn} {ds : List D}
def maskE (p : Nat → Bool) : Nat → List (Option En) → List (Option En)
 | _, [] => []
 | i, e :: r => (if p i then e else none) :: maskE p (i + 1) r
theorem maskE_len (p : Nat → Bool) : ∀ (i : Nat) (l : List (Option En)), (maskE p i l).length = l.length
 | _, [] => rfl
 | i, e :: r => by simp [maskE, maskE_len p (i + 1) r]
theorem maskE_get (p : Nat → Bool) : ∀ (i : Nat) (l : List (Option En)) (t : Nat), (maskE p i l)[t]? = if p (i + t) then l[t]? else l[t]?.map fun _ => none
 | _, [], t => by simp [maskE]
 | i, e :: r, 0 => by
   simp only [maskE, List.getElem?_cons_zero, Nat.add_zero, Option.map_some]
   split <;> rfl
 | i, e :: r, t + 1 => by
   simp only [maskE, List.getElem?_cons_succ]
   rw [maskE_get p (i + 1) r t, show i + 1 + t = i + (t + 1) by omega]
theorem CvR.fn {hd' : List Value} {st' : St} {c : DC} {c0 c1 : CV} (h0 : CvR hd0 st0 c c0) (h1 : CvR hd st c c1) (hx : Ext hd0 hd) (hE : ∀ k b, BxE st0 k b → BxE st k b) (hx' : Ext hd0 hd') (hE' : ∀ k b, BxE st0 k b → BxE st' k b) (hl : st0.bx.length ≤ st'.bx.length) : CvR hd' st' c c1 := by
 cases c with
 | v x =>
   obtain ⟨y0, p1, _⟩ := h0
   obtain ⟨y1, q1, q2⟩ := h1
   obtain rfl := p1.fn q1 hx hE fun k b b' => BxE.fn
   exact ⟨y0, p1.mono hx' hE', q2⟩
 | bp k off => exact ⟨h1.1, Nat.lt_of_lt_of_le h0.2 hl⟩
 | er r i sz off =>
   obtain ⟨v0, p1, p2⟩ := h0
   obtain ⟨v1, q1, q2⟩ := h1
   have := hx _ _ p1
   rw [q1] at this
   obtain rfl := Option.some.inj this
   exact ⟨v1, hx' _ _ p1, q2⟩
def BxI (st st' : St) : Prop := ∀ (k : Nat) (b : Bx), st.bx[k]? = some b → ∃ b', st'.bx[k]? = some b' ∧ b'.id = b.id
theorem BxI.refl (st : St) : BxI st st := fun k b h => ⟨b, h, rfl⟩
theorem BxI.trans {a b c : St} (h : BxI a b) (k : BxI b c) : BxI a c := fun q x hx =>
 let ⟨y, h1, h2⟩ := h q x hx; let ⟨z, k1, k2⟩ := k q y h1; ⟨z, k1, k2.trans h2⟩
theorem BxI.agr {st st' : St} (h : Agr st st') : BxI st st' := fun k b hb => let ⟨b', h1, h2, _⟩ := h.bx k b hb; ⟨b', h1, h2⟩
theorem all2_of {α β : Type} {R : α → β → Prop} : ∀ {l : List α} {m : List β}, l.length = m.length → (∀ (i : Nat) (x : α), l[i]? = some x → ∃ y, m[i]? = some y ∧ R x y) → All2 R l m
 | [], [], _, _ => .nil
 | [], _ :: _, h, _ => by simp at h
 | _ :: _, [], h, _ => by simp at h
 | x :: l, y :: m, h, hr => by
   obtain ⟨y', h1, h2⟩ := hr 0 x rfl
   obtain rfl := Option.some.inj h1
   exact .cons h2 (all2_of (by simpa using h) fun i z hz => by simpa using hr (i + 1) z (by simpa using hz))
theorem Reps.fits_all {Z : Nat → Nat → Prop} : ∀ {sh : List Shp} {d : List D} {y : List Value} {f : List Nat}, Reps w Z sh d y f → ∀ K : List D → Prop, allSs sh K → K d := fun h K hk => allSs_at hk h
theorem rows_all {Q : Nat × List Shp → D → Prop} (hQ : ∀ x d, Q x d → ∃ es, d = D.l es) : ∀ {l : List (Nat × List Shp)} {c : List D}, All2 Q l c → ∀ {sh : List Shp} {K : List D → Prop}, allSs ((l.map fun x => Shp.l 0 0 x.2) ++ sh) K → allSs sh fun d => K (c ++ d)
 | _, _, .nil, _, _, h => h
 | _, _, .cons h1 h2, sh, K, h => by
   obtain ⟨es, rfl⟩ := hQ _ _ h1
   simp only [List.map_cons, List.cons_append, allSs, allS] at h ⊢
   exact rows_all hQ h2 (h es)
theorem packP_ok (h : Lk cx Z0 s hd Z F st w) : ∀ (l : List (Nat × TypeId × List Shp)) (s1 : DS) (ds : List D) (s2 : DS), packP s l s1 = some (ds, s2) → ∃ vs ys, takes none (l.map fun x => Shp.p 0 x.2.1 x.2.2) vs s1 = some (ds, s2) ∧ All2 (CRf hd (BxE st)) vs ys ∧ All2 (fun (x : Nat × TypeId × List Shp) y => hd[x.1]? = some y) l ys
 | [], s1, ds, s2, hp => by
   simp only [packP, Option.some.injEq, Prod.mk.injEq] at hp
   obtain ⟨rfl, rfl⟩ := hp
   exact ⟨[], [], rfl, .nil, .nil⟩
 | (r, t, sub) :: l, s1, ds, s2, hp => by
   simp only [packP] at hp
   split at hp
   ·rename_i md t0 cs0 htb
    split at hp
    ·rename_i d s3 h3
     split at hp
     ·rename_i ds' s4 h4
      simp only [Option.some.injEq, Prod.mk.injEq] at hp
      obtain ⟨rfl, rfl⟩ := hp
      obtain ⟨vs, ys, k1, k2, k3⟩ := packP_ok h l s3 ds' s4 h4
      obtain ⟨c, v, _, g2, cs', _, g4⟩ := h.tk.at (r := r) (t := .pbx md t0 cs0) htb (by simp)
      have : ∃ A, v = .pointer A := by
       rcases g4 with ⟨_, b, g4, _⟩ | ⟨_, q, g4, _⟩ <;> exact ⟨_, g4⟩
      refine ⟨ptV r :: vs, v :: ys, by simp only [List.map_cons, takes, h3, k1], .cons (.inl ⟨by simp [evenB], rfl, this, ?_⟩) k2, .cons g2 k3⟩
      rw [show 2 * r / 2 = r by omega]
      exact g2
     ·cases hp
    ·cases hp
   ·cases hp
theorem instP_ok {E : Nat → Nat → Prop} {I : Nat → Prop} {Z : Nat → Nat → Prop} : ∀ (l : List (Nat × TypeId × List Shp)) (dl rest : List D) (yl : List Value) (f lo : List Nat) (s s' : DS) (ds' : List D) (hd : List Value) (F : Nat → List Nat), instP l (dl ++ rest) s = some (ds', s') → Tk cx s.tb hd E Z F none (f ++ lo) I w → Reps w Z (l.map fun x => Shp.p 0 x.2.1 x.2.2) dl yl f → All2 (fun (x : Nat × TypeId × List Shp) y => hd[x.1]? = some y) l yl →
 ds' = rest ∧ ∃ hd' F', Tk cx s'.tb hd' E Z F' none lo I w ∧ Ext hd hd'
 | [], dl, rest, yl, f, lo, s, s', ds', hd, F, h, ht, hr, hy => by
   cases hr
   simp only [instP, List.nil_append, Option.some.injEq, Prod.mk.injEq] at h
   obtain ⟨rfl, rfl⟩ := h
   exact ⟨rfl, hd, F, ht, Ext.refl _⟩
 | (r, t, sub) :: l, dl, rest, yl, f, lo, s, s', ds', hd, F, h, ht, hr, hy => by
   simp only [List.map_cons] at hr
   obtain ⟨d0, dl, y0, yl, f0, fs, rfl, rfl, rfl, h1, h2⟩ := hr.cons_inv
   obtain ⟨hy0, hy⟩ : hd[r]? = some y0 ∧ All2 (fun (x : Nat × TypeId × List Shp) y => hd[x.1]? = some y) l yl := by
    cases hy with | cons a b => exact ⟨a, b⟩
   obtain ⟨cs, b, cs', fs', rfl, hye, rfl, hB, hRs⟩ : ∃ cs b cs' fs', d0 = .p cs ∧ y0 = .pointer (some ⟨b, 0, none⟩) ∧ f0 = b :: fs' ∧ Box w b cs' t ∧ Reps w Z sub cs cs' fs' := by
    cases h1 with
    | ptr h0 => exact absurd rfl h0
    | box g1 g2 => exact ⟨_, _, _, _, rfl, rfl, rfl, g1, g2⟩
   simp only [List.cons_append, instP] at h
   split at h
   ·rename_i vs s1 hm
    have hnd' := ht.sp.ln
    have hp1 : Tk cx s.tb hd E Z F none (fs' ++ ([b] ++ (fs ++ lo))) I w := ht.perm (fun k => by
     simp only [List.mem_append, List.mem_cons, List.not_mem_nil, or_false, List.cons_append, List.nil_append]
     grind) (by
     refine (List.Perm.nodup_iff ?_).1 hnd'
     have : List.Perm ([b] ++ fs' ++ (fs ++ lo)) (fs' ++ [b] ++ (fs ++ lo)) := List.Perm.append_right _ List.perm_append_comm
     rw [List.append_assoc fs' [b]] at this
     simpa using this)
    obtain ⟨hd1, F1, k1, k2, k3, k4, k5⟩ := mats_ok sub cs s hd F ([b] ++ (fs ++ lo)) cs' vs fs' s1 hp1 hRs hm
    split at h
    ·rename_i hdead
     have hrv := k1.revive (t := .pbx 0 t vs) hdead (k2 _ _ hy0) ⟨cs', k5, .inl ⟨rfl, b, hye, upd_same _ _ _, hB⟩⟩
     obtain ⟨g1, hd2, F2, g2, g3⟩ := instP_ok l dl rest yl fs lo (s1.setT r (.pbx 0 t vs)) s' ds' hd1 _ h hrv h2 (hy.mono fun x y hx => k2 _ _ hx)
     exact ⟨g1, hd2, F2, g2, k2.trans g3⟩
    ·cases h
   ·cases h
theorem join_ok (h0 : Lk cx Z0 s0 hd0 Za Fa st0 wz) (m : Mid hn s0 s1) (ha : DAgr s1 s) (hx : Ext hd0 hd) (hbi : BxI st0 st) (h1 : Lk cx Z0 s hd Z F st w) (hR1 : RelO cx st a w wa) (hp : dPack s1 hn s = some ds) :
 (∀ K, allSs hn.shps K → K ds) ∧ ∀ s', s0.inst hn ds = some s' → ∃ st' hd' Z' F', Lk cx Z0 s' hd' Z' F' st' wa ∧ RelO cx st' a wa wa ∧ Ext hd0 hd' ∧ BxI st0 st' := by
 obtain ⟨h, hR⟩ := rest_ok h1 hR1
 have hb : BxA st0 (markAll st.clean) := fun k b hk => let ⟨b', g1, g2⟩ := hbi k b hk; let ⟨b2, q1, q2, _⟩ := markAll_bxa st.clean k b' g1; ⟨b2, q1, q2.trans g2, fun _ => markAll_esc st.clean b2 (List.mem_of_getElem? q1)⟩
 clear hbi
 have hesc := markAll_esc st.clean
 generalize markAll st.clean = st at h hR hb hesc
 clear h1 hR1
 -- what is packed
 unfold dPack at hp
 split at hp
 ·rename_i da sA hpS
  split at hp
  ·rename_i db sBC hpC
   split at hp
   rotate_left
   ·cases hp
   rename_i dp sB hpP
   split at hp
   ·rename_i c hpR
    split at hp
    ·rename_i hkept
     simp only [Bool.and_eq_true, decide_eq_true_eq] at hkept
     obtain ⟨⟨⟨⟨⟨hkE, hkB⟩, hkT⟩, hnd⟩, hks⟩, hpd⟩ := hkept
     obtain rfl := Option.some.inj hp
     obtain ⟨vS, yS, tS, cS, eS⟩ := packS_ok h hesc _ _ _ _ hpS
     obtain ⟨vC, yC, tC, cC, eC⟩ := packC_ok h _ _ _ _ hpC
     obtain ⟨vP, yP, tP, cP, eP⟩ := packP_ok h _ _ _ _ hpP
     have hrow := packR_ok _ _ _ hpR
     have ht := takes_app _ _ _ _ _ _ _ _ _ tS (takes_app _ _ _ _ _ _ _ _ _ tC tP)
     have hbox : ∀ b ∈ st.bx, b.esc = true → Box wa b.id (b.cs.map (·.1)) b.ty := fun b hb' _ => hR.wok.boxes b hb'
     obtain ⟨f, Z1, F1, I1, hT, hF1, hReps⟩ := takes_ok (E0 := fun k b => ∃ x : Bx, st.bx[k]? = some x ∧ x.id = b) none _ _ _ s sB _ Z F [] _ h.tk (fun _ => bw_of h hbox) (cS.append (cC.append cP)) ht
     have hRA := hReps
     obtain ⟨da', dbp', yS', yCP', fa, fbp, e1, e2, rfl, hRS, hRCP⟩ := Reps.app hReps
     have hl1 : da.length = da'.length := by
      have h1 := hRS.len.1
      have h2 : da.length = (hn.slots.map (·.2)).length := by
       obtain ⟨f2, _, _, _, _, _, hR2⟩ := takes_ok (E0 := fun k b => ∃ x : Bx, st.bx[k]? = some x ∧ x.id = b) none _ _ _ s sA _ Z F [] _ h.tk (fun _ => bw_of h hbox) cS tS
       exact hR2.len.1
      rw [h1, h2]
     obtain ⟨rfl, rfl⟩ := List.append_inj e1 hl1
     have hl2 : yS.length = yS'.length := by
      rw [hRS.len.2, List.length_map]
      exact eS.len
     obtain ⟨rfl, rfl⟩ := List.append_inj e2 hl2
     obtain ⟨db', dp', yC', yP', fb, fp, e3', e4', rfl, hRC, hRP⟩ := Reps.app hRCP
     have hl3 : db.length = db'.length := by
      have h1 := hRC.len.1
      have h2 : db.length = (hn.cells.map (·.2.2)).length := packC_len _ _ _ _ hpC
      rw [h1, h2]
     obtain ⟨rfl, rfl⟩ := List.append_inj e3' hl3
     have hl4 : yC.length = yC'.length := by
      rw [hRC.len.2, List.length_map]
      exact eC.len
     obtain ⟨rfl, rfl⟩ := List.append_inj e4' hl4
     refine ⟨fun K hK => ?_, fun s' hi => ?_⟩
     ·unfold DHn.shps at hK
      exact hRA.fits_all _ (rows_all (fun x d ⟨es, _, _, _, _, h, _⟩ => ⟨es, h⟩) hrow hK)
     ·-- the state
      obtain ⟨ds1, sR, ds2, sC, ds3, sD, sE, i1, i2, i3, i4, rfl, hpl⟩ := inst_parts hi
      obtain ⟨c', hcc, hcl, b1, b2, b3, b4, b5, b6⟩ := inst_tb hnd i1
      have hcl' : c.length = c'.length := by rw [hcl]; exact hrow.len
      obtain ⟨rfl, rfl⟩ := List.append_inj hcc hcl'
      have hTB : Tk cx sB.tb hd (BxE st) Z1 F1 none ((fa ++ (fb ++ fp)) ++ []) I1 wa := hT.tk
      rw [List.append_nil] at hTB
      have hBw := hT.bw rfl
      have hAg : DAgr s1 sB := ha.trans hT.keeps.agr
      have hlen : s0.tb.length ≤ sB.tb.length := Nat.le_trans m.tl hAg.tl
      have hhd0 : hd0.length = s0.tb.length := h0.tk.hl
      have hext : Ext hd0 (hd.take sR.tb.length) := fun r v hv => by
       rw [List.getElem?_take, b1, if_pos (by rw [← hhd0]; exact get_lt hv)]
       exact hx r v hv
      have hbl : st0.bx.length ≤ st.bx.length := by
       by_cases hz : st0.bx.length = 0
       ·omega
       ·obtain ⟨b', g1, _⟩ := hb (st0.bx.length - 1) _ (List.getElem?_eq_getElem (by omega))
        have := get_lt g1
        omega
      -- the new state
      let pk : Nat → Bool := fun t => hn.keep.contains t && (match s0.env[t]? with | some (some _) => true | _ => false)
      let st' : St := { st with env := setS hn.slots yS (maskE pk 0 st.env), bx := st.bx.take s0.bx.length, ctr := st.ctr + 1, dirty := false, pins := [] }
      have hbx' : ∀ k, k < s0.bx.length → st'.bx[k]? = st.bx[k]? := fun k hk => by
       show (st.bx.take _)[k]? = _
       rw [List.getElem?_take, if_pos hk]
      have hb' : BxA st0 st' := fun k b hk => by
       obtain ⟨b', g1, g2, g3⟩ := hb k b hk
       exact ⟨b', by rw [hbx' k (by rw [← h0.ek.bl]; exact get_lt hk)]; exact g1, g2, g3⟩
      have hE' : ∀ k b, BxE st0 k b → BxE st' k b := fun k b => hb'.E
      have hE1 : ∀ k b, BxE st0 k b → BxE st k b := fun k b => hb.E
      -- entries
      obtain ⟨Z2, F2, hcut, hz2, hzn2⟩ := Tk.cut (tb' := sR.tb) (E' := BxE st') hTB (by rw [b1]; exact hlen) (fun r t' c' hr => by
       have hrl : r < s0.tb.length := by rw [← b1]; exact get_lt hr
       rcases b6 r _ hr with ⟨_, _, g3, _⟩ | ⟨g1, g2, g3⟩ | ⟨i, sub, es, e, sub0, es0, g1, g2, g3, g4, g5, _⟩
       ·exact .inl g3
       ·-- it is as it was
        refine .inr (.inl ⟨c', ?_, fun md t cs cs' ht hcs => ?_⟩)
        ·rcases m.tb r hrl with q | q | q
         ·exact absurd q g2
         ·exact absurd q g1
         ·obtain ⟨x, q1, q2⟩ := keptT_get hkT r (by have := m.tl; omega)
          rw [Nat.zero_add] at q2
          rcases q2 with q2 | q2 | q2
          ·have := hAg.tb r x q1 (by have := m.tl; omega) q2
           rw [q, g3] at this
           obtain rfl := Option.some.inj this
           exact q1
          ·exact absurd q2 g2
          ·exact absurd q2 g1
        ·subst ht
         obtain ⟨v0, _, k2⟩ := h0.tk.te r _ _ g3
         obtain ⟨cs0, k3, _⟩ := k2
         obtain rfl := All2.fn (R := CRf hd0 (BxE st0)) (R' := CRf hd (BxE st)) (fun x y y' p q => CRf.fn p q hx hE1 fun k b b' => BxE.fn) k3 hcs
         exact k3.mono fun _ _ h => h.mono hext hE'
       ·-- a row of one's own
        obtain ⟨d, q1, es1, e1, sub1, sub2, es2, rfl, q2, q3, q4⟩ := hrow.get g1
        rw [g2] at q1
        obtain rfl := D.l.inj (Option.some.inj q1)
        obtain ⟨cc, q5⟩ := tbAt_some q2 (by simp)
        obtain rfl := m.rows r (List.mem_map.2 ⟨_, List.mem_of_getElem? g1, rfl⟩) _ _ _ q3 g4 _ _ _ g3
        exact .inr (.inr ⟨_, sub1, sub, es, cc, q5, g5, q4⟩))
      -- boxes
      have hboxes : ∀ (k : Nat) (b : DB), s0.bx[k]? = some b → ∃ b2 bs, sB.bx[k]? = some b2 ∧ b2.cs ≠ [] ∧ s.bx[k]? = some bs ∧ bs.cs = b2.cs ∧ bs.ty = b.ty ∧ b2.cs.length = b.cs.length ∧ ∀ (j : Nat) (x : Value × Nat), b.cs[j]? = some x → (∃ y ∈ hn.cells, y.1 = k ∧ y.2.1 = j) ∨ bs.cs[j]? = some x := by
       intro k b hk
       obtain ⟨bm, m1, mt, m2, m3⟩ := m.bx k b hk
       obtain ⟨b2, g1, g2, g3, g4⟩ := keptB_get hkB k bm m1
       obtain ⟨bs, k1, k2, k3⟩ := hT.bx k b2 g1
       have hcs : bs.cs = b2.cs := by
        rcases k3 with k3 | k3
        ·exact k3.symm
        ·exact absurd k3 g3
       have hty : bs.ty = b.ty := by
        obtain ⟨bb, q1, q2, _⟩ := ha.bx k bm m1
        rw [k1] at q1
        obtain rfl := Option.some.inj q1
        exact q2.trans mt
       refine ⟨b2, bs, g1, g3, k1, hcs, hty, g2.symm.trans m2, fun j x hx => ?_⟩
       have hj : j < bs.cs.length := by
        rw [hcs, ← g2, m2]; exact get_lt hx
       have hxj : bs.cs[j]? = some bs.cs[j] := List.getElem?_eq_getElem hj
       rcases g4 j bs.cs[j] (by rw [← hcs]; exact hxj) with q | q
       ·obtain ⟨bb, q1, _, q3⟩ := ha.bx k bm m1
        rw [k1] at q1
        obtain rfl := Option.some.inj q1
        have q4 := q3 j _ hxj q
        rcases m3 j _ q4 with q5 | q5
        ·exact .inl q5
        ·rw [hx] at q5
         rw [hxj, ← q5]
         exact .inr rfl
       ·exact .inl (by simpa using q)
      have hids : ∀ k, k ∈ st'.ids → I1 k := by
       intro k hk
       obtain ⟨b, hb1, rfl⟩ := List.mem_map.1 hk
       obtain ⟨q, hq⟩ := List.getElem?_of_mem hb1
       have hq2 : (st.bx.take s0.bx.length)[q]? = some b := hq
       rw [List.getElem?_take] at hq2
       split at hq2
       ·rename_i hql
        obtain ⟨b2, bs, g1, g2, _⟩ := hboxes q _ (List.getElem?_eq_getElem hql)
        exact hBw.bi q b2 b.id g1 g2 ⟨b, hq2, rfl⟩
       ·cases hq2
      have htk0 : Tk cx sR.tb (hd.take sR.tb.length) (BxE st') Z2 F2 none ((fa ++ (fb ++ fp))) (· ∈ st'.ids) wa := hcut.boxes fun k hk => .inl (hids k hk)
      -- slots
      have hbl' : st0.bx.length ≤ st'.bx.length := by
       show _ ≤ (st.bx.take _).length
       rw [List.length_take, ← h0.ek.bl]
       omega
      have hpk : ∀ t, pk t = true → ∃ e, s0.env[t]? = some (some e) ∧ t ∈ hn.keep := fun t ht => by
       simp only [pk, Bool.and_eq_true, List.contains_iff_mem] at ht
       obtain ⟨h1, h2⟩ := ht
       split at h2
       ·rename_i e he; exact ⟨e, he, h1⟩
       ·cases h2
      have hkeep : ∀ t e, s0.env[t]? = some (some e) → t ∈ hn.keep → ∃ e', st.env[t]? = some (some e') ∧ e'.tg = e.tg ∧ CvR (hd.take sR.tb.length) st' e.cv e'.cv := fun t e he ht => by
       have hns : ¬ t ∈ hn.slots.map (·.1) := fun hm => by
        obtain ⟨x, hx1, hx2⟩ := List.mem_map.1 hm
        have := List.all_eq_true.1 hks t ht
        simp only [Bool.not_eq_true', List.any_eq_false, beq_iff_eq] at this
        exact this x hx1 hx2
       have h1 := m.env t ht hns
       obtain ⟨e2, g1, g2⟩ := keptE_get hkE t ht e (by rw [h1]; exact he)
       have g3 := ha.env t e2 g1 g2
       rw [h1, he] at g3
       obtain rfl := Option.some.inj (Option.some.inj g3)
       obtain ⟨e', k1, k2, k3⟩ := h.ek.env t _ g1
       obtain ⟨e0, _, _, k4⟩ := h0.ek.env t _ he
       exact ⟨e', k1, k2, k4.fn k3 hx hE1 hext hE' hbl'⟩
      have henv : EnvR (hd.take sR.tb.length) st' sR.env (maskE pk 0 st.env) := by
       refine ⟨?_, fun t e he => ?_⟩
       ·rw [maskE_len, b3, dKeep_len, h.ek.el, ha.len, m.el]
       ·rw [b3, dKeep_get, Nat.zero_add] at he
        split at he
        ·rename_i hc
         obtain ⟨e', k1, k2, k3⟩ := hkeep t e he (by simpa using hc)
         refine ⟨e', ?_, k2, k3⟩
         rw [maskE_get, Nat.zero_add, if_pos (by simp only [pk, hc, he, Bool.and_self])]
         exact k1
        ·cases hq : s0.env[t]? with
         | none => rw [hq] at he; cases he
         | some y => rw [hq] at he; cases he
      have hRS2 : Reps wa Z2 (hn.slots.map (·.2)) da yS fa := Reps.kept (fun _ _ _ _ => rfl) hz2 hRS fun _ _ => rfl
      have hRC2 : Reps wa Z2 (hn.cells.map (·.2.2)) db yC fb := by
       have hyc := e2
       exact Reps.kept (fun _ _ _ _ => rfl) hz2 hRC fun _ _ => rfl
      obtain ⟨rfl, hd2, F3, htk2, hx2, henv2⟩ := instS_ok (st := st') rfl hn.slots da (db ++ dp) yS fa (fb ++ fp) sR sC ds2 _ F2 _ i2 htk0 hRS2 henv
      obtain ⟨⟨k1, c1⟩, c2, c3, c4, c5, c6⟩ := instS_mt _ _ _ _ _ i2
      have hbp : BoxP hd2 st' hn.cells sC.bx := by
       rw [c3, b4]
       refine ⟨?_, fun k b hk => ?_⟩
       ·show _ = (st.bx.take _).length
        rw [List.length_take, ← h0.ek.bl]
        omega
       ·obtain ⟨b2, bs, g1, g2, g3, g4, g5, g6, g7⟩ := hboxes k b hk
        obtain ⟨b', q1, q2, q3⟩ := h.ek.bx k bs g3
        have hcs := q3 (by rw [g4]; exact g2)
        have hl := hcs.len
        simp only [List.length_map] at hl
        refine ⟨b', by rw [hbx' k (get_lt hk)]; exact q1, q2.trans g5, by rw [hl, g4, g6], fun j x hxj => (g7 j x hxj).imp id fun hsj => ?_⟩
        obtain ⟨y, p1, p2⟩ := hcs.get (i := j) (a := x.1) (by rw [List.getElem?_map, hsj]; rfl)
        rw [List.getElem?_map] at p1
        cases hc : b'.cs[j]? with
        | none => rw [hc] at p1; cases p1
        | some c =>
          rw [hc] at p1
          obtain rfl := Option.some.inj p1
          obtain ⟨b0, r1, r2, r3⟩ := h0.ek.bx k b hk
          obtain ⟨y0, t1, t2⟩ := (r3 (by intro e0; rw [e0] at hxj; cases hxj)).get (i := j) (a := x.1) (by rw [List.getElem?_map, hxj]; rfl)
          have h5 := t2.mono (hext.trans hx2) hE'
          rw [t2.fn p2 hx hE1 fun k b b' => BxE.fn] at h5
          exact ⟨c, rfl, h5⟩
      obtain ⟨rfl, hd3, F4, htk3, hx3, hbp3⟩ := instC_ok (st := st') rfl hn.cells db dp yC fb fp sC sD ds3 hd2 F3 i3 htk2 hRC2 (eC.mono fun x y ⟨b', c, q1, q2, q3⟩ b2 hb2 => by
       have hb2 : (st.bx.take s0.bx.length)[x.1]? = some b2 := hb2
       rw [List.getElem?_take] at hb2
       split at hb2
       ·rw [q1] at hb2
        obtain rfl := Option.some.inj hb2
        exact ⟨c, q2, q3⟩
       ·cases hb2) hbp
      obtain ⟨_, _, e3, _, _⟩ := instC_mt _ _ _ _ _ i3
      have hRP2 : Reps wa Z2 (hn.pbs.map fun x => Shp.p 0 x.2.1 x.2.2) ds3 yP fp := by
       have hyp := e4'
       exact Reps.kept (fun _ _ _ _ => rfl) hz2 hRP fun _ _ => rfl
      have i4' : instP hn.pbs (ds3 ++ []) sD = some ([], sE) := by rw [List.append_nil]; exact i4
      have hyP : All2 (fun (x : Nat × TypeId × List Shp) y => hd3[x.1]? = some y) hn.pbs yP := all2_of eP.len.symm fun i x hi' => by
       obtain ⟨y, q1, q2⟩ := eP.get hi'
       refine ⟨y, q1, hx3 _ _ (hx2 _ _ ?_)⟩
       have hxr : x.1 < sR.tb.length := by rw [b1]; exact hpl x (List.mem_of_getElem? hi')
       rw [List.getElem?_take, if_pos hxr]
       exact q2
      obtain ⟨_, hd4, F5, htk4, hx4⟩ := instP_ok hn.pbs ds3 [] yP fp [] sD sE [] hd3 F4 i4' (by rw [List.append_nil]; exact htk3) hRP2 hyP
      obtain ⟨_, _, p3, p4, p5, _⟩ := instP_mt _ _ _ _ _ i4
      have henv3 := (henv2.mono hx3).mono hx4
      have hbp3 := hbp3.mono hx4
      rw [← p4] at hbp3
      rw [← p3] at e3
      have hx3 := hx3.trans hx4
      have htk3 := htk4
      clear htk4
      have hden : ∀ cv, CvOk st' cv → st'.den cv = st.den cv := fun cv hcv => by
       cases cv with
       | bp k off =>
         have hk : k < s0.bx.length := by
          have : k < (st.bx.take s0.bx.length).length := hcv
          rw [List.length_take] at this
          omega
         simp only [St.den, St.idAt, hbx' k hk]
       | _ => rfl
      have hokv : ∀ c cv, CvR (hd.take sR.tb.length) st' c cv → CvOk st cv → CvOk st' cv := fun c cv hc ho => by
       cases c with
       | v x => obtain ⟨y, _, h2⟩ := hc; rcases h2 with rfl | ⟨rfl, _⟩ <;> trivial
       | bp k off => obtain ⟨rfl, h2⟩ := hc; exact h2
       | er r i sz off => obtain ⟨v, _, rfl, _⟩ := hc; exact ho
      refine ⟨st', hd4, Z2, F5, ⟨⟨?_, fun t e he => ?_, hbp3.1.symm, fun k b hk => ?_, fun b hb2 => h.ek.bf b (List.mem_of_mem_take hb2), fun q hq => (by cases hq), ?_⟩, htk3, h.fr, fun m k hk => hz2 m k (hT.z m k (h.z0 m k hk)), fun m k hk => ?_⟩, ⟨?_, fun t e he => ?_, ⟨fun b hb2 => hR.wok.boxes b (List.mem_of_mem_take hb2), fun b hb2 => hR.wok.own b (List.mem_of_mem_take hb2), ?_, hR.wok.fr, rfl⟩, hR.defers, fun b hb2 c hc => Nat.lt_succ_of_lt (hR.versB b (List.mem_of_mem_take hb2) c hc)⟩, hext.trans (hx2.trans hx3), fun k b hk => let ⟨b', g1, g2, _⟩ := hb' k b hk; ⟨b', g1, g2⟩⟩
      ·show (setS hn.slots yS (maskE pk 0 st.env)).length = sE.env.length
       rw [e3]
       exact henv3.1
      ·have he : sE.env[t]? = some (some e) := he
       rw [e3] at he
       exact henv3.2 t e he
      ·obtain ⟨b', q1, q2, q3, q4⟩ := hbp3.2 k b hk
       refine ⟨b', q1, q2, fun _ => all2_of (by simpa using q3) fun j x hxj => ?_⟩
       rw [List.getElem?_map] at hxj
       cases hbj : b.cs[j]? with
       | none => rw [hbj] at hxj; cases hxj
       | some z =>
         rw [hbj] at hxj
         obtain rfl := Option.some.inj hxj
         rcases q4 j z hbj with ⟨y, y1, _⟩ | ⟨c, c1, c2⟩
         ·cases y1
         ·exact ⟨c.1, by rw [List.getElem?_map, c1]; rfl, c2⟩
      ·exact h.ek.nd.sublist ((List.take_sublist _ _).map _)
      ·rcases hzn2 m k hk with hk | ⟨r, hk⟩
       ·rcases hT.zn m k hk with hk | ⟨r, hk⟩
        ·exact h.zg m k hk
        ·exact .inr (h.tk.sp.fm r k hk).2.2
       ·exact .inr (hTB.sp.fm r k hk).2.2
      ·show _ = (setS hn.slots yS (maskE pk 0 st.env)).length
       rw [setS_len, maskE_len]
       exact hR.size
      ·rcases setS_get _ _ _ _ _ he with he | ⟨i, sh, y, l1, l2, rfl⟩
       ·rw [maskE_get, Nat.zero_add] at he
        split at he
        ·rename_i hpt
         obtain ⟨e0, g1, g2⟩ := hpk t hpt
         obtain ⟨e', k1, _, k3⟩ := hkeep t e0 g1 g2
         rw [he] at k1
         obtain rfl := Option.some.inj (Option.some.inj k1)
         obtain ⟨p1, p2, p3, p4⟩ := hR.env t e he
         have hok := hokv _ _ k3 p3
         exact ⟨p1, by rw [hden _ hok]; exact p2, hok, Nat.lt_succ_of_lt p4⟩
        ·cases hq : st.env[t]? with
         | none => rw [hq] at he; cases he
         | some y => rw [hq] at he; cases he
       ·obtain ⟨y', q1, e', q2, q3⟩ := eS.get l1
        rw [l2] at q1
        obtain rfl := Option.some.inj q1
        obtain ⟨p1, p2, p3, p4⟩ := hR.env t e' q2
        exact ⟨rfl, by rw [p2, ← q3]; rfl, trivial, Nat.succ_pos _⟩
      ·exact hR.wok.nodup.sublist ((List.take_sublist _ _).map _)
    ·cases hp
   ·cases hp
  ·cases hp
 ·cases hp
end
end Go.Dw
end
section
namespace Go.Dw
open Go Go.Cw
set_option linter.unusedVariables false
theorem loop_any {α : Type} {P : Program} {Q : Exit → Act → World → Prop} {c : Code} (I : α → Act → World → Prop) (mu : α → Nat)
 (round : ∀ x a w, I x a w → c.wp P (Exit.then (fun a' w' => ∃ x', I x' a' w' ∧ mu x' < mu x) Q) a w) {x : α} {a : Act} {w : World} (h₀ : I x a w) : (Code.loop c).wp P Q a w := by
 intro b k cs
 have key : ∀ n x a w, mu x = n → I x a w →
  ∃ e a' w', Q e a' w' ∧ Arrives P (lone (b.at a (.code c :: .inLoop c :: k)) cs w) b k cs e a' w' := by
  intro n
  induction n using Nat.strongRecOn with
  | _ n ih =>
    intro x a w hn hI
    obtain ⟨e, a₁, w₁, hq, harr⟩ := round x a w hI b (.inLoop c :: k) cs
    cases e with
    | normal =>
      obtain ⟨x', hI₁, hlt⟩ := hq
      obtain ⟨e₂, a₂, w₂, hq₂, harr₂⟩ := ih (mu x') (hn ▸ hlt) x' a₁ w₁ rfl hI₁
      exact ⟨e₂, a₂, w₂, hq₂, .of_steps (Steps.trans harr (.one step_inLoop)) harr₂⟩
    | exit id => exact ⟨_, a₁, w₁, hq, .pass (x := .inLoop c) rfl (fun _ _ => .inl (by simp)) harr⟩
    | goto l => exact ⟨_, a₁, w₁, hq, .pass (x := .inLoop c) rfl (fun _ _ => .inl (by simp)) harr⟩
    | ret => exact ⟨_, a₁, w₁, hq, .pass (x := .inLoop c) rfl (fun _ _ => .inl (by simp)) harr⟩
    | panic ch => exact ⟨_, a₁, w₁, hq, .pass (x := .inLoop c) rfl (fun _ _ => .inl (by simp)) harr⟩
    | outgrown => exact ⟨_, a₁, w₁, hq, .pass (x := .inLoop c) rfl (fun _ _ => .inl (by simp)) harr⟩
 obtain ⟨e, a', w', hq, harr⟩ := key _ x a w rfl h₀
 exact ⟨e, a', w', hq, .of_steps (.one step_loop) harr⟩
section
variable {dcx : Dcx} {cx : Cx} {Gl : List (Nat × List Value)} {s s' : DS} {hd : List Value} {Z0 Z : Nat → Nat → Prop} {F : Nat → List Nat} {st : St} {w wa : World} {a : Act} {hs : DHs}
def DPost (cx : Cx) (Z0 : Nat → Nat → Prop) (s : DS) (hd : List Value) (st : St) (K : Exit → DS → Prop) (e : Exit) (a' : Act) (wa' : World) : Prop :=
 ∃ s' hd' Z' F' st' w', Lk cx Z0 s' hd' Z' F' st' w' ∧ RelO cx st' a' w' wa' ∧ DAgr s s' ∧ Ext hd hd' ∧ BxI st st' ∧ K e s'
theorem DPost.trans {s1 : DS} {hd1 : List Value} {st1 : St} {K : Exit → DS → Prop} {e : Exit} {a' : Act} {wa' : World} (hA : DAgr s s1) (hx : Ext hd hd1) (hb : BxI st st1) (h : DPost cx Z0 s1 hd1 st1 K e a' wa') : DPost cx Z0 s hd st K e a' wa' :=
 let ⟨s', hd', Z', F', st', w', h1, h2, h3, h4, h5, h6⟩ := h; ⟨s', hd', Z', F', st', w', h1, h2, hA.trans h3, hx.trans h4, hb.trans h5, h6⟩
theorem pack_nodup {hn : DHn} {ds : List D} {s0 : DS} (hp : dPack s0 hn s = some ds) : (hn.rows.map (·.1)).Nodup ∧ ∀ r, r ∈ hn.pbs.map (·.1) → r ∈ hn.dead := by
 unfold dPack at hp
 split at hp
 ·split at hp
  ·split at hp
   ·split at hp
    ·split at hp
     ·rename_i hk
      simp only [Bool.and_eq_true, decide_eq_true_eq] at hk
      refine ⟨hk.1.1.2, fun r hr => ?_⟩
      obtain ⟨x, hx, rfl⟩ := List.mem_map.1 hr
      simpa using List.all_eq_true.1 hk.2 x hx
     ·cases hp
    ·cases hp
   ·cases hp
  ·cases hp
 ·cases hp
theorem djoin_sound {hn : Option DHn} {K : DS → Prop} {p : (DS → Prop) → Prop} (h0 : Lk cx Z0 s hd Z F st w) {G : Prop} (h : dJoin hn s K p)
 (hp : ∀ KN : DS → Prop, (∀ s' hd' Z' F' st' w' a' wa', Lk cx Z0 s' hd' Z' F' st' w' → RelO cx st' a' w' wa' → DAgr s s' → Ext hd hd' → BxI st st' → KN s' → ∃ s2 hd2 Z2 F2 st2 w2, Lk cx Z0 s2 hd2 Z2 F2 st2 w2 ∧ RelO cx st2 a' w2 wa' ∧ DAgr s s2 ∧ Ext hd hd2 ∧ BxI st st2 ∧ K s2) → p KN → G) : G := by
 unfold dJoin at h
 split at h
 ·exact hp K (fun s' hd' Z' F' st' w' a' wa' h1 h2 h3 h4 h5 h6 => ⟨s', hd', Z', F', st', w', h1, h2, h3, h4, h5, h6⟩) h
 ·rename_i hh
  refine hp _ (fun s' hd' Z' F' st' w' a' wa' h1 h2 h3 h4 h5 h6 => ?_) (h (fun ds => onInst s hh ds K) (allSs_of _ fun _ h => h))
  unfold dJoinK at h6
  split at h6
  ·rename_i ds hpk
   unfold onInst at h6
   split at h6
   ·rename_i s2 hi
    obtain ⟨_, hj⟩ := join_ok h0 (Mid.refl hh s) h3 h4 h5 h1 h2 hpk
    obtain ⟨st2, hd2, Z2, F2, k1, k2, k3, k4⟩ := hj s2 hi
    exact ⟨s2, hd2, Z2, F2, st2, wa', k1, k2, (inst_agr (pack_nodup hpk).1 (pack_nodup hpk).2 hi).1, k3, k4, h6⟩
   ·exact h6.elim
  ·exact h6.elim
theorem Lk.dirty (h : Lk cx Z0 s hd Z F st w) (d : Bool) : Lk cx Z0 s hd Z F { st with dirty := d } w := ⟨⟨h.ek.el, h.ek.env, h.ek.bl, h.ek.bx, h.ek.bf, h.ek.pins, h.ek.nd⟩, h.tk, h.fr, h.z0, h.zg⟩
theorem dwp_sound (G : Gd0 dcx cx Gl Z0) (hok : OkFns cx) (hm : cx.P.follows .mixedOrders = true) : ∀ (c : Code) (s : DS) (hd : List Value) (Z : Nat → Nat → Prop) (F : Nat → List Nat) (st : St) (a : Act) (w wa : World) (K : Exit → DS → Prop), (∀ ch s, ¬ K (.panic ch) s) → Lk cx Z0 s hd Z F st w → RelO cx st a w wa → dwp dcx hs c s K →
 c.wp cx.P (DPost cx Z0 s hd st K) a wa := by
 intro c
 induction c with
 | skip => intro s hd Z F st a w wa K _ hL hR h; exact Go.wp_skip ⟨s, hd, Z, F, st, w, hL, hR, DAgr.refl s, Ext.refl _, BxI.refl _, h⟩
 | region id ops draw =>
   intro s hd Z F st a w wa K hKp hL hR h
   simp only [dwp] at h
   split at h
   ·rename_i hdd
    split at h
    ·rename_i hdr
     subst hdr
     split at h
     ·rename_i hc
      refine wp_region_any hm (wpAny_of_L (S := SS ops { st with dirty := true } { wa with drawn := wa.drawn + 1 }) _ _ _ _ ?_)
      have hR' : RelO cx { st with dirty := true } a w { wa with drawn := wa.drawn + 1 } := by
       have hc := hR.wok.chg
       exact ⟨hR.size, hR.env, ⟨hR.wok.boxes, hR.wok.own, hR.wok.nodup, ⟨hR.wok.fr.os, hR.wok.fr.tape, hR.wok.fr.output, hR.wok.fr.size, hR.wok.fr.block⟩, by
        simp only [if_true]; exact ⟨hc.os, hc.tape, hc.output, hc.size, hc.block⟩⟩, hR.defers, hR.versB⟩
      have hA : Agr st { st with dirty := true } := ⟨Nat.le_refl _, rfl, fun _ _ h _ => h, fun k b hb => ⟨b, hb, rfl, rfl, rfl, fun _ _ h _ => h⟩⟩
      refine draw_sound (k := Nx cx Z0 s hd (K .normal)) hok hdd hc (st0 := st) (fun st' a' w' wa' h1 h2 ⟨s', hd', Z', F', g1, g2, g3, g4⟩ => ⟨s', hd', Z', F', st', w', g1, h1, g2, g3, BxI.agr h2, g4⟩) (fun ch a' w' ⟨s', _, _, _, _, _, _, _, _, _, _, h3⟩ => hKp _ _ h3) _ _ _ _ _ _ _ ?_ ?_ (hR'.relR ops _) hA (drawd_ok G _ _ s hd Z F _ w (hL.dirty true) h)
      ·simp
      ·intro j o _ hj
       simp only [Array.getD_eq_getD_getElem?, Array.getElem?_replicate] at hj
       split at hj <;> simp at hj
     ·exact h.elim
    ·rename_i hdr
     have : draw = false := by simpa using hdr
     subst this
     refine wp_region_list (seq_sound (k := Nx cx Z0 s hd (K .normal)) hok hdd (st0 := st) (fun st' a' w' wa' h1 h2 ⟨s', hd', Z', F', g1, g2, g3, g4⟩ => ⟨s', hd', Z', F', st', w', g1, h1, g2, g3, BxI.agr h2, g4⟩) _ 0 st a w wa (fun m => by simp) (relR_dn (fun x => by simp) (hR.relR ops (fun _ => false))) (Agr.refl _) (seqd_ok G _ 0 s hd Z F st w hL h))
   ·exact h.elim
 | seq x y ihx ihy =>
   intro s hd Z F st a w wa K hKp hL hR h
   simp only [dwp] at h
   refine wp_seq (wp_mono (ihx s hd Z F st a w wa _ ?_ hL hR h) ?_)
   ·intro ch s hk; exact hKp ch s hk
   ·rintro e a' wa' ⟨s', hd', Z', F', st', w', h1, h2, h3, h4, h5, h6⟩
    cases e with
    | normal => exact wp_mono (ihy s' hd' Z' F' st' a' w' wa' K hKp h1 h2 h6) fun e a w h => h.trans h3 h4 h5
    | exit id => exact ⟨s', hd', Z', F', st', w', h1, h2, h3, h4, h5, h6⟩
    | goto l => exact ⟨s', hd', Z', F', st', w', h1, h2, h3, h4, h5, h6⟩
    | ret => exact ⟨s', hd', Z', F', st', w', h1, h2, h3, h4, h5, h6⟩
    | panic ch => exact absurd h6 (hKp _ _)
    | outgrown => exact ⟨s', hd', Z', F', st', w', h1, h2, h3, h4, h5, h6⟩
 | cond c x y ihx ihy =>
   intro s hd Z F st a w wa K hKp hL hR h
   simp only [dwp] at h
   split at h
   ·rename_i b hb
    obtain ⟨hev, _⟩ := rd_out hR (rd_plain hL.ek hb rfl)
    refine djoin_sound hL h fun KN hKN ⟨h1, h2⟩ => ?_
    have fin : ∀ (z : Code), (z.wp cx.P (DPost cx Z0 s hd st fun e s => match e with | .normal => KN s | e => K e s) a wa) → z.wp cx.P (DPost cx Z0 s hd st K) a wa := by
     intro z hz
     refine wp_mono hz ?_
     rintro e a' wa' ⟨s', hd', Z', F', st', w', g1, g2, g3, g4, g5, g6⟩
     cases e with
     | normal => exact hKN s' hd' Z' F' st' w' a' wa' g1 g2 g3 g4 g5 g6
     | exit id => exact ⟨s', hd', Z', F', st', w', g1, g2, g3, g4, g5, g6⟩
     | goto l => exact ⟨s', hd', Z', F', st', w', g1, g2, g3, g4, g5, g6⟩
     | ret => exact ⟨s', hd', Z', F', st', w', g1, g2, g3, g4, g5, g6⟩
     | panic ch => exact absurd g6 (hKp _ _)
     | outgrown => exact ⟨s', hd', Z', F', st', w', g1, g2, g3, g4, g5, g6⟩
    refine wp_cond_split (t := b) hev (fun hb => ?_) (fun hb => ?_)
    ·exact fin x (ihx s hd Z F st a w wa _ (fun ch s hk => hKp ch s hk) hL hR (h1 hb))
    ·exact fin y (ihy s hd Z F st a w wa _ (fun ch s hk => hKp ch s hk) hL hR (h2 hb))
   ·exact h.elim
 | block id c ih =>
   intro s hd Z F st a w wa K hKp hL hR h
   simp only [dwp] at h
   refine djoin_sound hL h fun KN hKN h1 => ?_
   refine wp_block (wp_mono (ih s hd Z F st a w wa _ ?_ hL hR h1) ?_)
   ·intro ch s hk; exact hKp ch s hk
   ·rintro e a' wa' ⟨s', hd', Z', F', st', w', g1, g2, g3, g4, g5, g6⟩
    cases e with
    | normal => exact hKN s' hd' Z' F' st' w' a' wa' g1 g2 g3 g4 g5 g6
    | exit id' =>
      simp only [Exit.inBlock]
      simp only at g6
      split at g6
      ·rename_i he
       rw [if_pos he]
       exact hKN s' hd' Z' F' st' w' a' wa' g1 g2 g3 g4 g5 g6
      ·rename_i he
       rw [if_neg he]
       exact ⟨s', hd', Z', F', st', w', g1, g2, g3, g4, g5, g6⟩
    | goto l => exact ⟨s', hd', Z', F', st', w', g1, g2, g3, g4, g5, g6⟩
    | ret => exact ⟨s', hd', Z', F', st', w', g1, g2, g3, g4, g5, g6⟩
    | panic ch => exact absurd g6 (hKp _ _)
    | outgrown => exact ⟨s', hd', Z', F', st', w', g1, g2, g3, g4, g5, g6⟩
 | loop c ih =>
   intro s hd Z F st a w wa K hKp hL hR h
   simp only [dwp] at h
   split at h
   ·exact h.elim
   ·rename_i hh _
    obtain ⟨I, mu, h1, h2⟩ := h
    unfold dJoinK at h1
    split at h1
    ·rename_i ds0 hp
     have hnd := pack_nodup hp
     obtain ⟨hall, hj⟩ := join_ok hL (Mid.refl hh s) (DAgr.refl s) (Ext.refl _) (BxI.refl _) hL hR hp
     let body (ds : List D) : Prop := I ds → onInst s hh ds fun s1 => dwp dcx hs c s1 fun e s' => match e with | .normal => dJoinK s1 hh (fun ds' => I ds' ∧ mu ds' < mu ds) s' | e => K e s'
     have hb0 : body ds0 := hall _ h2
     have hinst : ∀ ds, body ds → I ds → ∃ s1, s.inst hh ds = some s1 := fun ds hb hI => by
      have := hb hI
      unfold onInst at this
      split at this
      ·rename_i s1 hi; exact ⟨s1, hi⟩
      ·exact this.elim
     obtain ⟨s1, hi⟩ := hinst ds0 hb0 h1
     obtain ⟨st1, hd1, Z1, F1, k1, k2, k3, k4⟩ := hj s1 hi
     refine loop_any (I := fun (ds : List D) a' w' => ∃ s1 hd' Z' F' st', s.inst hh ds = some s1 ∧ Lk cx Z0 s1 hd' Z' F' st' w' ∧ RelO cx st' a' w' w' ∧ Ext hd hd' ∧ BxI st st' ∧ body ds ∧ I ds) mu ?_ (x := ds0) ⟨s1, hd1, Z1, F1, st1, hi, k1, k2, k3, k4, hb0, h1⟩
     rintro ds a' w' ⟨s1, hd1, Z1, F1, st1, hi, k1, k2, k3, k4, hb, hI⟩
     obtain ⟨hag, hmid⟩ := inst_agr hnd.1 hnd.2 hi
     have hbody := hb hI
     unfold onInst at hbody
     rw [hi] at hbody
     refine wp_mono (ih s1 hd1 Z1 F1 st1 a' w' w' _ ?_ k1 k2 hbody) ?_
     ·intro ch s hk; exact hKp ch s hk
     ·rintro e a2 wa2 ⟨s', hd', Z', F', st', w2, g1, g2, g3, g4, g5, g6⟩
      cases e with
      | normal =>
        simp only [dJoinK] at g6
        split at g6
        ·rename_i ds' hp'
         obtain ⟨hI', hmu⟩ := g6
         obtain ⟨hall', hj'⟩ := join_ok hL hmid g3 (k3.trans g4) (k4.trans g5) g1 g2 hp'
         have hb' : body ds' := hall' _ h2
         obtain ⟨s2, hi2⟩ := hinst ds' hb' hI'
         obtain ⟨st2, hd2, Z2, F2, q1, q2, q3, q4⟩ := hj' s2 hi2
         exact ⟨ds', ⟨s2, hd2, Z2, F2, st2, hi2, q1, q2, q3, q4, hb', hI'⟩, hmu⟩
        ·exact g6.elim
      | exit id => exact ⟨s', hd', Z', F', st', w2, g1, g2, hag.trans g3, k3.trans g4, k4.trans g5, g6⟩
      | goto l => exact ⟨s', hd', Z', F', st', w2, g1, g2, hag.trans g3, k3.trans g4, k4.trans g5, g6⟩
      | ret => exact ⟨s', hd', Z', F', st', w2, g1, g2, hag.trans g3, k3.trans g4, k4.trans g5, g6⟩
      | panic ch => exact absurd g6 (hKp _ _)
      | outgrown => exact ⟨s', hd', Z', F', st', w2, g1, g2, hag.trans g3, k3.trans g4, k4.trans g5, g6⟩
    ·exact h1.elim
 | exit id => intro s hd Z F st a w wa K _ hL hR h; exact wp_exit ⟨s, hd, Z, F, st, w, hL, hR, DAgr.refl s, Ext.refl _, BxI.refl _, h⟩
 | ret => intro s hd Z F st a w wa K _ hL hR h; exact wp_ret ⟨s, hd, Z, F, st, w, hL, hR, DAgr.refl s, Ext.refl _, BxI.refl _, h⟩
 | label l => intro s hd Z F st a w wa K _ hL hR h; exact wp_label ⟨s, hd, Z, F, st, w, hL, hR, DAgr.refl s, Ext.refl _, BxI.refl _, h⟩
 | rangeFunc f ps c d ih1 ih2 => intro s hd Z F st a w wa K _ hL hR h; exact h.elim
 | scope c ih =>
   intro s hd Z F st a w wa K hKp hL hR h
   simp only [dwp] at h
   refine wp_scope_straight (wp_mono (ih s hd Z F st a w wa _ ?_ hL hR h) ?_)
   ·intro ch s hk; exact hKp ch s hk
   ·rintro e a' wa' ⟨s', hd', Z', F', st', w', h1, h2, h3, h4, h5, h6⟩
    cases e with
    | normal => exact ⟨s', hd', Z', F', st', w', h1, h2, h3, h4, h5, h6⟩
    | exit id => exact ⟨s', hd', Z', F', st', w', h1, h2, h3, h4, h5, h6⟩
    | goto l => exact h6.elim
    | ret => exact ⟨s', hd', Z', F', st', w', h1, h2, h3, h4, h5, h6⟩
    | panic ch => exact absurd h6 (hKp _ _)
    | outgrown => exact ⟨s', hd', Z', F', st', w', h1, h2, h3, h4, h5, h6⟩
 | goto l => intro s hd Z F st a w wa K _ hL hR h; exact h.elim
 | refuse s => intro s hd Z F st a w wa K _ hL hR h; exact h.elim
end
end Go.Dw
end
section
namespace Go.Dw
open Go Go.Cw
set_option linter.unusedVariables false
section
variable {dcx : Dcx} {cx : Cx} {Gl : List (Nat × List Value)} {s s' : DS} {hd : List Value} {Z0 Z : Nat → Nat → Prop} {F : Nat → List Nat} {st : St} {w wa : World} {a : Act} {hs : DHs} {E E0 : Nat → Nat → Prop} {I : Nat → Prop}
theorem Tk.nolo {tb : List (Te × Nat)} {lo : List Nat} (h : Tk cx tb hd E Z F none lo I w) : Tk cx tb hd E Z F none [] I w :=
 ⟨h.hl, fun r t c hr => let ⟨v, h1, h2⟩ := h.te r t c hr; ⟨v, h1, h2.mono (fun _ _ _ => rfl) (fun _ _ h => h) (Ext.refl _) (fun _ _ h => h) rfl (fun r0 pos e sub es _ m k hk => by
  rcases hk with hk | hk | hk | ⟨hk, _⟩
  ·exact .inl hk
  ·exact .inr (.inl hk)
  ·exact .inr (.inr (.inl hk))
  ·cases hk) fun k hk => (h.sp.fm r k hk).1⟩, h.f0, ⟨h.sp.fd, h.sp.fj, .nil, fun r k hk => (by cases hk), fun k hk => ⟨fun hh => (by cases hh), (h.sp.il k hk).2⟩, fun m k hk => let ⟨a, b, _, d⟩ := h.sp.z m k hk; ⟨a, b, fun hh => (by cases hh), d⟩, h.sp.z2, h.sp.fm, fun k hk => (by cases hk), h.sp.im⟩, h.n0, h.np⟩
theorem argFill_strs {s2 : DS} : ∀ (ps : List Pm) (ls : List (List Value)) (s s1 : DS) (ds : List (List D)), argTake ps ls s = some (ds, s1) → (ps.all fun p => Shp.strs p.sub) = true → argFill s2 ps ls ds = some ds
 | [], ls, s, s1, ds, h, _ => by
   cases ls with
   | nil =>
     simp only [argTake, Option.some.injEq, Prod.mk.injEq] at h
     obtain ⟨rfl, rfl⟩ := h
     rfl
   | cons _ _ => simp [argTake] at h
 | p :: ps, ls, s, s1, ds, h, hs => by
   cases ls with
   | nil => simp [argTake] at h
   | cons l ls =>
     simp only [List.all_cons, Bool.and_eq_true] at hs
     simp only [argTake, hs.1, if_true] at h
     split at h
     ·split at h
      ·rename_i ds' s3 h2
       simp only [Option.some.injEq, Prod.mk.injEq] at h
       obtain ⟨rfl, rfl⟩ := h
       simp only [argFill, hs.1, if_true, ite_self, argFill_strs ps ls _ _ _ h2 hs.2]
      ·cases h
     ·cases h
theorem RepA.append {ps ps' : List Pm} {ds ds' : List (List D)} {vs vs' : List Value} {f f' : List Nat} (h : RepA w Z ps ds vs f) (h' : RepA w Z ps' ds' vs' f') : RepA w Z (ps ++ ps') (ds ++ ds') (vs ++ vs') (f ++ f') := by
 induction h with
 | nil => exact h'
 | cons h1 h2 _ ih =>
   rw [List.append_assoc]
   exact .cons h1 h2 ih
 | nilp h1 _ ih => exact .nilp h1 ih
theorem CRa.flat {x y : Value} (h : CRa hd E x y) (h1 : ∀ xs, x ≠ .agg xs) : CRf hd E x y := by
 cases x <;> first | exact h | exact absurd rfl (h1 _)
theorem giveD_ok {vals vs : List Value} : ∀ (l : List (Nat × Shp)) (s s' : DS) (ds : List (List D)) (Z : Nat → Nat → Prop) (F : Nat → List Nat) (lo : List Nat) (I : Nat → Prop), Tk cx s.tb hd E Z F none lo I w → Bw s.bx hd E E0 I w → All2 (CRa hd E) vals vs → giveD vals l s = some (ds, s') →
 ∃ f Z1 F1 I1, Tk cx s'.tb hd E Z1 F1 none (f ++ lo) I1 w ∧ (∀ m k, Z m k → Z1 m k) ∧ (∀ m k, Z1 m k → Z m k ∨ ∃ r, k ∈ F r) ∧ (∀ r k, k ∈ F1 r → k ∈ F r) ∧ RepA w Z1 (l.map fun x => ⟨false, [x.2], false⟩) ds (l.map fun x => vs.getD x.1 undef) f
 | [], s, s', ds, Z, F, lo, I, h, hb, hv, hg => by
   simp only [giveD, Option.some.injEq, Prod.mk.injEq] at hg
   obtain ⟨rfl, rfl⟩ := hg
   exact ⟨[], Z, F, I, h, fun _ _ h => h, fun _ _ h => .inl h, fun _ _ h => h, .nil⟩
 | (i, sh) :: l, s, s', ds, Z, F, lo, I, h, hb, hv, hg => by
   simp only [giveD] at hg
   split at hg
   ·rename_i v hvi
    split at hg
    ·rename_i d s1 h1
     split at hg
     ·rename_i ds' s2 h2
      simp only [Option.some.injEq, Prod.mk.injEq] at hg
      obtain ⟨rfl, rfl⟩ := hg
      obtain ⟨y, y1, y2⟩ := hv.get hvi
      obtain ⟨f1, Z1, F1, I1, T1, S1, R1⟩ := take_ok (E0 := E0) none sh v y s s1 d Z F lo I h (fun _ => hb) (y2.flat (take_flat h1).1) h1
      obtain ⟨f2, Z2, F2, I2, T2, z2, zn2, S2, R2⟩ := giveD_ok l s1 s2 ds' Z1 F1 (f1 ++ lo) I1 T1.tk (T1.bw rfl) hv h2
      refine ⟨f1 ++ f2, Z2, F2, I2, T2.perm (fun k => by simp only [List.mem_append, ← or_assoc]; rw [or_comm (a := k ∈ f2)]) ?_, fun m k hk => z2 m k (T1.z m k hk), fun m k hk => ?_, fun r k hk => S1 r k (S2 r k hk), ?_⟩
      ·have hln := T2.sp.ln
       rw [← List.append_assoc] at hln
       exact ((List.perm_append_comm (l₁ := f2) (l₂ := f1)).append_right lo).nodup_iff.1 hln
      ·rcases zn2 m k hk with hk | ⟨r, hk⟩
       ·exact T1.zn m k hk
       ·exact .inr ⟨r, S1 r k hk⟩
      ·have hy : vs.getD i undef = Pm.mk' ⟨false, [sh], false⟩ [y] := by
        simp [Pm.mk', List.getD_eq_getElem?_getD, y1]
       simp only [List.map_cons]
       rw [hy]
       have hR : Reps w Z2 [sh] [d] [y] f1 := by
        have := Reps.cons (Rep.kept (fun _ _ _ _ => rfl) z2 R1 fun _ _ => rfl) (Reps.nil (w := w) (Z := Z2))
        rw [List.append_nil] at this
        exact this
       exact .cons hR (fun _ => rfl) R2
     ·cases hg
    ·cases hg
   ·cases hg
theorem dRes_ok {P : Program} (hP : P = cx.P) (h : Lk cx Z0 s hd Z F st w) (hR : RelO cx st a w wa) (he : ∀ b ∈ st.bx, b.esc = true) {r : ResultVar} {v : Value} (hr : dRes P s r = some v) : ∃ y, (resG a.tmps r).run cx.P wa = .ok y wa ∧ CR hd (BxE st) v y := by
 subst hP
 cases r with
 | tmp t =>
   simp only [dRes] at hr
   split at hr
   ·rename_i cv hcv
    obtain ⟨cv', h1, h2⟩ := rd_ok h.ek hcv
    have h3 := (rd_out hR h1).1
    simp only [Act.eval] at h3
    refine ⟨st.den cv', by simp only [resG, h3, Sem.run_pure], ?_⟩
    cases cv with
    | v x =>
      obtain rfl := Option.some.inj hr
      obtain ⟨y, c1, c2⟩ := h2
      have : st.den cv' = y := by rcases c2 with c2 | ⟨c2, _⟩ <;> (rw [c2]; rfl)
      rw [this]
      exact c1
    | bp k off =>
      obtain rfl := Option.some.inj hr
      obtain ⟨c1, c2⟩ := h2
      rw [c1]
      refine .inr ⟨by simp [evenB], st.idAt k, ?_, rfl⟩
      show BxE st ((2 * k + 1) / 2) _
      rw [show (2 * k + 1) / 2 = k by omega]
      exact ⟨st.bx[k], List.getElem?_eq_getElem c2, (idAt_get (List.getElem?_eq_getElem c2)).symm, he _ (List.getElem_mem c2)⟩
    | er r i sz off =>
      simp only [DC.val] at hr
      split at hr
      ·rename_i hc
       obtain ⟨rfl, rfl, rfl⟩ := hc
       obtain rfl := Option.some.inj hr
       obtain ⟨u, hu, c1, hz⟩ := h2
       rw [c1]
       exact er_val hu (hz rfl)
      ·cases hr
   ·cases hr
 | cell ad t =>
   simp only [dRes] at hr
   split at hr
   ·rename_i k off hcv
    split at hr
    ·rename_i b d hb hd'
     split at hr
     ·rename_i hc
      obtain ⟨hc1, hc2, hc3⟩ := hc
      obtain rfl := Option.some.inj hr
      obtain ⟨cv', h1, h2, h3⟩ := rd_ok h.ek hcv
      subst h2
      obtain ⟨b', g1, g2, g3⟩ := h.ek.bx k b hb
      have hcs := g3 hc3
      have h4 := (rd_out hR h1).1
      simp only [Act.eval, St.den, idAt_get g1] at h4
      obtain ⟨i, hi, hsz⟩ := underlying_info hd'
      have hA : All2 (CRf hd (BxE st)) (((b.cs.drop off).take (cx.P.cellsOf t)).map (·.1)) (((b'.cs.map (·.1)).drop off).take (cx.P.cellsOf t)) := by
       have := (hcs.drop off).take (cx.P.cellsOf t)
       rw [← List.map_drop, ← List.map_take] at this
       exact this
      have hl := hA.len
      have hld := loadCells_box (P := cx.P) (hR.wok.boxes b' (List.mem_of_getElem? g1)) off (cx.P.cellsOf t) _ rfl (by rw [hl]; exact hc1)
      refine ⟨.agg (((b'.cs.map (·.1)).drop off).take (cx.P.cellsOf t)).toArray, ?_, _, rfl, hA⟩
      simp only [resG, h4, asAddr, Sem.run_bind, Sem.run_pure, Result.andThen_ok, loadVar, isAgg_run hd', hc2, if_true, sizeOf_run hi, hsz, hld]
     ·cases hr
    ·cases hr
   ·cases hr
theorem dResAll_ok {P : Program} (hP : P = cx.P) (h : Lk cx Z0 s hd Z F st w) (hR : RelO cx st a w wa) (he : ∀ b ∈ st.bx, b.esc = true) : ∀ {l : List ResultVar} {vs : List Value}, dResAll P s l = some vs → ∃ ys, (l.mapM (resG a.tmps)).run cx.P wa = .ok ys wa ∧ All2 (CR hd (BxE st)) vs ys
 | [], vs, hr => by
   obtain rfl := Option.some.inj hr
   exact ⟨[], by simp, .nil⟩
 | r :: l, vs, hr => by
   simp only [dResAll] at hr
   split at hr
   ·rename_i v vs' h1 h2
    obtain rfl := Option.some.inj hr
    obtain ⟨y, k1, k2⟩ := dRes_ok hP h hR he h1
    obtain ⟨ys, j1, j2⟩ := dResAll_ok hP h hR he h2
    exact ⟨y :: ys, by simp [List.mapM_cons, k1, j1], .cons k2 j2⟩
   ·cases hr
def entryC (s : DS) (v y : Value) : CV :=
 match entryD s v with
 | .er _ _ _ _ => .ep (baseOf y) 0
 | _ => .v y
theorem entry_ok {lt : Option Nat} {lo : List Nat} (h : Tk cx s.tb hd E Z F lt lo I w) {v y : Value} (hv : CRa hd E v y) :
 (entryC s v y = .v y ∧ entryD s v = .v v) ∨ ∃ r q, entryD s v = .er r 0 0 0 ∧ y = .pointer (some q) ∧ entryC s v y = .ep (some q) 0 ∧ hd[r]? = some y := by
 have other : (∀ p, v ≠ .pointer (some p)) → entryC s v y = .v y ∧ entryD s v = .v v := by
  intro hn
  have : entryD s v = .v v := by
   unfold entryD
   split
   ·exact absurd rfl (hn _)
   ·rfl
  exact ⟨by unfold entryC; rw [this], this⟩
 by_cases hp : ∃ p, v = .pointer (some p)
 ·obtain ⟨p, rfl⟩ := hp
  have hv : CRl hd E (.pointer (some p)) y := hv
  by_cases hc : p.off = 0 ∧ evenB p = true
  ·cases ht : s.tbAt (p.block / 2) with
   | pbx md t cs =>
     obtain ⟨c, u, _, k2, cs', k3, k4⟩ := h.at (r := p.block / 2) (t := .pbx md t cs) ht (by simp)
     rcases hv with ⟨_, _, _, hy⟩ | ⟨h1, _⟩
     ·rw [hy] at k2
      obtain rfl := Option.some.inj k2
      have : ∃ q, y = .pointer (some q) := by
       rcases k4 with ⟨_, b, k4, _⟩ | ⟨_, q, k4, _⟩ <;> exact ⟨_, k4⟩
      obtain ⟨q, rfl⟩ := this
      have e : entryD s (.pointer (some p)) = .er (p.block / 2) 0 0 0 := by simp only [entryD, if_pos hc, ht]
      exact .inr ⟨_, q, e, rfl, by unfold entryC; rw [e]; rfl, hy⟩
     ·rw [hc.2] at h1; cases h1
   | _ =>
     have e : entryD s (.pointer (some p)) = .v (.pointer (some p)) := by simp only [entryD, if_pos hc, ht]
     exact .inl ⟨by unfold entryC; rw [e], e⟩
  ·have e : entryD s (.pointer (some p)) = .v (.pointer (some p)) := by simp only [entryD, if_neg hc]
   exact .inl ⟨by unfold entryC; rw [e], e⟩
 ·exact .inl (other fun p hp' => hp ⟨p, hp'⟩)
theorem spec_of {P : Program} (hP : dcx.P = P) (hok : ∀ f, dcx.ok f = true → ∀ args w, (callFunc f args).run P w = .ok (.enter f args) w) (hm : P.follows .mixedOrders = true) (hsp : ∀ g, ∀ S ∈ dcx.sp g, SpecOk P Gl g S)
 {g : FuncId} {fn : Func} {c : Code} (hf : P.funcs[g]? = some fn) (hb : fn.body = some c) {S : Spec} (hs : DHs)
 (h : ∀ (x : S.α) (dss : List (List D)), S.In x dss → dFn dcx hs fn S.as S.rs S.af dss (S.Out x)) : SpecOk P Gl g S := by
 intro x w Z vs f hpre hrep hfn hfz hz hw hgl
 have hform := h x (S.arg x) ⟨rfl, hpre⟩
 unfold dFn at hform
 split at hform
 ·rename_i vals s0 hmat
  let cx : Cx := ⟨P, (· ∈ f), w, dcx.ok⟩
  have hdone : fn.body.getD .skip = c := by rw [hb]; rfl
  rw [hdone] at hform
  have htk0 : Tk cx DS.empty.tb [] (BxE (st0 fn.ntmps (vs.map .v) [])) Z (fun _ => []) none (f ++ []) (· ∈ (st0 fn.ntmps (vs.map .v) []).ids) w := by
   rw [List.append_nil]
   refine ⟨rfl, fun r t c hr => (by simp [DS.empty] at hr), fun _ _ => rfl, ⟨fun _ => .nil, fun _ _ _ hk => (by cases hk), hfn, fun _ _ _ hk => (by cases hk), fun k hk => (by simp [St.ids, st0] at hk), fun m k hk => ⟨(hz m k hk).1, fun hh => (by simp [St.ids, st0] at hh), fun hm => (hfz k hm).2 m hk, fun _ hh => (by cases hh)⟩, fun m k hk => (hz m k hk).2, fun _ _ hk => (by cases hk), fun k hk => ⟨hrep.lt k hk, (hfz k hk).1, .inr hk⟩, fun k hk => (by simp [St.ids, st0] at hk)⟩, Nat.le_refl _, hw⟩
  obtain ⟨hd1, F1, k1, k2, k3, k4, k5⟩ := matR_ok S.as (S.arg x) DS.empty s0 [] (fun _ => []) [] vs vals f htk0 hrep hmat
  have hlen := k5.len
  generalize hcvs : List.zipWith (entryC s0) vals vs = cvs
  have hcl : cvs.length = vals.length := by rw [← hcvs, List.length_zipWith]; omega
  have hcg : ∀ (i : Nat) (v : Value), vals[i]? = some v → ∃ y, vs[i]? = some y ∧ CRa hd1 (BxE (st0 fn.ntmps cvs [])) v y ∧ cvs[i]? = some (entryC s0 v y) := by
   intro i v hv
   obtain ⟨y, y1, y2⟩ := k5.get hv
   exact ⟨y, y1, y2, by rw [← hcvs, List.getElem?_zipWith, hv, y1]⟩
  have hLk : Lk cx Z (dSt0 fn.ntmps vals s0) hd1 Z F1 (st0 fn.ntmps cvs []) w := by
   refine ⟨⟨?_, fun t e he => ?_, ?_, fun k b hk => ?_, fun b hb => ?_, fun q hq => ?_, ?_⟩, k1, Fr.refl _ _, fun _ _ h => h, fun _ _ h => .inl h⟩
   ·simp [st0, dSt0, hcl]
   ·simp only [dSt0] at he
    rw [List.getElem?_append] at he
    split at he
    ·rename_i hlt
     rw [List.getElem?_map] at he
     obtain ⟨v, h1, h2⟩ := Option.map_eq_some_iff.1 he
     obtain rfl := Option.some.inj h2
     obtain ⟨y, y1, y2, y3⟩ := hcg _ _ h1
     refine ⟨⟨entryC s0 v y, [], 0⟩, ?_, rfl, ?_⟩
     ·simp only [st0]
      rw [List.getElem?_append_left (by simpa using get_lt y3)]
      simp [y3]
     ·rcases entry_ok k1 y2 with ⟨e1, e2⟩ | ⟨r, q, e1, rfl, e2, e3⟩
      ·rw [e1]
       show CvR _ _ (entryD s0 v) _
       rw [e2]
       exact ⟨y, y2.cr, .inl rfl⟩
      ·rw [e2]
       show CvR _ _ (entryD s0 v) _
       rw [e1]
       exact ⟨_, e3, rfl, fun _ => rfl⟩
    ·rw [List.getElem?_replicate] at he
     split at he
     ·cases Option.some.inj he
     ·cases he
   ·show [].length = s0.bx.length
    rw [k4]; rfl
   ·have hk : s0.bx[k]? = some b := hk
    rw [k4] at hk
    simp [DS.empty] at hk
   ·simp [st0] at hb
   ·simp [st0] at hq
   ·simp [St.ids, st0]
  have hG : Gd0 dcx cx Gl Z := ⟨hP, rfl, hsp, hgl, fun m k hk => ⟨(hz m k hk).1, fun hm => (hfz k hm).2 m hk⟩⟩
  have hokF : OkFns cx := hok
  have hcv : ∀ (i : Nat) (cv : CV), cvs[i]? = some cv → CvOk (st0 fn.ntmps cvs []) cv ∧ ∃ y, vs[i]? = some y ∧ (st0 fn.ntmps cvs []).den cv = y := by
   intro i cv hi
   have hlt := get_lt hi
   obtain ⟨y, y1, y2, y3⟩ := hcg i vals[i] (List.getElem?_eq_getElem (by omega))
   rw [hi] at y3
   obtain rfl := Option.some.inj y3
   rcases entry_ok k1 y2 with ⟨e1, e2⟩ | ⟨r, q, e1, rfl, e2, e3⟩
   ·rw [e1]; exact ⟨trivial, y, y1, rfl⟩
   ·rw [e2]
    exact ⟨rfl, _, y1, by show Value.pointer (offA (some q) 0) = _; rw [offA_zero]⟩
  have hinit := init_rel (cx := cx) (n := fn.ntmps) (cvs := cvs) (bx := []) (fun cv hc => by obtain ⟨i, hi⟩ := List.getElem?_of_mem hc; exact (hcv i cv hi).1) (fun b hb => by cases hb) (by simp) (fun b hb => by cases hb)
  have hden : cvs.map (st0 fn.ntmps cvs []).den = vs := by
   apply List.ext_getElem?
   intro i
   rw [List.getElem?_map]
   cases hi : cvs[i]? with
   | none =>
     have := List.getElem?_eq_none_iff.1 hi
     rw [List.getElem?_eq_none (by omega)]; rfl
   | some cv =>
     obtain ⟨_, y, h1, h2⟩ := hcv i cv hi
     rw [h1, Option.map_some, h2]
  rw [hden] at hinit
  refine calls_of_wp hf hb ?_
  refine wp_mono (dwp_sound hG hokF hm c _ _ _ _ _ _ _ _ _ ?_ hLk hinit hform) ?_
  ·intro ch s h; exact h
  ·rintro e a' wa' ⟨s', hd', Z', F', st', w', hL, hR, hA, hX, hBI, hK⟩
   have fin : dTop dcx fn S.rs S.af vals (S.Out x) .ret s' → a'.defers = [] ∧ ∃ v, (results fn a'.tmps).run P wa' = .ok v wa' ∧ ∃ rs, Ending.returned v = .returned (retV rs) ∧ Fr (· ∈ f) w wa' ∧ ∃ fr Z'', fr.Nodup ∧ (∀ k ∈ fr, k ∈ f ∨ w.heap.size ≤ k) ∧ (∀ m k, Z'' m k → (Z m k ∨ k ∈ f ∨ w.heap.size ≤ k) ∧ ¬ k ∈ fr ∧ k < wa'.heap.size) ∧
    RepA wa' Z'' S.ps (S.out x) (rs ++ S.af.map fun x => vs.getD x.1 undef) fr := by
    intro hK
    simp only [dTop] at hK
    split at hK
    ·rename_i vr hvr
     split at hK
     ·rename_i l hal
      split at hK
      ·rename_i ds s1 hat
       split at hK
       ·rename_i da s2 hgd
        split at hK
        ·rename_i hc
         obtain ⟨hnt, hstr, hstr2⟩ := hc
         obtain ⟨hL2, hR2⟩ := rest_ok hL hR
         have hesc := markAll_esc st'.clean
         have hXE : ∀ k b, BxE (st0 fn.ntmps cvs []) k b → BxE (markAll st'.clean) k b := fun k b ⟨y, y1, _⟩ => by simp [st0] at y1
         generalize markAll st'.clean = stM at hL2 hR2 hesc hXE
         obtain ⟨ys, y1, y2⟩ := dResAll_ok hP hL2 hR2 hesc hvr
         have hbox : ∀ b ∈ stM.bx, b.esc = true → Box wa' b.id (b.cs.map (·.1)) b.ty := fun b hb' _ => hR2.wok.boxes b hb'
         have hBw := bw_of hL2 hbox
         obtain ⟨f1, Z1, F1', I1, T1, S1, R1⟩ := argTake_ok S.rs l ys s' s1 ds Z' F' [] _ hL2.tk hBw (argLvs_ok S.rs vr ys l y2 hal hnt) hat
         have R1' := R1 s1 ds Z1 F1' I1 T1.tk.nolo (T1.bw rfl) (fun _ _ h => h) (argFill_strs _ _ _ _ _ hat hstr)
         have R1s : RepA wa' Z1 S.rs ds ys f1 := R1'.strict (fun k hk => by
          rcases hk with hk | ⟨h2, _⟩
          ·exact hk
          ·cases h2) hstr
         obtain ⟨f2, Z2, F2, I2, T2, z2, zn2, S2, R2⟩ := giveD_ok S.af s1 s2 da Z1 F1' (f1 ++ []) I1 T1.tk (T1.bw rfl) ((show All2 (CRa hd1 (BxE (st0 fn.ntmps cvs []))) vals vs from k5).mono fun a b h => h.mono hX hXE) hgd
         have hln := T2.sp.ln
         rw [List.append_nil] at hln
         have hmem : ∀ k ∈ f1 ++ f2, k ∈ f2 ++ (f1 ++ []) := fun k hk => by
          rw [List.append_nil]
          exact List.mem_append.2 (List.mem_append.1 hk).symm
         refine ⟨hR.defers, retV ys, results_run y1, ys, rfl, hR.wok.fr, f1 ++ f2, Z2, ((List.perm_append_comm (l₁ := f2) (l₂ := f1)).nodup_iff).1 hln, fun k hk => ?_, fun m k hk => ⟨?_, fun hm => ?_, ?_⟩, ?_⟩
         ·rcases (T2.sp.lm k (hmem k hk)).2.2 with h1 | h1
          ·exact .inr h1
          ·exact .inl h1
         ·have hz1 : ∀ m k, Z' m k → Z m k ∨ k ∈ f ∨ w.heap.size ≤ k := fun m k hk => by
           rcases hL2.zg m k hk with h1 | h1 | h1
           ·exact .inl h1
           ·exact .inr (.inr h1)
           ·exact .inr (.inl h1)
          have hf1 : ∀ r k, k ∈ F' r → Z m k ∨ k ∈ f ∨ w.heap.size ≤ k := fun r k hk => by
           rcases (hL2.tk.sp.fm r k hk).2.2 with h1 | h1
           ·exact .inr (.inr h1)
           ·exact .inr (.inl h1)
          rcases zn2 m k hk with hk | ⟨r, hk⟩
          ·rcases T1.zn m k hk with hk | ⟨r, hk⟩
           ·exact hz1 m k hk
           ·exact hf1 r k hk
          ·exact hf1 r k (S1 r k hk)
         ·exact (T2.sp.z m k hk).2.2.1 (hmem k hm)
         ·exact (T2.sp.z m k hk).1
         ·have hout : S.out x = ds ++ da := hK
          rw [hout]
          exact (R1s.kept (fun _ _ _ _ => rfl) z2 fun _ _ => rfl).append R2
        ·exact hK.elim
       ·exact hK.elim
      ·exact hK.elim
     ·exact hK.elim
    ·exact hK.elim
   cases e with
   | normal => exact fin hK
   | ret => exact fin hK
   | exit id => exact hK.elim
   | goto l => exact hK.elim
   | panic ch => exact hK.elim
   | outgrown => exact hK.elim
 ·exact hform.elim
end
end Go.Dw
end
section
namespace Go.Dw
open Go Go.Cw
set_option linter.unusedVariables false
end Go.Dw
end
section
namespace Go.Dw
open Go Go.Cw
set_option linter.unusedVariables false
/-! ### Leaves -/
abbrev wi (x : Int) : Int := IntKind.wrap .i64 x
abbrev wu (x : Int) : Int := IntKind.wrap .u64 x
abbrev w8 (x : Int) : Int := IntKind.wrap .u8 x
section
variable {ρ : Type}
def oI (k : IntKind) (r : List D) (K : Int → List D → Option ρ) : Option ρ := match r with | .v (.int k' n) :: r => if k = k' then K n r else none | _ => none
def oB (r : List D) (K : Bool → List D → Option ρ) : Option ρ := match r with | .v (.bool b) :: r => K b r | _ => none
def oT (r : List D) (K : ByteArray → List D → Option ρ) : Option ρ := match r with | .v (.string b) :: r => K b r | _ => none
def oL (r : List D) (K : List (List D) → List D → Option ρ) : Option ρ := match r with | .l es :: r => K es r | _ => none
def oP (r : List D) (K : List D → List D → Option ρ) : Option ρ := match r with | .p ds :: r => K ds r | _ => none
def oF (r : List D) (K : List D → List D → Option ρ) : Option ρ := match r with | .f ds :: r => K ds r | _ => none
def oN (r : List D) (K : Option ρ) : Option ρ := match r with | [] => K | _ => none
def oC (a : List (List D)) (K : List D → List (List D) → Option ρ) : Option ρ := match a with | r :: a => K r a | _ => none
def oZ (a : List (List D)) (K : Option ρ) : Option ρ := match a with | [] => K | _ => none
def oE (o : Option (List D)) (K : List D → Option ρ) : Option ρ := match o with | some ds => K ds | none => none
def oQ (r : List D) (A B : Option ρ) : Option ρ := match r with | [.v (.pointer none)] => B | _ => A
def oR (o : Option (List (List D))) (K : List (List D) → Option ρ) : Option ρ := match o with | some ds => K ds | none => none
def oK (b : Bool) (K : Option ρ) : Option ρ := cond b K none
/-! The same, for arguments. -/
abbrev aI (k : IntKind) (r : List D) (K : Int → List D → Option ρ) : Option ρ := match r with | .v (.int k' n) :: r => if k = k' then K n r else none | _ => none
abbrev aB (r : List D) (K : Bool → List D → Option ρ) : Option ρ := match r with | .v (.bool b) :: r => K b r | _ => none
abbrev aT (r : List D) (K : ByteArray → List D → Option ρ) : Option ρ := match r with | .v (.string b) :: r => K b r | _ => none
abbrev aL (r : List D) (K : List (List D) → List D → Option ρ) : Option ρ := match r with | .l es :: r => K es r | _ => none
abbrev aP (r : List D) (K : List D → List D → Option ρ) : Option ρ := match r with | .p ds :: r => K ds r | _ => none
abbrev aF (r : List D) (K : List D → List D → Option ρ) : Option ρ := match r with | .f ds :: r => K ds r | _ => none
abbrev aN (r : List D) (K : Option ρ) : Option ρ := match r with | [] => K | _ => none
abbrev aC (a : List (List D)) (K : List D → List (List D) → Option ρ) : Option ρ := match a with | r :: a => K r a | _ => none
abbrev aZ (a : List (List D)) (K : Option ρ) : Option ρ := match a with | [] => K | _ => none
def oX (es : List (List D)) (i : Int) (K : List D → Option ρ) : Option ρ := oK (decide (0 ≤ i) && decide (i < (es.length : Int))) (oE es[i.toNat]? K)
def oA (n m : Nat) (K : Option ρ) : Option ρ := oK (decide (n * m ≤ 140737488355328) && decide (n ≤ 9223372036854775807)) K
def oV (n c : Int) (m : Nat) (K : Option ρ) : Option ρ := oK (((decide (0 ≤ n) && decide (n ≤ c)) && decide (c.toNat * m ≤ 140737488355328)) && decide (c.toNat ≤ 9223372036854775807)) K
open Classical in
noncomputable def bothO (a b : Option ρ) : Option ρ := if a = b then a else none
noncomputable def oM (n : Nat) (ng : Bool) (K : Bool → Option ρ) : Option ρ := match n with | 0 => bothO (K true) (K false) | _ + 1 => K ng
def joinO (J : List D → Option ρ) (p : (List D → Option ρ) → Option ρ) : Option ρ := p J
def joinsO (J : List (List D) → Option ρ) (p : (List (List D) → Option ρ) → Option ρ) : Option ρ := p J
def inrO (o : Option ρ) : Option (List D ⊕ ρ) := match o with | some r => some (.inr r) | none => none
def inlO (o : Option (List D)) : Option (List D ⊕ ρ) := match o with | some r => some (.inl r) | none => none
def loopN (step : List D → Option (List D ⊕ ρ)) : Nat → List D → Option ρ
 | 0, _ => none
 | n + 1, s => match step s with | some (.inl s') => loopN step n s' | some (.inr r) => some r | none => none
theorem loop_ex (ρ : Type) : ∃ f : List D → (List D → Option (List D ⊕ ρ)) → Option ρ, ∀ s step, f s step = loopN step 18446744073709551616 s := ⟨fun s step => loopN step 18446744073709551616 s, fun _ _ => rfl⟩
noncomputable def loopO (s : List D) (step : List D → Option (List D ⊕ ρ)) : Option ρ := Classical.choose (loop_ex ρ) s step
theorem loopO_eq (s : List D) (step : List D → Option (List D ⊕ ρ)) : loopO s step = loopN step 18446744073709551616 s := Classical.choose_spec (loop_ex ρ) s step
mutual
def xS : Shp → List D → (D → List D → Option ρ) → Option ρ
 | .v (.int k), r, K => oI k r fun n r => K (.v (.int k n)) r
 | .v .bool, r, K => oB r fun b r => K (.v (.bool b)) r
 | .v .str, r, K => oT r fun b r => K (.v (.string b)) r
 | .v _, _, _ => none
 | .l _ _ _, r, K => oL r fun es r => K (.l es) r
 | .p _ _ sub, r, K => oP r fun ds r => xSs sub ds fun ds => K (.p ds) r
 | .f _ sub, r, K => oF r fun ds r => xSs sub ds fun ds => K (.f ds) r
def xSs : List Shp → List D → (List D → Option ρ) → Option ρ
 | [], r, K => oN r (K [])
 | s :: ss, r, K => xS s r fun d r => xSs ss r fun ds => K (d :: ds)
end
def xPs : List Pm → List (List D) → (List (List D) → Option ρ) → Option ρ
 | [], a, K => oZ a (K [])
 | p :: ps, a, K => oC a fun r a =>
   match p.nilp with
   | false => xSs p.sub r fun ds => xPs ps a fun dss => K (ds :: dss)
   | true => oQ r (xSs p.sub r fun ds => xPs ps a fun dss => K (ds :: dss)) (xPs ps a fun dss => K ([.v (.pointer none)] :: dss))
end
/-! ### What is known of a function: what it reckons -/
structure FSp where
 as : List Pm
 rs : List Pm
 af : List (Nat × Shp)
 F : List (List D) → Option (List (List D))
def FSp.spec (f : FSp) : Spec := ⟨List (List D), f.as, f.rs, f.af, id, fun a => (f.F a).isSome = true, fun a => (f.F a).getD []⟩
structure Xcx where
 P : Program
 ok : FuncId → Bool
 sp : FuncId → List FSp
def Xcx.d (x : Xcx) : Dcx := ⟨x.P, x.ok, fun g => (x.sp g).map FSp.spec⟩
/-! ### Checks -/
def boundB (c : Int) (h : Option Int) (hN : Nat) (l : Option Int) : Bool :=
 match h, l with
 | some h, some l => (decide (0 ≤ h) && decide (h ≤ c)) && (decide (0 ≤ l) && decide (l ≤ (hN : Int)))
 | some h, none => decide (0 ≤ h) && decide (h ≤ c)
 | none, some l => decide (0 ≤ l) && decide (l ≤ (hN : Int))
 | none, none => true
def lowB (h : Int) : Option Int → Bool
 | some l => decide (0 ≤ l) && decide (l ≤ h)
 | none => true
def dqc (s : DS) (T : List (Nat × Bool)) (o : Oper) : Option Bool :=
 match o.op with
 | .indexAddr t x i =>
   match s.rd T x, s.rd T i with
   | some (.v v), some (.v (.int _ i)) =>
     match s.recs v with
     | some (_, _, _, es) => some (decide (0 ≤ i) && decide (i < (es.length : Int)))
     | none => none
   | _, _ => none
 | .binOp .shl _ x y _ | .binOp .shr _ x y _ =>
   match s.rd T y with
   | some (.v (.int _ b)) => some (decide (0 ≤ b))
   | _ => none
 | .binOp .quo _ x y _ | .binOp .rem _ x y _ =>
   match s.rd T y with
   | some (.v (.int _ b)) => some (!decide (b = 0))
   | _ => none
 | .slice t x lo hi none =>
   match s.rd T x, sEnd s T hi, sEnd s T lo with
   | some (.v v), some h, some l =>
     match s.recs v with
     | some (_, _, _, es) => some (boundB (es.length : Int) h (boundN es.length h : Nat) l)
     | none => match v with | .string b => some (boundB (b.size : Int) h (boundN b.size h : Nat) l) | _ => none
   | _, _, _ => none
 | .index t x i =>
   match s.rd T x, s.rd T i with
   | some (.v (.string b)), some (.v (.int _ i)) => some (decide (0 ≤ i) && decide (i < (b.size : Int)))
   | _, _ => none
 | .slice t x lo (some hi) (some mx) =>
   match s.rd T x, s.rd T hi, sEnd s T lo, s.rd T mx with
   | some (.v v), some (.v (.int _ h)), some l, some (.v (.int _ m)) =>
     match s.recs v with
     | some (_, _, _, es) => some ((decide (0 ≤ m) && decide (m ≤ (es.length : Int))) && ((decide (0 ≤ h) && decide (h ≤ m)) && lowB h l))
     | none => none
   | _, _, _, _ => none
 | _ => none
def xImp {ρ : Type} (s : DS) (ops : Array Oper) (T : List (Nat × Bool)) (b : Bool) (K : Option ρ) : Option ρ :=
 match T with
 | [] => oK b K
 | _ =>
   match dgx s ops T with
   | some g => oK (!g || b) K
   | none => none
def xAsk {ρ : Type} (s : DS) (ops : Array Oper) (T : List (Nat × Bool)) (o : Oper) (b : Bool) (K : Option ρ) : Option ρ :=
 if firm o = true then (if (T.isEmpty || (dgx s ops T).isSome) = true then oK b K else none) else xImp s ops T b K
def xGet (s : DS) (ops : Array Oper) (T : List (Nat × Bool)) (sub : List Shp) (o : Option (List D)) : Option (List D) :=
 match T with
 | [] => o
 | _ =>
   match dgx s ops T with
   | some g => cond g o (some (sub.map zeroD))
   | none => none
/-! ### Effects -/
section
variable {ρ : Type}
def xLoad (P : Program) (ops : Array Oper) (dr : Bool) (s : DS) (T : List (Nat × Bool)) (t : TypeId) (r i sz off : Nat) (d : Option Tmp) (k : DS → Option ρ) : Option ρ :=
 match loadSh P t with
 | some sh =>
   let n := sh.ks.length
   match s.tbAt r with
   | .pbx _ _ cs =>
     let vs := (cs.drop off).take n
     if kindsOk sh.ks vs = true ∧ i = 0 ∧ 0 < n ∧ anyOk sh vs = true ∧ (T.isEmpty || (dgx s ops T).isSome) = true then k ((s.pin dr r).put d (.v (valOf sh.agg vs)) T) else none
   | .row md e sub es =>
     let sub' := (sub.drop off).take n
     if shKinds sub' sh.ks = true ∧ (T.isEmpty || zeroable sub') = true ∧ sz = sub.length ∧ 0 < n then
      oE (xGet s ops T sub es[i]?) fun ds => xSs sub ds fun ds =>
       match (if md == 0 then matsV true r false sub' ((ds.drop off).take n) (s.pin dr r) else mats sub' ((ds.drop off).take n) (s.pin dr r)) with
       | some (vs, s') => if anyOk sh vs = true then k (s'.put d (.v (valOf sh.agg vs)) T) else none
       | none => none
     else none
   | .view r0 rt e sub es =>
     let sub' := (sub.drop off).take n
     if shKinds sub' sh.ks = true ∧ (T.isEmpty || zeroable sub') = true ∧ sz = sub.length ∧ 0 < n then
      oE (xGet s ops T sub es[i]?) fun ds => xSs sub ds fun ds =>
       match matsV false r0 rt sub' ((ds.drop off).take n) (s.pin dr r) with
       | some (vs, s') => if anyOk sh vs = true then k (s'.put d (.v (valOf sh.agg vs)) T) else none
       | none => none
     else none
   | .dead => none
 | none => none
def xStore (P : Program) (s : DS) (t : TypeId) (r i sz off : Nat) (v : Value) (d : Option Tmp) (k : DS → Option ρ) : Option ρ :=
 let l := lvs v
 let n := l.length
 if (P.info? t).isSome = true ∧ n = P.cellsOf t ∧ 0 < n ∧ l.all oneB = true then
  match s.tbAt r with
  | .pbx 0 t' cs => if off + n ≤ cs.length ∧ i = 0 then k (((s.setT r (.pbx 0 t' (cs.take off ++ l ++ cs.drop (off + n)))).kill r false).put d (.v undef) []) else none
  | .row 0 e sub es =>
    let sub' := (sub.drop off).take n
    match (if sz = sub.length ∧ off + n ≤ sub.length then takes (some r) sub' l s else none) with
    | some (ds, s1) =>
      match s1.tbAt r with
      | .row 0 _ _ _ =>
        if n = sub.length ∧ off = 0 then
         oK (decide (i < es.length)) (k (((s1.setT r (.row 0 e sub (es.set i ds))).kill r true).put d (.v undef) []))
        else
         oE es[i]? fun ds0 => xSs sub ds0 fun ds0 => k (((s1.setT r (.row 0 e sub (es.set i (ds0.take off ++ ds ++ ds0.drop (off + n))))).kill r true).put d (.v undef) [])
      | _ => none
    | none => none
  | _ => none
 else none
def xCall (cx : Xcx) (ops : Array Oper) (dr : Bool) (s : DS) (T : List (Nat × Bool)) (o : Oper) (S : FSp) (dss : List (List D)) (s1 : DS) (vals : List Value) (k : DS → Option ρ) : Option ρ :=
 if rsOk cx.P o.type S.rs = true then
  match T with
  | [] =>
   if (!dr || (ro S.as && S.af.isEmpty)) = true ∧ (S.rs.all fun p => Shp.strs p.sub) = true ∧ (S.af.all fun p => p.2.str) = true then
    oR (S.F dss) fun outs => xPs S.spec.ps outs fun outs =>
     match matR S.rs (outs.take S.rs.length) s1 with
     | some (vs, s2) =>
       match giveB vals S.af (outs.drop S.rs.length) s2 with
       | some s3 => if boxKinds cx.P s3 = true ∧ resAny cx.P o.type vs = true then k (s3.put o.dst (.v (retV vs)) T) else none
       | none => none
     | none => none
   else none
  | _ =>
    if (S.as.all fun p => Shp.rdos p.sub) = true ∧ (S.rs.all fun p => scalars p.sub) = true ∧ S.af.isEmpty = true ∧ boxKinds cx.P s1 = true then
     match dgx s ops T with
     | none => none
     | some g =>
       joinsO (fun outs => xPs S.rs outs fun outs => match matR S.rs outs s1 with | some (vs, s2) => if resAny cx.P o.type vs = true then k (s2.put o.dst (.v (retV vs)) T) else none | none => none) fun J =>
        cond g (oR (S.F dss) fun outs => xPs S.rs outs J) (J (S.rs.map fun p => p.sub.map zeroD))
    else if dr = false ∧ (S.rs.all fun p => scalars p.sub) = true ∧ (S.af.all fun p => p.2.str) = true ∧ boxKinds cx.P s = true then
     match dgx s ops T with
     | none => none
     | some g =>
       cond g
        (oR (S.F dss) fun outs => xPs S.spec.ps outs fun outs =>
         match matR S.rs (outs.take S.rs.length) s1 with
         | some (vs, s2) =>
           match giveB vals S.af (outs.drop S.rs.length) s2 with
           | some s3 => if boxKinds cx.P s3 = true ∧ resAny cx.P o.type vs = true then k (s3.put o.dst (.v (retV vs)) T) else none
           | none => none
         | none => none)
        (xPs S.rs (S.rs.map fun p => p.sub.map zeroD) fun outs => match matR S.rs outs s with | some (vs, s2) => if resAny cx.P o.type vs = true then k (s2.put o.dst (.v (retV vs)) T) else none | none => none)
    else none
 else none
def xPickS (s : DS) (vals : List Value) : List FSp → Option (FSp × List (List D) × DS)
 | [] => none
 | S :: r =>
   match argLvs S.as vals with
   | some l =>
     match argTake S.as l s with
     | some (ds, s1) => match argFill s1 S.as l ds with | some ds => some (S, ds, s1) | none => xPickS s vals r
     | none => xPickS s vals r
   | none => xPickS s vals r
def xMem (P : Program) (dr : Bool) (s : DS) (o : Oper) (k : DS → Option ρ) : Option ρ :=
 if rsSl P o.type && boxKinds P s then
 match o.op with
 | .makeSlice t x c =>
   match sliceElem P t, s.rd [] x, s.rd [] c with
   | some e, some (.v (.int kx n)), some (.v (.int kc m)) =>
     match bytesOf P e, tyShps P 0 6 e with
     | some by_, some sub =>
       if P.cellsOf e = sub.length ∧ zeroAts sub (zeroCs P e) = true then
        oK (decide (0 ≤ n) && decide (n ≤ m) && decide (m.toNat * by_ ≤ 140737488355328) && decide (m.toNat ≤ maxLen))
         (k ((s.addT (.row 0 e sub (List.replicate n.toNat (sub.map zeroD)))).put o.dst (.v (slV s.tb.length)) []))
       else none
     | _, _ => none
   | _, _, _ => none
 | .buildSlice t n parts =>
   match sliceElem P t, s.vals [] (parts.toList.map (·.2)) with
   | some e, some vs =>
     match bytesOf P e, tyShps P 0 6 e with
     | some by_, some dflt =>
       if P.cellsOf e = dflt.length ∧ idxs 0 (parts.toList.map (·.1)) = true ∧ parts.size = n ∧ n * dflt.length < 1000 ∧ (vs.all fun v => notTup v && (lvs v).length == dflt.length) = true then
        match litSub P s dflt vs with
        | some sub =>
          if sub.length = dflt.length then
           match litRecs P sub vs s with
           | some (es, s1) => k ((s1.addT (.row 0 e sub es)).put o.dst (.v (slV s1.tb.length)) [])
           | none => none
          else none
        | none => none
       else none
     | _, _ => none
   | _, _ => none
 | .call { callee := .builtin .append, args, argTypes } =>
   match args.toList, argTypes.toList with
   | [x, y], [t, t'] =>
     match sliceElem P t, s.rd [] x, s.rd [] y with
     | some e, some (.v vx), some (.v vy) =>
       match bytesOf P e, s.recs vy with
       | some by_, some (_, _, suby, _) =>
         match appSub dr s e suby vx with
         | some sub =>
           if t = t' ∧ P.cellsOf e = sub.length ∧ 0 < sub.length then
            match (if scalars sub then (match s.recs vy with | some (_, e2, suby2, esy) => if Shp.les suby2 sub && e2 == e then some (D.l esy, s) else none | none => none) else take (some s.tb.length) (.l (if Shp.bors sub then 2 else 0) e sub) vy s) with
            | some (.l esy, s1) =>
              match vx with
              | .slice none 0 0 =>
                oK (decide (esy.length * by_ ≤ 140737488355328) && decide (esy.length ≤ maxLen)) (k ((s1.addT (.row 0 e sub esy)).put o.dst (.v (slV s1.tb.length)) []))
              | .slice (some p) _ _ =>
                match s1.tbAt (p.block / 2) with
                | .row 0 e' subx esx =>
                  if e' = e ∧ Shp.les subx sub = true ∧ evenB p = true ∧ (!dr || s.pinOk (p.block / 2)) = true then
                   oK (decide ((esx ++ esy).length * by_ ≤ 140737488355328) && decide ((esx ++ esy).length ≤ maxLen))
                    (k ((((s1.setT (p.block / 2) .dead).kill (p.block / 2) false).addT (.row 0 e sub (esx ++ esy))).put o.dst (.v (slV s1.tb.length)) []))
                  else none
                | _ => none
              | _ => none
            | _ => none
           else none
         | none => none
       | _, _ => none
     | _, _, _ => none
   | _, _ => none
 | _ => none
 else none
def xLitG (P : Program) (ops : Array Oper) (dr : Bool) (s : DS) (T : List (Nat × Bool)) (o : Oper) (t : TypeId) (n : Nat) (parts : Array (Nat × Operand)) (k : DS → Option ρ) : Option ρ :=
 if rsSl P o.type && boxKinds P s && !dr then
  match sliceElem P t, s.vals T (parts.toList.map (·.2)), dgx s ops T with
  | some e, some vs, some g =>
    match bytesOf P e, tyShps P 0 6 e with
    | some _, some sub =>
      if P.cellsOf e = sub.length ∧ idxs 0 (parts.toList.map (·.1)) = true ∧ parts.size = n ∧ n * sub.length < 1000 ∧ (vs.all fun v => notTup v && (lvs v).length == sub.length) = true then
       match litRecs P sub vs s with
       | some (es, s1) => cond g (k ((s1.addT (.row 0 e sub es)).put o.dst (.v (slV s1.tb.length)) T)) (k ((s.addT (.row 2 e (Shp.rds 2 sub) [])).put o.dst (.v (slV s.tb.length)) T))
       | none => none
      else none
    | _, _ => none
  | _, _, _ => none
 else none
def xEff (cx : Xcx) (ops : Array Oper) (dr : Bool) (s : DS) (T : List (Nat × Bool)) (o : Oper) (k : DS → Option ρ) : Option ρ :=
 match o.op with
 | .box t x =>
   match T, (s.rd T x).bind DC.val, Cw.shOf cx.P t with
   | [], some v, some h =>
     if h.ks.length = (lvs v).length ∧ (lvs v).all oneB = true then
      k ((s.addB ((lvs v).map fun x => (x, s.ctr)) t).put o.dst (.bp s.bx.length 0) T)
     else none
   | _, _, _ => none
 | .alloc t =>
   match T, zeroOf cx.P t, Cw.shOf cx.P t with
   | [], some z, some h =>
     if h.ks.length = (lvs z).length ∧ constV z = true then
      k ((s.addB ((lvs z).map fun x => (x, s.ctr)) t).put o.dst (.bp s.bx.length 0) T)
     else none
   | _, _, _ => none
 | .load t x =>
   match s.rd T x with
   | some (.er r i sz off) => xLoad cx.P ops dr s T t r i sz off o.dst k
   | _ => none
 | .convert src dst x =>
   match T, s.rd T x with
   | [], some (.v v) =>
     match isB2S cx.P src dst, s.recs v with
     | true, some (_, _, [.v (.int .u8)], es) => if dr = false then k (s.put o.dst (.v (.string (strD es))) []) else none
     | _, _ => none
   | _, _ => none
 | .buildSlice t n parts =>
   match T with
   | [] => xMem cx.P dr s o k
   | _ => xLitG cx.P ops dr s T o t n parts k
 | .store t a x =>
   match T, s.rd T a, (s.rd T x).bind DC.val with
   | [], some (.bp kk off), some v =>
     let l := lvs v
     match s.bx[kk]? with
     | some b =>
       if (cx.P.info? t).isSome = true ∧ l.length = cx.P.cellsOf t ∧ off + l.length ≤ b.cs.length ∧ l.all oneB = true ∧ 0 < l.length then
        k ((s.wrB kk off l).put o.dst (.v undef) T)
       else none
     | none => none
   | [], some (.er r i sz off), some v => xStore cx.P s t r i sz off v o.dst k
   | _, _, _ => none
 | .call { callee := .value f, args, argTypes := _ } =>
   match s.rd T f, s.vals T args.toList with
   | some (.v (.func (.func g) fst cap)), some vs =>
     match fst.toList with
     | [] =>
       let avs := cap.toList.take (nfOf g) ++ (vs ++ cap.toList.drop (nfOf g))
       if cx.ok (fnOf g) = true ∧ avs.all notTup = true then
        match xPickS s avs (cx.sp (fnOf g)) with
        | some (S, ds, s1) => xCall cx ops dr s T o S ds s1 avs k
        | none => none
       else none
     | _ => none
   | _, _ => none
 | _ =>
   match T with
   | [] => xMem cx.P dr s o k
   | _ => none
noncomputable def xStep (cx : Xcx) (ops : Array Oper) (dr : Bool) (dn : Nat → Bool) (o : Oper) (s : DS) (k : DS → Option ρ) : Option ρ :=
 match dtag ops dn s o with
 | none => none
 | some T =>
   match dq cx.P ops s T o with
   | some (none, cv, s') => if (T.isEmpty || (dgx s ops T).isSome) = true then k (s'.put o.dst cv T) else none
   | some (some p, cv, s') =>
     match dqc s T o with
     | some b => xAsk s ops T o b (k (s'.put o.dst cv T))
     | none => none
   | none =>
     match dNil cx.P s T o with
     | some (ng, es) => oM es.length ng fun b => k (s.put o.dst (.v (.bool b)) T)
     | none => xEff cx ops dr s T o k
noncomputable def xSeq (cx : Xcx) (ops : Array Oper) : List Oper → Nat → DS → (DS → Option ρ) → Option ρ
 | [], _, s, k => k s.endReg
 | o :: r, i, s, k => xStep cx ops false (fun j => decide (j < i)) o s fun s => xSeq cx ops r (i + 1) s k
noncomputable def eachO : List Nat → (Nat → Option ρ) → Option ρ
 | [], _ => none
 | i :: r, f => match r with | [] => f i | _ => bothO (f i) (eachO r f)
noncomputable def xDraw (cx : Xcx) (ops : Array Oper) : Nat → Array Bool → DS → (DS → Option ρ) → Option ρ
 | 0, _, _, _ => none
 | f + 1, listed, s, k =>
   match Region.ready .any ops listed with
   | [] => k s.endReg
   | i :: r =>
     match dFirst cx.P ops listed s (i :: r) with
     | some (some i) =>
       match ops[i]? with
       | some o => xStep cx ops true (fun j => listed.getD j false) o s fun s => xDraw cx ops f (listed.setIfInBounds i true) s k
       | none => none
     | some none =>
       eachO (i :: r) fun i =>
        match ops[i]? with
        | some o => xStep cx ops true (fun j => listed.getD j false) o s fun s => xDraw cx ops f (listed.setIfInBounds i true) s k
        | none => none
     | none => none
/-! ### Code -/
def xJoinK (s0 : DS) (h : DHn) (J : List D → Option ρ) (s : DS) : Option ρ :=
 match dPack s0 h s with
 | some ds => J ds
 | none => none
def onInstO (s : DS) (h : DHn) (ds : List D) (K : DS → Option ρ) : Option ρ :=
 match s.inst h ds with
 | some s => K s
 | none => none
def xJoin (h : Option DHn) (s : DS) (K : DS → Option ρ) (p : (DS → Option ρ) → Option ρ) : Option ρ :=
 match h with
 | none => p K
 | some h => joinO (fun ds => xSs h.shps ds fun ds => onInstO s h ds K) fun J => p (xJoinK s h J)
end
noncomputable def dex (cx : Xcx) (hs : DHs) : Code → {ρ : Type} → DS → (Exit → DS → Option ρ) → Option ρ
 | .skip, _, s, K => K .normal s
 | .region _ ops draw, _, s, K =>
   if dstOk ops then
    if draw then
     if Region.noSelect ops then xDraw cx ops (ops.size + 1) (Array.replicate ops.size false) s (K .normal) else none
    else xSeq cx ops ops.toList 0 s (K .normal)
   else none
 | .seq a b, _, s, K => dex cx hs a s fun e s =>
   match e with
   | .normal => dex cx hs b s K
   | e => K e s
 | .cond c x y, _, s, K =>
   match s.rd [] c with
   | some (.v (.bool b)) =>
     xJoin ((key (.cond c x y)).bind fun n => Cw.look n hs.conds) s (K .normal) fun KN =>
      cond b (dex cx hs x s fun e s => match e with | .normal => KN s | e => K e s)
       (dex cx hs y s fun e s => match e with | .normal => KN s | e => K e s)
   | _ => none
 | .block id c, _, s, K =>
   xJoin (Cw.look id hs.blocks) s (K .normal) fun KN =>
    dex cx hs c s fun e s =>
     match e with
     | .normal => KN s
     | .exit id' => if id' = id then KN s else K (.exit id') s
     | e => K e s
 | .loop c, _, s, K =>
   match (keyD (.loop c)).bind fun n => Cw.look n hs.loops with
   | none => none
   | some h =>
     match dPack s h s with
     | none => none
     | some ds0 => loopO ds0 fun ds => xSs h.shps ds fun ds => onInstO s h ds fun s1 => dex cx hs c s1 fun e s' =>
       match e with
       | .normal => inlO (dPack s1 h s')
       | e => inrO (K e s')
 | .exit id, _, s, K => K (.exit id) s
 | .ret, _, s, K => K .ret s
 | .label _, _, s, K => K .normal s
 | .scope c, _, s, K => dex cx hs c s fun e s =>
   match e with
   | .goto _ => none
   | e => K e s
 | _, _, _, _ => none
/-! ### The whole function -/
def xTop (cx : Xcx) (fn : Func) (rs : List Pm) (af : List (Nat × Shp)) (vals : List Value) : Exit → DS → Option (List (List D))
 | .normal, s | .ret, s =>
   match dResAll cx.P s fn.results.toList with
   | some vs =>
     match argLvs rs vs with
     | some l =>
       match argTake rs l s with
       | some (ds, s1) =>
         match giveD vals af s1 with
         | some (da, _) => if vs.all notTup = true ∧ (rs.all fun p => Shp.strs p.sub) = true ∧ (af.all fun p => p.2.str) = true then some (ds ++ da) else none
         | none => none
       | none => none
     | none => none
   | none => none
 | _, _ => none
noncomputable def xFn (cx : Xcx) (hs : DHs) (fn : Func) (as rs : List Pm) (af : List (Nat × Shp)) (dss : List (List D)) : Option (List (List D)) :=
 match matR as dss DS.empty with
 | some (vals, s) => dex cx hs (fn.body.getD .skip) (dSt0 fn.ntmps vals s) (xTop cx fn rs af vals)
 | none => none
end Go.Dw
end
