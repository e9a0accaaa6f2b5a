/- The engine's words are sound, the seventh part: every operation. -/
import Derived.Test.YtfpmimnbocflpaaCwS6
namespace Go.Cw
open Go

/-- Functions that are entered when called. -/
def OkFns (cx : Cx) : Prop := ∀ f, cx.ok f = true → ∀ args w, (callFunc f args).run cx.P w = .ok (.enter f args) w

theorem shOf_len {P : Program} {t : TypeId} {sh : Sh} (h : loadSh P t = some sh) : shOf P t = some sh ∧ (∃ d, P.underlying t = some d) ∧ sh.agg = aggB P t ∧ P.cellsOf t = sh.ks.length ∧ (sh.agg = true ∨ sh.ks.length = 1) := by
  unfold loadSh at h
  split at h
  · rename_i sh' d hs hu
    split at h
    · rename_i hc
      obtain rfl := Option.some.inj h
      exact ⟨hs, ⟨d, hu⟩, hc.1, hc.2.1, hc.2.2⟩
    · cases h
  · cases h

theorem load_run {P : Program} {t : TypeId} {sh : Sh} (h : loadSh P t = some sh) {w : World} {A : Option Addr} {j : Nat} {vs : List Value} (hl : vs.length = sh.ks.length) (hc : Cells w A j vs) (st : St) :
    (Instr.loadAt t (.pointer (offA A j))).run P w = .ok (st.den (shCv sh vs)) w := by
  obtain ⟨_, ⟨d, hd⟩, hag, hn, hor⟩ := shOf_len h
  obtain ⟨p, rfl, hcell⟩ := hc
  obtain ⟨i, hi, hsz⟩ := underlying_info hd
  simp only [Instr.loadAt, offA_some, Sem.run_bind, sureAddr_run, Result.andThen_ok, loadVar, isAgg_run hd]
  cases hb : aggB P t with
  | true =>
    have hr := run_loadCells_list (P := P) w (p.add j) vs (fun m v hm => by rw [hcell m (List.getElem?_eq_some_iff.1 hm).1]; exact hm)
    rw [hl, ← hn, ← hsz] at hr
    simp only [if_true, Sem.run_bind, sizeOf_run hi, Result.andThen_ok, hr, Sem.run_pure, shCv, hag, hb]
    rfl
  | false =>
    have hag' : sh.agg = false := by rw [hag, hb]
    have h1 : sh.ks.length = 1 := by rcases hor with h | h; rw [hag'] at h; cases h; exact h
    obtain ⟨v, rfl⟩ : ∃ v, vs = [v] := List.length_eq_one_iff.1 (hl.trans h1)
    obtain ⟨k, hk⟩ := List.length_eq_one_iff.1 h1
    have hcell0 := hcell 0 (by simp)
    rw [show (p.add j).add 0 = p.add j from rfl] at hcell0
    simp only [Bool.false_eq_true, if_false, run_load, hcell0, shCv, hag', hk, List.getElem?_cons_zero, List.headD_cons, kcv_den]

theorem shCv_ok (st : St) (sh : Sh) (vs : List Value) : CvOk st (shCv sh vs) := by
  unfold shCv
  split
  · trivial
  · split
    · exact kcv_ok _ _ _
    · trivial

theorem wrBx_get (st : St) (kk off : Nat) (l : List Value) (k : Nat) (b : Bx) (hb : st.bx[k]? = some b) :
    (st.wrBx kk off l).bx[k]? = some (if kk = k then { b with cs := b.cs.take off ++ (l.map fun v => (v, st.ctr)) ++ b.cs.drop (off + l.length) } else b) := by
  simp only [St.wrBx, List.getElem?_modify, hb]
  show some _ = some _
  split <;> rfl

theorem wrBx_ids (st : St) (kk off : Nat) (l : List Value) : (st.wrBx kk off l).ids = st.ids := by
  unfold St.ids
  apply List.ext_getElem?
  intro k
  simp only [List.getElem?_map]
  cases hb : st.bx[k]? with
  | none =>
    have : (st.wrBx kk off l).bx[k]? = none := by simp [St.wrBx, List.getElem?_modify, hb]
    rw [this]
  | some b => rw [wrBx_get st kk off l k b hb]; split <;> rfl

section
variable {cx : Cx} {ops : Array Oper} {dn : Nat → Bool} {dr : Bool} {i : Nat} {o : Oper} {st : St} {a : Act} {w wa : World} {T : List (Nat × Bool)} {k : St → World → Prop} {Q : Exit → Act → World → Prop}

theorem wp_value {v : Value} {w' : World} {next : Act → World → Prop} (h : (execOp a.eval o).run cx.P wa = .ok (.value v) w') (hn : next (a.put o.dst v) w') : o.wp cx.P a wa next Q := by
  unfold Oper.wp; rw [h]; exact hn

theorem wp_skip {w' : World} {next : Act → World → Prop} (h : (execOp a.eval o).run cx.P wa = .ok .skip w') (hn : next (a.put o.dst undef) w') : o.wp cx.P a wa next Q := by
  unfold Oper.wp; rw [h]; exact hn

theorem wrBx_ok (hR : RelR cx ops dn st a w wa) {kk off : Nat} {l : List Value} {b : Bx} (hb : st.bx[kk]? = some b) (hle : off + l.length ≤ b.cs.length) :
    let w' := wa.setRow b.id ((b.cs.map (·.1)).take off ++ l ++ (b.cs.map (·.1)).drop (off + l.length)).toArray
    Aft st (st.wrBx kk off l) ∧ WOk cx (st.wrBx kk off l) w w' ∧ (∀ b ∈ (st.wrBx kk off l).bx, ∀ c ∈ b.cs, c.2 < (st.wrBx kk off l).ctr) := by
  intro w'
  have hm := List.mem_of_getElem? hb
  have hu := upd_setRow (hR.wok.boxes b hm) ((b.cs.map (·.1)).take off ++ l ++ (b.cs.map (·.1)).drop (off + l.length))
  have hback : ∀ b' ∈ (st.wrBx kk off l).bx, ∃ (k : Nat) (b0 : Bx), st.bx[k]? = some b0 ∧ b' = if kk = k then { b0 with cs := b0.cs.take off ++ (l.map fun v => (v, st.ctr)) ++ b0.cs.drop (off + l.length) } else b0 := by
    intro b' hb'
    obtain ⟨q, hq⟩ := mem_get hb'
    have hlt : q < st.bx.length := by
      have := (List.getElem?_eq_some_iff.1 hq).1
      simpa [St.wrBx] using this
    have h2 := wrBx_get st kk off l q st.bx[q] (List.getElem?_eq_getElem hlt)
    rw [hq] at h2
    exact ⟨q, st.bx[q], List.getElem?_eq_getElem hlt, Option.some.inj h2⟩
  have hinj : ∀ (q : Nat) (b0 : Bx), st.bx[q]? = some b0 → b0.id = b.id → q = kk := by
    intro q b0 hq he
    have h1 : st.ids[q]? = some b.id := by simp [St.ids, hq, he]
    have h2 : st.ids[kk]? = some b.id := by simp [St.ids, hb]
    exact (List.getElem?_inj (List.getElem?_eq_some_iff.1 h1).1 hR.wok.nodup).1 (h1.trans h2.symm)
  refine ⟨⟨rfl, by simp [St.wrBx], fun q b0 hq => ?_⟩, ⟨fun b' hb' => ?_, fun b' hb' => ?_, ?_, ?_, ?_⟩, fun b' hb' c hc => ?_⟩
  · refine ⟨_, wrBx_get st kk off l q b0 hq, ?_, ?_, ?_, ?_⟩
    · split <;> rfl
    · split <;> rfl
    · split
      · rename_i he
        subst he
        rw [hb] at hq
        obtain rfl := Option.some.inj hq
        simp; omega
      · rfl
    · intro j c hc hv
      split at hc
      · rename_i he
        subst he
        rw [hb] at hq
        obtain rfl := Option.some.inj hq
        simp only at hc
        rw [List.getElem?_append] at hc
        split at hc
        · rw [List.getElem?_append] at hc
          split at hc
          · rw [List.getElem?_take] at hc
            split at hc
            · exact hc
            · cases hc
          · rw [List.getElem?_map] at hc
            obtain ⟨v, _, rfl⟩ := Option.map_eq_some_iff.1 hc
            exact absurd hv (Nat.lt_irrefl _)
        · rename_i hlt
          rw [List.getElem?_drop] at hc
          simp only [List.length_append, List.length_take, List.length_map] at hlt hc
          rw [show off + l.length + (j - (min off b.cs.length + l.length)) = j by omega] at hc
          exact hc
      · exact hc
  · obtain ⟨q, b0, hq, rfl⟩ := hback b' hb'
    by_cases he : kk = q
    · subst he
      rw [hb] at hq
      obtain rfl := Option.some.inj hq
      rw [if_pos rfl]
      have := hu.box
      simpa [w', Function.comp_def] using this
    · rw [if_neg he]
      have hne : b0.id ≠ b.id := fun h => he (hinj q b0 hq h).symm
      have := hR.wok.boxes b0 (List.mem_of_getElem? hq)
      unfold Box at *
      rw [hu.block _ hne]; exact this
  · obtain ⟨q, b0, hq, rfl⟩ := hback b' hb'
    have := hR.wok.own b0 (List.mem_of_getElem? hq)
    split <;> exact this
  · rw [wrBx_ids]; exact hR.wok.nodup
  · have hf := hR.wok.fr
    refine ⟨hf.os, hf.tape, hf.output, by rw [hu.size]; exact hf.size, fun q hq hM => ?_⟩
    rw [hu.block q ?_]
    · exact hf.block q hq hM
    · rintro rfl
      rcases hR.wok.own b hm with h | h
      · omega
      · exact hM h
  · have hc := hR.wok.chg
    rw [wrBx_ids]
    simp only [St.wrBx, if_true]
    refine ⟨hc.os, hc.tape, hc.output, by rw [hu.size]; exact hc.size, fun q hq hn => ?_⟩
    rw [hu.block q ?_]
    · exact hc.block q hq hn
    · rintro rfl
      exact hn (List.mem_map.2 ⟨b, hm, rfl⟩)
  · obtain ⟨q, b0, hq, rfl⟩ := hback b' hb'
    show c.2 < st.ctr + 1
    have hold := hR.versB b0 (List.mem_of_getElem? hq)
    split at hc
    · simp only [List.mem_append, List.mem_map] at hc
      rcases hc with (hc | ⟨v, _, rfl⟩) | hc
      · exact Nat.lt_succ_of_lt (hold c (List.mem_of_mem_take hc))
      · exact Nat.lt_succ_self _
      · exact Nat.lt_succ_of_lt (hold c (List.mem_of_mem_drop hc))
    · exact Nat.lt_succ_of_lt (hold c hc)

theorem callV_mono {F : Value} {args : List Value} {w : World} {R R' : Ending → World → Prop} (h : CallV cx.P cx.ok F args w R) (hr : ∀ e w, R e w → R' e w) : CallV cx.P cx.ok F args w R' := by
  unfold CallV at *
  split at h
  · exact ⟨h.1, Calls.mono h.2 hr⟩
  · exact h.elim

theorem semUpon_mono {P : Program} {s : Sem Value} {w : World} {R R' : Value → World → Prop} (h : semUpon P s w R) (hr : ∀ v w, R v w → R' v w) : semUpon P s w R' := by
  unfold semUpon at *
  split at h
  · exact hr _ _ h
  · exact h

/-- The address of a place in a box. -/
theorem idAt_get {kk : Nat} {b : Bx} (h : st.bx[kk]? = some b) : st.idAt kk = b.id := by simp [St.idAt, h]

theorem clean_wok (h : WOk cx st w wa) : WOk cx st.clean wa wa := ⟨h.boxes, h.own, h.nodup, h.fr, by simp [St.clean]⟩

theorem eff_sound (hok : OkFns cx) (hd : dstOk ops = true) (hR : RelR cx ops dn st a w wa) (hi : ops[i]? = some o) (hdn : dn i = false) (hT : ∀ x ∈ T, dn x.1 = true ∧ Src ops x.1) (hcoh : Coh ops st T)
    (h : effOp cx ops dr st T o w k) :
    (Gd ops a T → o.wp cx.P a wa (After cx ops dn dr i o st wa k) Q) ∧ (¬ Gd ops a T → After cx ops dn dr i o st wa k (a.put o.dst undef) wa) := by
  have hG0 : Gd ops a [] := fun x hx => (by cases hx)
  unfold effOp at h
  split at h
  -- box
  · rename_i t x hop
    split at h
    · rename_i cv hcv
      refine ⟨fun _ => ?_, fun hn => absurd hG0 hn⟩
      obtain ⟨h1, _⟩ := rd_sound hR.env hG0 hcv
      have hlk := Like.esc1 st cv
      have hR' := hR.like hlk
      have hlt : wa.heap.size ∉ st.ids := fun hm => by
        obtain ⟨b, hb, he⟩ := List.mem_map.1 hm
        have := box_lt (hR.wok.boxes b hb)
        omega
      have hk := h wa.heap.size hR.wok.size_le hlt
      have hden : (st.den cv) = (st.esc1 cv).den cv := (den_same hlk.bx cv).symm
      have hw := addBx_boxes hR'.wok ((st.den cv).cells.toList) t
      have hB : ∀ b ∈ ((st.esc1 cv).addBx wa.heap.size ((st.den cv).cells.toList) t).bx, ∀ c ∈ b.cs, c.2 < ((st.esc1 cv).addBx wa.heap.size ((st.den cv).cells.toList) t).ctr := by
        intro b hb c hc
        simp only [St.addBx, List.mem_append, List.mem_singleton] at hb ⊢
        rcases hb with hb | rfl
        · exact Nat.lt_succ_of_lt (hR'.versB b hb c hc)
        · obtain ⟨v, _, rfl⟩ := List.mem_map.1 hc
          exact Nat.lt_succ_self _
      have hlen : (st.esc1 cv).bx.length = st.bx.length := hlk.bx.length
      have hnew : ((st.esc1 cv).addBx wa.heap.size ((st.den cv).cells.toList) t).den (.bp st.bx.length 0) = .pointer (some ⟨wa.heap.size, 0, none⟩) := by
        simp [St.den, St.idAt, St.addBx, ← hlen]
      obtain ⟨h6, h7⟩ := put_rel hd hR hi hdn hT hcoh (hlk.aft.trans (addBx_aft _ wa.heap.size ((st.den cv).cells.toList) t)) hw hB (cv := .bp st.bx.length 0) (v := .pointer (some ⟨wa.heap.size, 0, none⟩))
        (fun _ => ⟨hnew.symm, by simp [CvOk, St.addBx, hlen]⟩) (.inl hG0)
      have hrun : (execOp a.eval o).run cx.P wa = .ok (.value (.pointer (some ⟨wa.heap.size, 0, none⟩))) (wa.alloc (.cells (st.den cv).cells.toList.toArray t)) := by
        simp only [execOp, hop, h1, Instr.box, newVar, newRow, Sem.run_bind, run_newObj, Result.andThen_ok, Sem.run_pure, World.alloc_eq, Array.toArray_toList]
      refine wp_value hrun ⟨_, w, h6, h7, hk, by simp, fun _ _ => ?_⟩
      refine Dr.like hlk ⟨fun q _ hq => RowKit.Below.heap_alloc _ _ _ hq, fun p hp => by cases o.dst <;> exact hp, fun q b hb => ⟨b, ?_, rfl, rfl, rfl⟩⟩
      have : ((st.esc1 cv).bx ++ [⟨wa.heap.size, (st.den cv).cells.toList.map fun v => (v, (st.esc1 cv).ctr), t, false⟩])[q]? = some b := by
        rw [List.getElem?_append_left (List.getElem?_eq_some_iff.1 hb).1]; exact hb
      cases o.dst <;> exact this
    · exact h.elim
  -- alloc
  · rename_i t hop
    split at h
    · rename_i z hz
      refine ⟨fun _ => ?_, fun hn => absurd hG0 hn⟩
      obtain ⟨inf, hi1, hi2⟩ := Option.bind_eq_some_iff.1 hz
      have hlt : wa.heap.size ∉ st.ids := fun hm => by
        obtain ⟨b, hb, he⟩ := List.mem_map.1 hm
        have := box_lt (hR.wok.boxes b hb)
        omega
      have hk := h wa.heap.size hR.wok.size_le hlt
      have hw := addBx_boxes hR.wok z.cells.toList t
      have hB : ∀ b ∈ (st.addBx wa.heap.size z.cells.toList t).bx, ∀ c ∈ b.cs, c.2 < (st.addBx wa.heap.size z.cells.toList t).ctr := by
        intro b hb c hc
        simp only [St.addBx, List.mem_append, List.mem_singleton] at hb ⊢
        rcases hb with hb | rfl
        · exact Nat.lt_succ_of_lt (hR.versB b hb c hc)
        · obtain ⟨v, _, rfl⟩ := List.mem_map.1 hc
          exact Nat.lt_succ_self _
      have hnew : (st.addBx wa.heap.size z.cells.toList t).den (.bp st.bx.length 0) = .pointer (some ⟨wa.heap.size, 0, none⟩) := by
        simp [St.den, St.idAt, St.addBx]
      obtain ⟨h6, h7⟩ := put_rel hd hR hi hdn hT hcoh (addBx_aft _ wa.heap.size z.cells.toList t) hw hB (cv := .bp st.bx.length 0) (v := .pointer (some ⟨wa.heap.size, 0, none⟩))
        (fun _ => ⟨hnew.symm, by simp [CvOk, St.addBx]⟩) (.inl hG0)
      have hrun : (execOp a.eval o).run cx.P wa = .ok (.value (.pointer (some ⟨wa.heap.size, 0, none⟩))) (wa.alloc (.cells z.cells.toList.toArray t)) := by
        simp only [execOp, hop, Instr.alloc, zeroValue, Sem.run_bind, typeInfo_run hi1, Result.andThen_ok, hi2, Sem.run_pure, newVar, newRow, run_newObj, World.alloc_eq, Array.toArray_toList]
      refine wp_value hrun ⟨_, w, h6, h7, hk, by simp, fun _ _ => ?_⟩
      refine ⟨fun q _ hq => RowKit.Below.heap_alloc _ _ _ hq, fun p hp => by cases o.dst <;> exact hp, fun q b hb => ⟨b, ?_, rfl, rfl, rfl⟩⟩
      have : (st.bx ++ [⟨wa.heap.size, z.cells.toList.map fun v => (v, st.ctr), t, false⟩])[q]? = some b := by
        rw [List.getElem?_append_left (List.getElem?_eq_some_iff.1 hb).1]; exact hb
      cases o.dst <;> exact this
    · exact h.elim
  -- load
  · rename_i t x hop
    split at h
    · rename_i A j sh hx hsh
      obtain ⟨vs, hl, hc, hk⟩ := exKs_ex (flush_at h hR.wok)
      have hpin : ∀ s : St, (s.pin dr A).env = s.env ∧ (s.pin dr A).ctr = s.ctr ∧ (s.pin dr A).bx = s.bx ∧ (s.pin dr A).dirty = s.dirty ∧ ∀ p ∈ s.pins, p ∈ (s.pin dr A).pins := by
        intro s; unfold St.pin; split
        · exact ⟨rfl, rfl, rfl, rfl, fun p hp => List.mem_cons_of_mem _ hp⟩
        · exact ⟨rfl, rfl, rfl, rfl, fun p hp => hp⟩
      obtain ⟨p1, p2, p3, p4, p5⟩ := hpin st.clean
      have hA : Aft st (st.clean.pin dr A) := ⟨p1, by rw [p2]; exact Nat.le_refl _, fun q b hb => ⟨b, by rw [p3]; exact hb, rfl, rfl, rfl, fun _ _ h _ => h⟩⟩
      have hW : WOk cx (st.clean.pin dr A) wa wa := by
        have := clean_wok hR.wok
        refine ⟨fun b hb => ?_, fun b hb => ?_, ?_, hR.wok.fr, ?_⟩
        · rw [p3] at hb; exact this.boxes b hb
        · rw [p3] at hb; exact this.own b hb
        · unfold St.ids; rw [p3]; exact this.nodup
        · rw [p4]; simp [St.clean]
      have hB : ∀ b ∈ (st.clean.pin dr A).bx, ∀ c ∈ b.cs, c.2 < (st.clean.pin dr A).ctr := by
        rw [p3, p2]; exact hR.versB
      have hDr : ∀ cv d, DrOk dr o st ((st.clean.pin dr A).put d cv T) wa wa := by
        intro cv d
        refine ⟨Nat.le_refl _, fun _ _ => ⟨fun _ _ _ => rfl, fun p hp => ?_, fun q b hb => ⟨b, ?_, rfl, rfl, rfl⟩⟩⟩
        · have := p5 p hp; cases d <;> exact this
        · have : (st.clean.pin dr A).bx[q]? = some b := by rw [p3]; exact hb
          cases d <;> exact this
      constructor
      · intro hG
        obtain ⟨h1, _⟩ := rd_sound hR.env hG hx
        have hcells := gImp_spec hR hcoh hc hG
        have hrun : (execOp a.eval o).run cx.P wa = .ok (.value ((st.clean.pin dr A).den (shCv sh vs))) wa := by
          simp only [execOp, hop, h1, St.den, Sem.run_bind]
          have := load_run hsh hl hcells (st.clean.pin dr A)
          simp only [this, Result.andThen_ok, Sem.run_pure]
          rfl
        obtain ⟨h6, h7⟩ := put_rel hd hR hi hdn hT hcoh hA hW hB (cv := shCv sh vs) (v := (st.clean.pin dr A).den (shCv sh vs)) (fun _ => ⟨rfl, shCv_ok _ _ _⟩) (.inl hG)
        exact wp_value hrun ⟨_, wa, h6, h7, hk, hDr _ _⟩
      · intro hn
        obtain ⟨h6, h7⟩ := put_rel hd hR hi hdn hT hcoh hA hW hB (cv := shCv sh vs) (v := undef) (fun hG => absurd hG hn) (.inr rfl)
        exact ⟨_, wa, h6, h7, hk, hDr _ _⟩
    · exact h.elim
  -- store
  · rename_i t ad x hop
    split at h
    · rename_i kk off cv had hx
      refine ⟨fun _ => ?_, fun hn => absurd hG0 hn⟩
      obtain ⟨h1, h1'⟩ := rd_sound hR.env hG0 had
      obtain ⟨h2, _⟩ := rd_sound hR.env hG0 hx
      have hlk := Like.esc1 st cv
      have hR' := hR.like hlk
      dsimp only at h
      split at h
      · rename_i b hb
        split at h
        · rename_i hc
          obtain ⟨hinf, hlen, hle, hone⟩ := hc
          obtain ⟨inf, hinf⟩ := Option.isSome_iff_exists.1 hinf
          obtain ⟨k1, k2, k3⟩ := wrBx_ok hR' hb hle
          have hden : (st.esc1 cv).den cv = st.den cv := den_same hlk.bx cv
          have hid : st.idAt kk = b.id := by rw [← idAt_get hb]; simp only [idAt_eq, hlk.bx.ids]
          have hrun : (execOp a.eval o).run cx.P wa = .ok .skip (wa.setRow b.id ((b.cs.map (·.1)).take off ++ ((st.esc1 cv).den cv).cells.toList ++ (b.cs.map (·.1)).drop (off + ((st.esc1 cv).den cv).cells.toList.length)).toArray) := by
            have hs := store_run (P := cx.P) (hR'.wok.boxes b (List.mem_of_getElem? hb)) (o := off) (l := ((st.esc1 cv).den cv).cells.toList) (by simpa using hle) hone (v := (st.esc1 cv).den cv) rfl hinf hlen
            simp only [execOp, hop, h1, h2, ← hden, Sem.run_bind]
            rw [show st.den (.bp kk off) = .pointer (some ⟨b.id, off, none⟩) from by simp [St.den, hid], hs]
            rfl
          obtain ⟨h6, h7⟩ := put_rel hd hR hi hdn hT hcoh (hlk.aft.trans k1) k2 k3 (cv := .v undef) (v := undef) (fun _ => ⟨rfl, trivial⟩) (.inl hG0)
          refine wp_skip hrun ⟨_, w, h6, h7, h, by simp [World.setRow], fun _ hs => ?_⟩
          simp [isStore, hop] at hs
        · exact h.elim
      · exact h.elim
    · rename_i A j cv had hx
      refine ⟨fun _ => ?_, fun hn => absurd hG0 hn⟩
      obtain ⟨h1, h1'⟩ := rd_sound hR.env hG0 had
      obtain ⟨h2, _⟩ := rd_sound hR.env hG0 hx
      have hlk := Like.esc1 st cv
      have hR' := hR.like hlk
      dsimp only at h
      split at h
      · rename_i hc
        obtain ⟨hinf, hlen, hone⟩ := hc
        obtain ⟨inf, hinf⟩ := Option.isSome_iff_exists.1 hinf
        obtain ⟨b, o', cs, t', hA, hbox, hle, hown, hnot, hk⟩ := flush_at h hR'.wok
        have hu := upd_setRow hbox (cs.take o' ++ ((st.esc1 cv).den cv).cells.toList ++ cs.drop (o' + ((st.esc1 cv).den cv).cells.toList.length))
        have hden : (st.esc1 cv).den cv = st.den cv := den_same hlk.bx cv
        have hrun : (execOp a.eval o).run cx.P wa = .ok .skip (wa.setRow b (cs.take o' ++ ((st.esc1 cv).den cv).cells.toList ++ cs.drop (o' + ((st.esc1 cv).den cv).cells.toList.length)).toArray) := by
          have hs := store_run (P := cx.P) hbox (o := o') (l := ((st.esc1 cv).den cv).cells.toList) hle hone (v := (st.esc1 cv).den cv) rfl hinf hlen
          have e1 : a.eval ad = .pointer (some ⟨b, o', none⟩) := by rw [h1]; show Value.pointer (offA A j) = _; rw [hA]
          have e2 : a.eval x = (st.esc1 cv).den cv := h2.trans hden.symm
          simp only [execOp, hop, e1, e2, Sem.run_bind, hs, Result.andThen_ok, Sem.run_pure]
        have hfr : Fr cx.M cx.w0 (wa.setRow b (cs.take o' ++ ((st.esc1 cv).den cv).cells.toList ++ cs.drop (o' + ((st.esc1 cv).den cv).cells.toList.length)).toArray) := by
          have hf := hR.wok.fr
          refine ⟨hf.os, hf.tape, hf.output, by rw [hu.size]; exact hf.size, fun q hq hM => ?_⟩
          rw [hu.block q ?_]
          · exact hf.block q hq hM
          · rintro rfl
            rcases hown with h | h
            · omega
            · exact hM h
        have hA' : Aft (st.esc1 cv) (st.esc1 cv).clean := ⟨rfl, Nat.le_refl _, fun q b hb => ⟨b, hb, rfl, rfl, rfl, fun _ _ h _ => h⟩⟩
        have hW : WOk cx (st.esc1 cv).clean (wa.setRow b (cs.take o' ++ ((st.esc1 cv).den cv).cells.toList ++ cs.drop (o' + ((st.esc1 cv).den cv).cells.toList.length)).toArray)
            (wa.setRow b (cs.take o' ++ ((st.esc1 cv).den cv).cells.toList ++ cs.drop (o' + ((st.esc1 cv).den cv).cells.toList.length)).toArray) := by
          refine ⟨fun x hx => ?_, hR'.wok.own, hR'.wok.nodup, hfr, by simp [St.clean]⟩
          have := hR'.wok.boxes x hx
          have hne : x.id ≠ b := by rintro rfl; exact hnot (List.mem_map.2 ⟨x, hx, rfl⟩)
          unfold Box at *
          rw [hu.block _ hne]; exact this
        obtain ⟨h6, h7⟩ := put_rel hd hR hi hdn hT hcoh (hlk.aft.trans hA') hW hR'.versB (cv := .v undef) (v := undef) (fun _ => ⟨rfl, trivial⟩) (.inl hG0)
        refine wp_skip hrun ⟨_, _, h6, h7, hk _ hu hfr, by simp [World.setRow], fun _ hs => ?_⟩
        simp [isStore, hop] at hs
      · exact h.elim
    · exact h.elim
  -- call
  · rename_i f args argTypes hop
    split at h
    · rename_i rs F hrs hF hcan
      have hlk : Like st ((st.esc1 F).escs T args.toList) := (Like.esc1 st F).trans (Like.escs _ _ _)
      have hR' := hR.like hlk
      have hcoh' := coh_like (ops := ops) hlk.env hcoh
      dsimp only at h
      split at h
      · rename_i hfit
        have hargs : Gd ops a T → (args.map a.eval) = (args.toList.map (st.rho T)).toArray := by
          intro hG
          apply Array.ext'
          simp only [Array.toList_map]
          exact List.map_congr_left fun x hx => eval_rho hR.env hG hcan x hx
        split at h
        · rename_i g first cap
          split at h
          · rename_i hokg
            have h' := boxHyps_at (ltHyp_at (flush_at h hR'.wok) hR'.wok.boxes) hR'.wok.boxes
            obtain ⟨k1, k2⟩ := effW_sound (Q := Q) hd hR' hi hdn hT hcoh' hfit
              (fun R R' hRR hE => hE.mono fun e w2 ⟨v, he, hv⟩ => ⟨v, he, hRR v w2 hv⟩)
              (fun hG next hE => by
                obtain ⟨h1, _⟩ := rd_sound hR.env hG hF
                have hrun : (execOp a.eval o).run cx.P wa = .ok (.enter g (first.toList ++ args.toList.map (st.rho T) ++ cap.toList).toArray) wa := by
                  simp only [execOp, hop, resolve, h1, St.den, Sem.run_bind, hargs hG, Deferred.ofValue, Sem.run_pure, Result.andThen_ok, invoke]
                  rw [hok g hokg]
                  congr 2
                  apply Array.ext'; simp
                unfold Oper.wp
                rw [hrun]
                refine Calls.mono hE fun e w2 ⟨v, he, hv⟩ => ?_
                subst he
                exact hv) h'
            exact ⟨fun hG => Oper.wp_mono (fun a' w' => After.like hlk) (k1 hG), fun hn => (k2 hn).like hlk⟩
          · exact h.elim
        · rename_i F'
          have h' := boxHyps_at (ltHyp_at (flush_at h hR'.wok) hR'.wok.boxes) hR'.wok.boxes
          obtain ⟨k1, k2⟩ := effW_sound (Q := Q) hd hR' hi hdn hT hcoh' hfit
            (fun R R' hRR hE => callV_mono hE fun e w2 ⟨v, he, hv⟩ => ⟨v, he, hRR v w2 hv⟩)
            (fun hG next hE => by
              obtain ⟨h1, _⟩ := rd_sound hR.env hG hF
              have h1' : a.eval f = F' := h1
              cases F' with
              | func fn first cap =>
                cases fn with
                | func g =>
                  have hE' : cx.ok g = true ∧ Calls cx.P g (first.toList ++ args.toList.map (st.rho T) ++ cap.toList).toArray wa fun e w2 => ∃ v, e = .returned v ∧ next (a.put o.dst v) w2 := hE
                  have hrun : (execOp a.eval o).run cx.P wa = .ok (.enter g (first.toList ++ args.toList.map (st.rho T) ++ cap.toList).toArray) wa := by
                    simp only [execOp, hop, resolve, h1', Sem.run_bind, hargs hG, Deferred.ofValue, Sem.run_pure, Result.andThen_ok, invoke]
                    rw [hok g hE'.1]
                    congr 2
                    apply Array.ext'; simp
                  unfold Oper.wp
                  rw [hrun]
                  refine Calls.mono hE'.2 fun e w2 ⟨v, he, hv⟩ => ?_
                  subst he
                  exact hv
                | _ => exact hE.elim
              | _ => exact hE.elim) h'
          exact ⟨fun hG => Oper.wp_mono (fun a' w' => After.like hlk) (k1 hG), fun hn => (k2 hn).like hlk⟩
        · exact h.elim
      · exact h.elim
    · exact h.elim
  -- memory
  · dsimp only at h
    split at h
    · rename_i rs s hmem hcan hrs hs
      have hlk : Like st (st.escs T (semOpnds o)) := Like.escs _ _ _
      have hR' := hR.like hlk
      have hcoh' := coh_like (ops := ops) hlk.env hcoh
      split at h
      · rename_i hfit
        have h' := boxHyps_at (ltHyp_at (flush_at h hR'.wok) hR'.wok.boxes) hR'.wok.boxes
        obtain ⟨m1, m2⟩ := semOpnds_mem hs
        obtain ⟨k1, k2⟩ := effW_sound (Q := Q) hd hR' hi hdn hT hcoh' hfit (fun R R' hRR hE => semUpon_mono hE hRR)
          (fun hG next hE => by
            unfold semUpon at hE
            split at hE
            · rename_i v w' hv
              refine wp_value ?_ hE
              rw [execOp_congr o m1 (fun x hx => eval_rho hR.env hG hcan x (m2 x hx)), semOf_run hs, hv]
              rfl
            · exact hE.elim) h'
        exact ⟨fun hG => Oper.wp_mono (fun a' w' => After.like hlk) (k1 hG), fun hn => (k2 hn).like hlk⟩
      · exact h.elim
    · exact h.elim

end
end Go.Cw
