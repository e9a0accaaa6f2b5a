/- The engine's words are sound, the sixth part: effects with a typed result. -/
import Derived.Test.YtfpmimnbocflpaaCwS5
namespace Go.Cw
open Go

theorem RelR.like {cx : Cx} {ops : Array Oper} {dn : Nat → Bool} {st st' : St} {a : Act} {w wa : World} (h : RelR cx ops dn st a w wa) (l : Like st st') : RelR cx ops dn st' a w wa where
  env := ⟨by rw [l.env]; exact h.env.size, fun t e he hg => by
    rw [l.env] at he
    obtain ⟨h1, h2⟩ := h.env.env t e he hg
    exact ⟨by rw [den_same l.bx]; exact h1, cvOk_same l.bx h2⟩⟩
  wok := h.wok.like l
  defers := h.defers
  vers := by rw [l.env, l.ctr]; exact h.vers
  versB := by
    intro b hb c hc
    have : (b.id, b.cs, b.ty) ∈ st.bx.map (fun b => (b.id, b.cs, b.ty)) := by rw [← l.bx]; exact List.mem_map.2 ⟨b, hb, rfl⟩
    obtain ⟨b', hb', he⟩ := List.mem_map.1 this
    simp only [Prod.mk.injEq] at he
    rw [l.ctr]
    exact h.versB b' hb' c (by rw [he.2.1]; exact hc)
  tags := by rw [l.env]; exact h.tags
  coh := by
    rw [l.env]
    intro t e he
    have gen : ∀ T, Coh ops st T → Coh ops st' T := by
      intro T
      induction T with
      | nil => intro _; trivial
      | cons x r ih =>
        obtain ⟨j, b⟩ := x
        rintro ⟨d, e, h1, h2, h3, h4⟩
        exact ⟨d, e, h1, by rw [l.env]; exact h2, h3, ih h4⟩
    exact gen _ (h.coh t e he)
  ci := by rw [l.env]; exact h.ci

theorem coh_like {ops : Array Oper} {st st' : St} (l : st'.env = st.env) : ∀ {T : List (Nat × Bool)}, Coh ops st T → Coh ops st' T
  | [], _ => trivial
  | (_, _) :: _, ⟨d, e, h1, h2, h3, h4⟩ => ⟨d, e, h1, by rw [l]; exact h2, h3, coh_like l h4⟩

/-- In a region that draws its order: what an operation that is no store leaves. -/
structure Dr (st st' : St) (wa wa' : World) : Prop where
  block : ∀ k, k ∈ st.ids ++ st.pins → k < wa.heap.size → wa'.heap[k]? = wa.heap[k]?
  pins : ∀ p ∈ st.pins, p ∈ st'.pins
  bx : ∀ (k : Nat) (b : Bx), st.bx[k]? = some b → ∃ b', st'.bx[k]? = some b' ∧ b'.id = b.id ∧ b'.cs = b.cs ∧ b'.ty = b.ty

def DrOk (dr : Bool) (o : Oper) (st st' : St) (wa wa' : World) : Prop := wa.heap.size ≤ wa'.heap.size ∧ (dr = true → isStore o = false → Dr st st' wa wa')

/-- What holds behind an operation. -/
def After (cx : Cx) (ops : Array Oper) (dn : Nat → Bool) (dr : Bool) (i : Nat) (o : Oper) (st : St) (wa : World) (k : St → World → Prop) (a' : Act) (wa' : World) : Prop :=
  ∃ st' w', RelR cx ops (fun j => dn j || j == i) st' a' w' wa' ∧ Agr st st' ∧ k st' w' ∧ DrOk dr o st st' wa wa'

theorem Dr.like {st st1 st' : St} {wa wa' : World} (l : Like st st1) (h : Dr st1 st' wa wa') : Dr st st' wa wa' where
  block := by
    intro k hk
    refine h.block k ?_
    rw [List.mem_append] at hk ⊢
    unfold St.ids at *
    rw [l.bx.ids, l.pins]; exact hk
  pins := by rw [← l.pins]; exact h.pins
  bx := by
    intro k b hb
    obtain ⟨b1, h1, h2, h3, h4⟩ := sameBx_get l.bx hb
    obtain ⟨b2, k1, k2, k3, k4⟩ := h.bx k b1 h1
    exact ⟨b2, k1, k2.trans h2, k3.trans h3, k4.trans h4⟩

theorem After.like {cx : Cx} {ops : Array Oper} {dn : Nat → Bool} {dr : Bool} {i : Nat} {o : Oper} {st st1 : St} {wa : World} {k : St → World → Prop} {a' : Act} {wa' : World} (l : Like st st1)
    (h : After cx ops dn dr i o st1 wa k a' wa') : After cx ops dn dr i o st wa k a' wa' := by
  obtain ⟨st', w', h1, h2, h3, h4, h5⟩ := h
  exact ⟨st', w', h1, l.aft.agr.trans h2, h3, h4, fun hd hs => (h5 hd hs).like l⟩

theorem flush_at {cx : Cx} {st : St} {w wa : World} {k : World → Prop} (h : flush cx st w k) (hW : WOk cx st w wa) : k wa := by
  unfold flush at h
  have := hW.here
  split at h
  · rename_i hd
    rw [if_pos hd] at this
    exact h wa this hW.fr
  · rename_i hd
    rw [if_neg hd] at this
    rw [this]; exact h

theorem boxHyps_at {w : World} : ∀ {l : List Bx} {p : Prop}, boxHyps w l p → (∀ b ∈ l, Box w b.id (b.cs.map (·.1)) b.ty) → p
  | [], _, h, _ => h
  | b :: r, p, h, hb => by
    simp only [boxHyps] at h
    split at h
    · exact boxHyps_at (h (hb b (by simp))) (fun x hx => hb x (by simp [hx]))
    · exact boxHyps_at h (fun x hx => hb x (by simp [hx]))

theorem ltHyp_at {st : St} {w : World} {p : Prop} (h : ltHyp st w p) (hB : Boxes st w) : p := by
  unfold ltHyp at h
  split at h
  · exact h
  · refine h fun k hk => ?_
    obtain ⟨b, hb, rfl⟩ := List.mem_map.1 hk
    exact box_lt (hB b hb)

theorem boxAsks_get {w : World} : ∀ {l : List Bx} {p : Prop}, boxAsks w l p → (∀ b ∈ l, b.esc = true → Box w b.id (b.cs.map (·.1)) b.ty) ∧ p
  | [], _, h => ⟨fun b hb => (by cases hb), h⟩
  | b :: r, p, h => by
    simp only [boxAsks] at h
    split at h
    · obtain ⟨h1, h2⟩ := h
      obtain ⟨h3, h4⟩ := boxAsks_get h2
      exact ⟨fun x hx he => by rcases List.mem_cons.1 hx with rfl | hx; exact h1; exact h3 x hx he, h4⟩
    · rename_i hn
      obtain ⟨h3, h4⟩ := boxAsks_get h
      exact ⟨fun x hx he => by rcases List.mem_cons.1 hx with rfl | hx; exact absurd he hn; exact h3 x hx he, h4⟩

theorem rsCv_den (st : St) (rs : Rs) {vs : List Value} (h : vs.length = rs.ks.length) : st.den (rsCv rs vs) = rs.mk vs ∧ CvOk st (rsCv rs vs) := by
  cases rs with
  | many shs => exact ⟨rfl, trivial⟩
  | one sh =>
    simp only [rsCv, shCv, Rs.mk, mkOne]
    split
    · exact ⟨rfl, trivial⟩
    · split
      · exact ⟨kcv_den _ _ _, kcv_ok _ _ _⟩
      · rename_i hk
        have : vs = [] := by
          apply List.eq_nil_of_length_eq_zero
          rw [h]; simp [Rs.ks, hk]
        subst this
        exact ⟨rfl, trivial⟩

/-- The boxes behind a call, one by one. -/
theorem escBx_get {P : Program} (vr : Nat) : ∀ {l : List Bx} {vs : List Value}, escFit P l = true → vs.length = (escKs P l).length → ∀ (k : Nat) (b : Bx), l[k]? = some b →
    ∃ b', (escBx vr l vs)[k]? = some b' ∧ b'.id = b.id ∧ b'.ty = b.ty ∧ b'.esc = b.esc ∧ b'.cs.length = b.cs.length ∧ ((b.esc = false ∧ b'.cs = b.cs) ∨ (b.esc = true ∧ ∀ c ∈ b'.cs, c.2 = vr))
  | [], _, _, _, k, b, hb => by simp at hb
  | b0 :: r, vs, hf, hl, k, b, hb => by
    simp only [escFit, Bool.and_eq_true] at hf
    by_cases he : b0.esc = true
    · simp only [he, if_true] at hf
      simp only [escKs, he, if_true] at hl
      cases hs : shOf P b0.ty with
      | none => simp [hs] at hf
      | some sh =>
        simp only [hs, beq_iff_eq] at hf hl
        simp only [List.length_append] at hl
        simp only [escBx, he, if_true]
        cases k with
        | zero =>
          simp only [List.getElem?_cons_zero, Option.some.injEq] at hb
          subst hb
          refine ⟨_, rfl, rfl, rfl, he.symm, by simp; omega, .inr ⟨he, fun c hc => ?_⟩⟩
          obtain ⟨v, _, rfl⟩ := List.mem_map.1 hc
          rfl
        | succ k =>
          simp only [List.getElem?_cons_succ] at hb ⊢
          exact escBx_get vr hf.2 (by simp; omega) k b hb
    · have he' : b0.esc = false := by simpa using he
      simp only [he', Bool.false_eq_true, if_false] at hf
      simp only [escKs, he', Bool.false_eq_true, if_false] at hl
      simp only [escBx, he', Bool.false_eq_true, if_false]
      cases k with
      | zero =>
        simp only [List.getElem?_cons_zero, Option.some.injEq] at hb
        subst hb
        exact ⟨_, rfl, rfl, rfl, rfl, rfl, .inl ⟨he', rfl⟩⟩
      | succ k =>
        simp only [List.getElem?_cons_succ] at hb ⊢
        exact escBx_get vr hf.2 hl k b hb

theorem escBx_length (vr : Nat) : ∀ (l : List Bx) (vs : List Value), (escBx vr l vs).length = l.length
  | [], _ => rfl
  | b :: r, vs => by simp only [escBx]; split <;> simp [escBx_length vr r]

theorem escBx_ids (vr : Nat) : ∀ (l : List Bx) (vs : List Value), (escBx vr l vs).map (·.id) = l.map (·.id)
  | [], _ => rfl
  | b :: r, vs => by simp only [escBx]; split <;> simp [escBx_ids vr r]

/-- Read anew with what they hold, they hold it. -/
theorem escNow_cells {P : Program} (vr : Nat) : ∀ {l : List Bx} {rest : List Value}, escFit P l = true → ∀ (k : Nat) (b : Bx), l[k]? = some b →
    ∃ b', (escBx vr l (escNow l ++ rest))[k]? = some b' ∧ b'.id = b.id ∧ b'.ty = b.ty ∧ b'.cs.map (·.1) = b.cs.map (·.1)
  | [], _, _, k, b, hb => by simp at hb
  | b0 :: r, rest, hf, k, b, hb => by
    simp only [escFit, Bool.and_eq_true] at hf
    by_cases he : b0.esc = true
    · simp only [escNow, escBx, he, if_true]
      cases k with
      | zero =>
        simp only [List.getElem?_cons_zero, Option.some.injEq] at hb
        subst hb
        refine ⟨_, rfl, rfl, rfl, ?_⟩
        simp [List.append_assoc, Function.comp_def]
      | succ k =>
        simp only [List.getElem?_cons_succ] at hb ⊢
        have : (List.map (fun x => x.fst) b0.cs ++ escNow r ++ rest).drop b0.cs.length = escNow r ++ rest := by
          rw [List.append_assoc, List.drop_append_of_le_length (by simp)]; simp
        rw [this]
        exact escNow_cells vr hf.2 k b hb
    · have he' : b0.esc = false := by simpa using he
      simp only [escNow, escBx, he', Bool.false_eq_true, if_false]
      cases k with
      | zero =>
        simp only [List.getElem?_cons_zero, Option.some.injEq] at hb
        subst hb
        exact ⟨_, rfl, rfl, rfl, rfl⟩
      | succ k =>
        simp only [List.getElem?_cons_succ] at hb ⊢
        exact escNow_cells vr hf.2 k b hb

theorem mem_get {α : Type} {l : List α} {x : α} (h : x ∈ l) : ∃ k : Nat, l[k]? = some x := List.getElem?_of_mem h

section
variable {cx : Cx} {ops : Array Oper} {dn : Nat → Bool} {dr : Bool} {i : Nat} {o : Oper} {st : St} {a : Act} {w wa : World} {T : List (Nat × Bool)} {k : St → World → Prop} {Q : Exit → Act → World → Prop}

/-- The state behind a step of somebody else's: its boxes' blocks. -/
theorem after_ok (hR : RelR cx ops dn st a w wa) (hf : escFit cx.P st.bx = true) {vs : List Value} (hl : vs.length = (st.anew cx.P dr).length) {w2 : World}
    (hst : Stp cx.M cx.w0.heap.size (st.kept dr) wa w2) (hasks : dr = false → ∀ b ∈ escBx st.ctr st.bx vs, b.esc = true → Box w2 b.id (b.cs.map (·.1)) b.ty) :
    Aft st (st.after dr vs) ∧ WOk cx (st.after dr vs) w2 w2 ∧ (∀ b ∈ (st.after dr vs).bx, ∀ c ∈ b.cs, c.2 < (st.after dr vs).ctr) := by
  have hfr := hR.wok.fr.step hst
  have hlt : ∀ b ∈ st.bx, b.id < wa.heap.size := fun b hb => box_lt (hR.wok.boxes b hb)
  cases dr with
  | true =>
    simp only [St.after, if_true]
    refine ⟨⟨rfl, by simp, fun k b hb => ⟨b, hb, rfl, rfl, rfl, fun _ _ h _ => h⟩⟩, ⟨fun b hb => ?_, hR.wok.own, hR.wok.nodup, hfr, by simp⟩, fun b hb c hc => Nat.lt_succ_of_lt (hR.versB b hb c hc)⟩
    have := hR.wok.boxes b hb
    unfold Box at *
    rw [hst.block b.id (hlt b hb) (.inr (by simp only [St.kept, if_true, List.mem_append]; exact .inl (List.mem_map.2 ⟨b, hb, rfl⟩)))]
    exact this
  | false =>
    simp only [St.after, Bool.false_eq_true, if_false]
    simp only [St.anew, Bool.false_eq_true, if_false] at hl
    have hg := escBx_get (P := cx.P) st.ctr hf hl
    have hback : ∀ b' ∈ escBx st.ctr st.bx vs, ∃ (k : Nat) (b : Bx), st.bx[k]? = some b ∧ (escBx st.ctr st.bx vs)[k]? = some b' := by
      intro b' hb'
      obtain ⟨k, hk⟩ := mem_get hb'
      have hlt : k < st.bx.length := by rw [← escBx_length st.ctr st.bx vs]; exact (List.getElem?_eq_some_iff.1 hk).1
      exact ⟨k, st.bx[k], List.getElem?_eq_getElem hlt, hk⟩
    refine ⟨⟨rfl, by simp, fun k b hb => ?_⟩, ⟨fun b' hb' => ?_, fun b' hb' => ?_, ?_, hfr, by simp⟩, fun b' hb' c hc => ?_⟩
    · obtain ⟨b', h1, h2, h3, h4, h5, h6⟩ := hg k b hb
      refine ⟨b', h1, h2, h3, h5, fun j c hc hv => ?_⟩
      rcases h6 with ⟨_, h6⟩ | ⟨_, h6⟩
      · rw [← h6]; exact hc
      · have := h6 c (List.mem_of_getElem? hc)
        omega
    · obtain ⟨k, b, hb, hk⟩ := hback b' hb'
      obtain ⟨b2, h1, h2, h3, h4, h5, h6⟩ := hg k b hb
      rw [hk] at h1
      obtain rfl := Option.some.inj h1
      rcases h6 with ⟨h6, h7⟩ | ⟨h6, h7⟩
      · have hm := List.mem_of_getElem? hb
        have := hR.wok.boxes b hm
        unfold Box at *
        rw [h2, h3, h7, hst.block b.id (hlt b hm) (.inr ?_)]
        · exact this
        · simp only [St.kept, Bool.false_eq_true, if_false, St.keeps]
          exact List.mem_map.2 ⟨b, List.mem_filter.2 ⟨hm, by simp [h6]⟩, rfl⟩
      · exact hasks rfl b' hb' (by rw [h4]; exact h6)
    · obtain ⟨k, b, hb, hk⟩ := hback b' hb'
      obtain ⟨b2, h1, h2, _⟩ := hg k b hb
      rw [hk] at h1
      obtain rfl := Option.some.inj h1
      rw [h2]; exact hR.wok.own b (List.mem_of_getElem? hb)
    · unfold St.ids
      rw [escBx_ids]; exact hR.wok.nodup
    · obtain ⟨k, b, hb, hk⟩ := hback b' hb'
      obtain ⟨b2, h1, h2, h3, h4, h5, h6⟩ := hg k b hb
      rw [hk] at h1
      obtain rfl := Option.some.inj h1
      rcases h6 with ⟨_, h6⟩ | ⟨_, h6⟩
      · rw [h6] at hc; exact Nat.lt_succ_of_lt (hR.versB b (List.mem_of_getElem? hb) c hc)
      · have := h6 c hc
        show c.2 < st.ctr + 1
        omega

theorem after_dr {vs : List Value} {w2 : World} {cv : CV} {d : Option Tmp} (hst : Stp cx.M cx.w0.heap.size (st.kept dr) wa w2) (o : Oper) : DrOk dr o st ((st.after dr vs).put d cv T) wa w2 := by
  refine ⟨hst.size, fun hd _ => ?_⟩
  subst hd
  have hb : ((st.after true vs).put d cv T).bx = st.bx := by cases d <;> rfl
  have hp : ((st.after true vs).put d cv T).pins = st.pins := by cases d <;> rfl
  refine ⟨fun k hk hlt => hst.block k hlt (.inr (by simpa [St.kept] using hk)), fun p h => by rw [hp]; exact h, fun k b h => ⟨b, by rw [hb]; exact h, rfl, rfl, rfl⟩⟩

/-- **An effect with a typed result.** -/
theorem effW_sound (hd : dstOk ops = true) (hR : RelR cx ops dn st a w wa) (hi : ops[i]? = some o) (hdn : dn i = false) (hT : ∀ x ∈ T, dn x.1 = true ∧ Src ops x.1) (hcoh : Coh ops st T)
    (hf : escFit cx.P st.bx = true) {rs : Rs} {E : (Value → World → Prop) → Prop} (hmono : ∀ R R' : Value → World → Prop, (∀ v w, R v w → R' v w) → E R → E R')
    (hrun : Gd ops a T → ∀ next : Act → World → Prop, E (fun v w2 => next (a.put o.dst v) w2) → o.wp cx.P a wa next Q)
    (h : effW cx ops dr st T rs o.dst wa E k) :
    (Gd ops a T → o.wp cx.P a wa (After cx ops dn dr i o st wa k) Q) ∧ (¬ Gd ops a T → After cx ops dn dr i o st wa k (a.put o.dst undef) wa) := by
  have core : ∀ (v : Value) (w2 : World) (vs : List Value), vs.length = (rs.ks ++ st.anew cx.P dr).length → v = rs.mk (vs.take rs.ks.length) → Stp cx.M cx.w0.heap.size (st.kept dr) wa w2 →
      (dr = false → ∀ b ∈ escBx st.ctr st.bx (vs.drop rs.ks.length), b.esc = true → Box w2 b.id (b.cs.map (·.1)) b.ty) → Gd ops a T →
      k ((st.after dr (vs.drop rs.ks.length)).put o.dst (rsCv rs (vs.take rs.ks.length)) T) w2 → After cx ops dn dr i o st wa k (a.put o.dst v) w2 := by
    intro v w2 vs hl hv hst hasks hG hk
    simp only [List.length_append] at hl
    obtain ⟨h1, h2, h3⟩ := after_ok hR hf (vs := vs.drop rs.ks.length) (by simp; omega) hst hasks
    obtain ⟨h4, h5⟩ := rsCv_den (st.after dr (vs.drop rs.ks.length)) rs (vs := vs.take rs.ks.length) (by simp; omega)
    obtain ⟨h6, h7⟩ := put_rel hd hR hi hdn hT hcoh h1 h2 h3 (cv := rsCv rs (vs.take rs.ks.length)) (v := v) (fun _ => ⟨by rw [hv, h4], h5⟩) (.inl hG)
    exact ⟨_, w2, h6, h7, hk, after_dr hst o⟩
  cases T with
  | nil =>
    have hG : Gd ops a [] := fun x hx => (by cases hx)
    refine ⟨fun _ => hrun hG _ (hmono _ _ (fun v w2 hv => ?_) h), fun hn => absurd hG hn⟩
    obtain ⟨vs, hl, hv', hst, hasks⟩ := exKs_ex hv
    unfold St.asks at hasks
    cases hdr : dr with
    | true =>
      subst hdr
      simp only [if_true] at hasks
      exact core v w2 vs hl hv' hst (fun h => by cases h) hG (hasks (hR.wok.fr.step hst))
    | false =>
      subst hdr
      simp only [Bool.false_eq_true, if_false] at hasks
      obtain ⟨hb, hk⟩ := boxAsks_get hasks
      exact core v w2 vs hl hv' hst (fun _ => hb) hG (hk (hR.wok.fr.step hst))
  | cons t r =>
    simp only [effW] at h
    cases hg : gx st ops (t :: r) with
    | none => rw [hg] at h; exact h.elim
    | some g =>
      rw [hg] at h
      have hgx := gx_spec hR hcoh hg
      obtain ⟨h1, h2⟩ := h (fun vs w2 => k ((st.after dr (vs.drop rs.ks.length)).put o.dst (rsCv rs (vs.take rs.ks.length)) (t :: r)) w2) (allKs_of fun vs w2 _ hk => hk)
      refine ⟨fun hG => hrun hG _ (hmono _ _ (fun v w2 hv => ?_) (h1 (hgx.2 hG))), fun hn => ?_⟩
      · obtain ⟨vs, hl, hv', hst, hasks⟩ := exKs_ex hv
        unfold St.asks at hasks
        cases hdr : dr with
        | true =>
          subst hdr
          simp only [if_true] at hasks
          exact core v w2 vs hl hv' hst (fun h => by cases h) hG hasks
        | false =>
          subst hdr
          simp only [Bool.false_eq_true, if_false] at hasks
          obtain ⟨hb, hk⟩ := boxAsks_get hasks
          exact core v w2 vs hl hv' hst (fun _ => hb) hG hk
      · have hgf : g = false := by
          cases g with
          | false => rfl
          | true => exact absurd (hgx.1 rfl) hn
        obtain ⟨vs, hl, hk⟩ := exKs_ex (h2 hgf)
        have hdrop : (vs ++ (if dr then [] else escNow st.bx)).drop rs.ks.length = if dr then [] else escNow st.bx := by rw [← hl]; simp
        rw [hdrop] at hk
        have hst : Stp cx.M cx.w0.heap.size (st.kept dr) wa wa := ⟨rfl, rfl, rfl, Nat.le_refl _, fun _ _ _ => rfl⟩
        have hlen : dr = false → (escNow st.bx).length = (escKs cx.P st.bx).length := by
          intro _
          have gen : ∀ l : List Bx, escFit cx.P l = true → (escNow l).length = (escKs cx.P l).length := by
            intro l
            induction l with
            | nil => intro _; rfl
            | cons b l ih =>
              intro hf
              simp only [escFit, Bool.and_eq_true] at hf
              simp only [escNow, escKs]
              split
              · rename_i he
                simp only [he, if_true] at hf
                cases hs : shOf cx.P b.ty with
                | none => simp [hs] at hf
                | some sh =>
                  simp only [hs, beq_iff_eq] at hf
                  simp [ih hf.2, hf.1]
              · exact ih hf.2
          exact gen _ hf
        obtain ⟨k1, k2, k3⟩ := after_ok hR hf (dr := dr) (vs := if dr then [] else escNow st.bx) (by cases dr <;> simp [St.anew, hlen]) hst (by
          intro hdr b' hb' _
          subst hdr
          simp only [Bool.false_eq_true, if_false] at hb'
          obtain ⟨q, hq⟩ := mem_get hb'
          have hlt : q < st.bx.length := by rw [← escBx_length st.ctr st.bx (escNow st.bx)]; exact (List.getElem?_eq_some_iff.1 hq).1
          obtain ⟨b2, j1, j2, j3, j4⟩ := escNow_cells (P := cx.P) st.ctr (rest := []) hf q st.bx[q] (List.getElem?_eq_getElem hlt)
          rw [List.append_nil] at j1
          rw [hq] at j1
          obtain rfl := Option.some.inj j1
          rw [j2, j3, j4]
          exact hR.wok.boxes _ (List.getElem_mem hlt))
        obtain ⟨h6, h7⟩ := put_rel hd hR hi hdn hT hcoh k1 k2 k3 (cv := rsCv rs ((vs ++ (if dr then [] else escNow st.bx)).take rs.ks.length)) (v := undef) (fun hG => absurd hG hn) (.inr rfl)
        exact ⟨_, wa, h6, h7, hk, after_dr hst o⟩

end
end Go.Cw
