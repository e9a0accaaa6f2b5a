/- The engine's words are sound, the eighth part: a step; operations in the text's order. -/
import Derived.Test.YtfpmimnbocflpaaCwS7
namespace Go.Cw
open Go

/-- The relation outside of regions. -/
structure RelO (cx : Cx) (st : St) (a : Act) (w wa : World) : Prop where
  size : a.tmps.size = st.env.length
  env : ∀ (t : Nat) (e : En), st.env[t]? = some (some e) → e.tg = [] ∧ a.tmps[t]? = some (st.den e.cv) ∧ CvOk st e.cv ∧ e.vr < st.ctr
  wok : WOk cx st w wa
  defers : a.defers = []
  versB : ∀ b ∈ st.bx, ∀ c ∈ b.cs, c.2 < st.ctr

theorem RelO.relR {cx : Cx} {st : St} {a : Act} {w wa : World} (h : RelO cx st a w wa) (ops : Array Oper) (dn : Nat → Bool) : RelR cx ops dn st a w wa where
  env := ⟨h.size, fun t e he _ => ⟨(h.env t e he).2.1, (h.env t e he).2.2.1⟩⟩
  wok := h.wok
  defers := h.defers
  vers := fun t e he => (h.env t e he).2.2.2
  versB := h.versB
  tags := fun t e he x hx => by rw [(h.env t e he).1] at hx; cases hx
  coh := fun t e he => by rw [(h.env t e he).1]; trivial
  ci := fun j d e b _ he _ _ => by rw [(h.env d e he).1]; intro x hx; cases hx

theorem dropTags_get : ∀ {l : List (Option En)} {t : Nat} {e : En}, (dropTags l)[t]? = some (some e) → l[t]? = some (some e) ∧ e.tg = []
  | [], t, e, h => by simp [dropTags] at h
  | some x :: r, 0, e, h => by
    simp only [dropTags, List.getElem?_cons_zero, Option.some.injEq] at h
    split at h
    · rename_i hx
      obtain rfl := Option.some.inj h
      exact ⟨rfl, hx⟩
    · cases h
  | none :: r, 0, e, h => by simp [dropTags] at h
  | some x :: r, t + 1, e, h => by
    simp only [dropTags, List.getElem?_cons_succ] at h ⊢
    exact dropTags_get h
  | none :: r, t + 1, e, h => by
    simp only [dropTags, List.getElem?_cons_succ] at h ⊢
    exact dropTags_get h

theorem dropTags_length : ∀ l : List (Option En), (dropTags l).length = l.length
  | [] => rfl
  | some x :: r => by simp [dropTags, dropTags_length r]
  | none :: r => by simp [dropTags, dropTags_length r]

theorem RelR.endReg {cx : Cx} {ops : Array Oper} {dn : Nat → Bool} {st : St} {a : Act} {w wa : World} (h : RelR cx ops dn st a w wa) : RelO cx st.endReg a w wa ∧ Agr st st.endReg := by
  have hden : ∀ cv, st.endReg.den cv = st.den cv := fun cv => by cases cv <;> rfl
  have hok : ∀ cv, CvOk st.endReg cv ↔ CvOk st cv := fun cv => by cases cv <;> exact Iff.rfl
  refine ⟨⟨?_, fun t e he => ?_, ⟨h.wok.boxes, h.wok.own, h.wok.nodup, h.wok.fr, h.wok.here⟩, h.defers, h.versB⟩, ⟨Nat.le_refl _, dropTags_length _, fun t e he _ => (dropTags_get he).1, fun k b hb => ⟨b, hb, rfl, rfl, rfl, fun _ _ h _ => h⟩⟩⟩
  · rw [h.env.size]; exact (dropTags_length _).symm
  · obtain ⟨h1, h2⟩ := dropTags_get he
    obtain ⟨h3, h4⟩ := h.env.env t e h1 (by rw [h2]; intro x hx; cases hx)
    exact ⟨h2, by rw [hden]; exact h3, (hok _).2 h4, h.vers t e h1⟩

section
variable {cx : Cx} {ops : Array Oper} {dn : Nat → Bool} {dr : Bool} {i : Nat} {o : Oper} {st : St} {a : Act} {w wa : World} {k : St → World → Prop} {Q : Exit → Act → World → Prop}

/-- **One operation.** -/
theorem step_sound (hok : OkFns cx) (hd : dstOk ops = true) (hR : RelR cx ops dn st a w wa) (hi : ops[i]? = some o) (hdn : dn i = false) (h : stepOp cx ops dr dn o st w k) :
    (Region.wanted o (yielded ops a.tmps) = true → o.wp cx.P a wa (After cx ops dn dr i o st wa k) Q) ∧
    (Region.wanted o (yielded ops a.tmps) = false → After cx ops dn dr i o st wa k (a.put o.dst undef) wa) := by
  unfold stepOp at h
  split at h
  · exact h.elim
  · rename_i T hT
    obtain ⟨h1, h2, h3⟩ := tagSt_spec hR hi hT
    have quiet : ∀ (p : Option Prop) (cv : CV) (st' : St), quietOp cx.P ops st T o = some (p, cv, st') → (Gd ops a T → ∀ q, p = some q → q) → k (st'.put o.dst cv T) w →
        (Region.wanted o (yielded ops a.tmps) = true → o.wp cx.P a wa (After cx ops dn dr i o st wa k) Q) ∧
        (Region.wanted o (yielded ops a.tmps) = false → After cx ops dn dr i o st wa k (a.put o.dst undef) wa) := by
      intro p cv st' hq hp hk
      have lk : Like st st' := quiet_like' hq
      have hR' := hR.like lk
      have hDr : ∀ d, DrOk dr o st (st'.put d cv T) wa wa := fun d =>
        ⟨Nat.le_refl _, fun _ _ => Dr.like lk ⟨fun _ _ _ => rfl, fun p hp => by cases d <;> exact hp, fun q b hb => ⟨b, by cases d <;> exact hb, rfl, rfl, rfl⟩⟩⟩
      constructor
      · intro hw
        have hG := h3.1 hw
        obtain ⟨⟨k1, k2⟩, _⟩ := quiet_sound hq hR.env hG (hp hG) wa (fun _ => hR.wok.boxes)
        obtain ⟨h6, h7⟩ := put_rel hd hR hi hdn h1 h2 lk.aft hR'.wok hR'.versB (cv := cv) (v := st.den cv) (fun _ => ⟨(den_same lk.bx cv).symm, cvOk_same lk.bx k2⟩) (.inl hG)
        exact wp_value k1 ⟨_, w, h6, h7, hk, hDr _⟩
      · intro hw
        have hn : ¬ Gd ops a T := fun hG => by rw [h3.2 hG] at hw; cases hw
        obtain ⟨h6, h7⟩ := put_rel hd hR hi hdn h1 h2 lk.aft hR'.wok hR'.versB (cv := cv) (v := undef) (fun hG => absurd hG hn) (.inr rfl)
        exact ⟨_, w, h6, h7, hk, hDr _⟩
    split at h
    · rename_i cv st' hq
      exact quiet none cv st' hq (fun _ q hq => by cases hq) h
    · rename_i p cv st' hq
      exact quiet (some p) cv st' hq (fun hG q hq' => by obtain rfl := Option.some.inj hq'; exact gImp_spec hR h2 h.1 hG) h.2
    · obtain ⟨k1, k2⟩ := eff_sound (Q := Q) hok hd hR hi hdn h1 h2 h
      exact ⟨fun hw => k1 (h3.1 hw), fun hw => k2 fun hG => by rw [h3.2 hG] at hw; cases hw⟩

theorem relR_dn {dn dn' : Nat → Bool} (h : ∀ x, dn x = dn' x) (hR : RelR cx ops dn st a w wa) : RelR cx ops dn' st a w wa := by
  have : dn = dn' := funext h
  rw [← this]; exact hR

/-- **Operations in the text's order.** -/
theorem seq_sound (hok : OkFns cx) (hd : dstOk ops = true) {st0 : St} (hQ : ∀ st a w wa, RelO cx st a w wa → Agr st0 st → k st w → Q .normal a wa) :
    ∀ (l : List Oper) (j : Nat) (st : St) (a : Act) (w wa : World), (∀ m, l[m]? = ops[j + m]?) → RelR cx ops (fun x => decide (x < j)) st a w wa → Agr st0 st → seqOps cx ops l j st w k → wpList cx.P ops Q l a wa
  | [], j, st, a, w, wa, _, hR, hA, h => by
    obtain ⟨h1, h2⟩ := hR.endReg
    exact hQ _ _ _ _ h1 (hA.trans h2) h
  | o :: r, j, st, a, w, wa, hl, hR, hA, h => by
    have hi : ops[j]? = some o := by simpa using (hl 0).symm
    obtain ⟨k1, k2⟩ := step_sound (Q := Q) hok hd hR hi (by simp) h
    have next : ∀ a' wa', After cx ops (fun x => decide (x < j)) false j o st wa (fun st w => seqOps cx ops r (j + 1) st w k) a' wa' → wpList cx.P ops Q r a' wa' := by
      intro a' wa' ⟨st', w', h1, h2, h3, _⟩
      refine seq_sound hok hd hQ r (j + 1) st' a' w' wa' (fun m => ?_) (relR_dn (fun x => ?_) h1) (hA.trans h2) h3
      · have := hl (m + 1)
        rw [show j + 1 + m = j + (m + 1) by omega, ← this]; rfl
      · rw [Bool.eq_iff_iff]
        simp only [Bool.or_eq_true, decide_eq_true_eq, beq_iff_eq]
        omega
    unfold wpList
    split
    · rename_i hw
      exact .inl (Oper.wp_mono next (k1 hw))
    · rename_i hw
      exact next _ _ (k2 (by simpa using hw))
end
end Go.Cw
