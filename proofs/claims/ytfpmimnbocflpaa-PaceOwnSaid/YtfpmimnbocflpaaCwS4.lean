/- The engine's words are sound, the fourth part: what the state tells, and how a put keeps it. -/
import Derived.Test.YtfpmimnbocflpaaCwS3
namespace Go.Cw
open Go

/-! ### Worlds -/
theorem Fr.refl (M : Nat → Prop) (w : World) : Fr M w w := ⟨rfl, rfl, rfl, Nat.le_refl _, fun _ _ _ => rfl⟩

theorem Fr.step {M : Nat → Prop} {w0 w w' : World} {ids : List Nat} (h : Fr M w0 w) (s : Stp M w0.heap.size ids w w') : Fr M w0 w' :=
  ⟨s.os.trans h.os, s.tape.trans h.tape, s.output.trans h.output, Nat.le_trans h.size s.size,
    fun k hk hM => (s.block k (Nat.lt_of_lt_of_le hk h.size) (.inl ⟨hk, hM⟩)).trans (h.block k hk hM)⟩

theorem Chg.refl (ids : List Nat) (w : World) : Chg ids w w := ⟨rfl, rfl, rfl, Nat.le_refl _, fun _ _ _ => rfl⟩

theorem Chg.mono {ids ids' : List Nat} {w w' : World} (h : Chg ids w w') (hs : ∀ k, k < w.heap.size → k ∈ ids → k ∈ ids') : Chg ids' w w' :=
  ⟨h.os, h.tape, h.output, h.size, fun k hk hn => h.block k hk fun hm => hn (hs k hk hm)⟩

theorem box_lt {w : World} {b : Nat} {cs : List Value} {t : TypeId} (h : Box w b cs t) : b < w.heap.size := by
  unfold Box at h
  rcases Nat.lt_or_ge b w.heap.size with h' | h'
  · exact h'
  · rw [Array.getElem?_eq_none h'] at h; cases h

/-- What the world is, to the state. w: the formula's, wa: the actual one. -/
structure WOk (cx : Cx) (st : St) (w wa : World) : Prop where
  boxes : Boxes st wa
  own : ∀ b ∈ st.bx, cx.w0.heap.size ≤ b.id ∨ cx.M b.id
  nodup : st.ids.Nodup
  fr : Fr cx.M cx.w0 wa
  here : if st.dirty then Chg st.ids w wa else wa = w

theorem WOk.size_le {cx : Cx} {st : St} {w wa : World} (h : WOk cx st w wa) : w.heap.size ≤ wa.heap.size := by
  have := h.here
  split at this
  · exact this.size
  · rw [this]; exact Nat.le_refl _

theorem WOk.chg {cx : Cx} {st : St} {w wa : World} (h : WOk cx st w wa) : Chg st.ids w wa := by
  have := h.here
  split at this
  · exact this
  · rw [this]; exact Chg.refl _ _

theorem WOk.like {cx : Cx} {st st' : St} {w wa : World} (h : WOk cx st w wa) (l : Like st st') : WOk cx st' w wa where
  boxes := l.bx.boxes h.boxes
  own := by
    intro b hb
    have : b.id ∈ st'.bx.map (·.id) := List.mem_map.2 ⟨b, hb, rfl⟩
    rw [l.bx.ids] at this
    obtain ⟨b', hb', he⟩ := List.mem_map.1 this
    rw [← he]; exact h.own b' hb'
  nodup := by unfold St.ids; rw [l.bx.ids]; exact h.nodup
  fr := h.fr
  here := by
    have := h.here
    rw [l.dirty]
    unfold St.ids at *
    rw [l.bx.ids]; exact this

/-! ### The relation in a region -/
def Src (ops : Array Oper) (j : Nat) : Prop := ∃ o ∈ ops.toList, ∃ b, o.guard = some (j, b)

def Coh (ops : Array Oper) (st : St) : List (Nat × Bool) → Prop
  | [] => True
  | (j, _) :: r => ∃ d e, (ops[j]?).bind (·.dst) = some d ∧ st.env[d]? = some (some e) ∧ e.tg = r ∧ Coh ops st r

structure RelR (cx : Cx) (ops : Array Oper) (dn : Nat → Bool) (st : St) (a : Act) (w wa : World) : Prop where
  env : EnvOk (Gd ops a) st a
  wok : WOk cx st w wa
  defers : a.defers = []
  vers : ∀ (t : Nat) (e : En), st.env[t]? = some (some e) → e.vr < st.ctr
  versB : ∀ b ∈ st.bx, ∀ c ∈ b.cs, c.2 < st.ctr
  tags : ∀ (t : Nat) (e : En), st.env[t]? = some (some e) → ∀ x ∈ e.tg, dn x.1 = true ∧ Src ops x.1
  coh : ∀ (t : Nat) (e : En), st.env[t]? = some (some e) → Coh ops st e.tg
  ci : ∀ (j d : Nat) (e : En) (b : Bool), (ops[j]?).bind (·.dst) = some d → st.env[d]? = some (some e) → dn j = true → yielded ops a.tmps j = some b → Gd ops a e.tg

theorem dstOk_spec {ops : Array Oper} (h : dstOk ops = true) {j : Nat} (hs : Src ops j) : ∃ d, (ops[j]?).bind (·.dst) = some d ∧ ∀ i, (ops[i]?).bind (·.dst) = some d → i = j := by
  obtain ⟨o, ho, b, hb⟩ := hs
  have := List.all_eq_true.1 h o ho
  simp only [hb] at this
  split at this
  · cases this
  · rename_i d hd
    refine ⟨d, hd, fun i hi => ?_⟩
    have hlt : i < ops.size := by
      rcases Nat.lt_or_ge i ops.size with h' | h'
      · exact h'
      · rw [Array.getElem?_eq_none h'] at hi; cases hi
    have := List.all_eq_true.1 this i (List.mem_range.2 hlt)
    simp only [hi, Bool.or_eq_true, beq_iff_eq, bne_self_eq_false, Bool.false_eq_true, or_false] at this
    exact this

/-- How a state is changed by an effect, ahead of the put. -/
structure Aft (st st' : St) : Prop where
  env : st'.env = st.env
  ctr : st.ctr ≤ st'.ctr
  bx : ∀ (k : Nat) (b : Bx), st.bx[k]? = some b → ∃ b', st'.bx[k]? = some b' ∧ b'.id = b.id ∧ b'.ty = b.ty ∧ b'.cs.length = b.cs.length ∧ ∀ (j : Nat) (c : Value × Nat), b'.cs[j]? = some c → c.2 < st.ctr → b.cs[j]? = some c

structure Agr (st st' : St) : Prop where
  ctr : st.ctr ≤ st'.ctr
  len : st'.env.length = st.env.length
  env : ∀ (t : Nat) (e : En), st'.env[t]? = some (some e) → e.vr < st.ctr → st.env[t]? = some (some e)
  bx : ∀ (k : Nat) (b : Bx), st.bx[k]? = some b → ∃ b', st'.bx[k]? = some b' ∧ b'.id = b.id ∧ b'.ty = b.ty ∧ b'.cs.length = b.cs.length ∧ ∀ (j : Nat) (c : Value × Nat), b'.cs[j]? = some c → c.2 < st.ctr → b.cs[j]? = some c

theorem Agr.refl (st : St) : Agr st st := ⟨Nat.le_refl _, rfl, fun _ _ h _ => h, fun _ b h => ⟨b, h, rfl, rfl, rfl, fun _ _ h _ => h⟩⟩

theorem Agr.trans {a b c : St} (h : Agr a b) (k : Agr b c) : Agr a c where
  ctr := Nat.le_trans h.ctr k.ctr
  len := k.len.trans h.len
  env := fun t e he hv => h.env t e (k.env t e he (Nat.lt_of_lt_of_le hv h.ctr)) hv
  bx := fun i b hb => by
    obtain ⟨b1, h1, h2, h3, h4, h5⟩ := h.bx i b hb
    obtain ⟨b2, k1, k2, k3, k4, k5⟩ := k.bx i b1 h1
    exact ⟨b2, k1, k2.trans h2, k3.trans h3, k4.trans h4, fun j c hc hv => h5 j c (k5 j c hc (Nat.lt_of_lt_of_le hv h.ctr)) hv⟩

theorem Aft.agr {st st' : St} (h : Aft st st') : Agr st st' := ⟨h.ctr, by rw [h.env], fun _ _ he _ => by rw [h.env] at he; exact he, h.bx⟩

theorem sameBx_get {l l' : List Bx} (h : SameBx l l') {k : Nat} {b : Bx} (hb : l'[k]? = some b) : ∃ b', l[k]? = some b' ∧ b'.id = b.id ∧ b'.cs = b.cs ∧ b'.ty = b.ty := by
  have : (l.map (fun b => (b.id, b.cs, b.ty)))[k]? = some (b.id, b.cs, b.ty) := by rw [h, List.getElem?_map, hb]; rfl
  rw [List.getElem?_map] at this
  obtain ⟨b', hb', he⟩ := Option.map_eq_some_iff.1 this
  simp only [Prod.mk.injEq] at he
  exact ⟨b', hb', he.1, he.2.1, he.2.2⟩

theorem Like.aft {st st' : St} (h : Like st st') : Aft st st' := ⟨h.env, by rw [h.ctr]; exact Nat.le_refl _, fun k b hb => by
  obtain ⟨b', h1, h2, h3, h4⟩ := sameBx_get h.bx hb
  exact ⟨b', h1, h2, h4, by rw [h3], fun j c hc _ => by rw [← h3]; exact hc⟩⟩

theorem Aft.trans {a b c : St} (h : Aft a b) (k : Aft b c) : Aft a c := ⟨k.env.trans h.env, Nat.le_trans h.ctr k.ctr, (h.agr.trans k.agr).bx⟩

theorem agr_den {st st' : St} (h : ∀ (k : Nat) (b : Bx), st.bx[k]? = some b → ∃ b', st'.bx[k]? = some b' ∧ b'.id = b.id) {cv : CV} (hc : CvOk st cv) : st'.den cv = st.den cv ∧ CvOk st' cv := by
  cases cv with
  | v x => exact ⟨rfl, trivial⟩
  | o x => exact ⟨rfl, trivial⟩
  | ep A j => exact ⟨rfl, hc⟩
  | bp k off =>
    simp only [CvOk] at hc
    obtain ⟨b', h1, h2⟩ := h k st.bx[k] (List.getElem?_eq_getElem hc)
    have hlt : k < st'.bx.length := (List.getElem?_eq_some_iff.1 h1).1
    refine ⟨?_, hlt⟩
    simp only [St.den, St.idAt, h1, List.getElem?_eq_getElem hc, h2]

theorem Aft.den {st st' : St} (h : Aft st st') {cv : CV} (hc : CvOk st cv) : st'.den cv = st.den cv ∧ CvOk st' cv :=
  agr_den (fun k b hb => let ⟨b', h1, h2, _⟩ := h.bx k b hb; ⟨b', h1, h2⟩) hc

/-- The slots of guards keep what they hold, if another operation's is written. -/
theorem yielded_put {ops : Array Oper} (hd : dstOk ops = true) {i : Nat} {o : Oper} (hi : ops[i]? = some o) (a : Act) (v : Value) {j : Nat} (hj : Src ops j) (hne : j ≠ i) :
    yielded ops (a.put o.dst v).tmps j = yielded ops a.tmps j := by
  obtain ⟨d, h1, h2⟩ := dstOk_spec hd hj
  unfold yielded
  rw [h1]
  simp only [Option.bind_some]
  have : (a.put o.dst v).tmps[d]? = a.tmps[d]? := by
    cases hdst : o.dst with
    | none => rfl
    | some d' =>
      have hdd : d' ≠ d := by
        rintro rfl
        exact hne (h2 i (by simp [hi, hdst])).symm
      simp only [Act.put]
      exact Array.getElem?_setIfInBounds_ne hdd
  rw [this]

theorem gd_put {ops : Array Oper} (hd : dstOk ops = true) {i : Nat} {o : Oper} (hi : ops[i]? = some o) (a : Act) (v : Value) {T : List (Nat × Bool)} (hT : ∀ x ∈ T, Src ops x.1 ∧ x.1 ≠ i) :
    Gd ops (a.put o.dst v) T ↔ Gd ops a T := by
  unfold Gd
  constructor <;> intro h x hx
  · rw [← yielded_put hd hi a v (hT x hx).1 (hT x hx).2]; exact h x hx
  · rw [yielded_put hd hi a v (hT x hx).1 (hT x hx).2]; exact h x hx

theorem env_set_get {l : List (Option En)} {d t : Nat} {x : Option En} {e : En} (h : (l.set d x)[t]? = some (some e)) : (t = d ∧ x = some e ∧ d < l.length) ∨ (t ≠ d ∧ l[t]? = some (some e)) := by
  rw [List.getElem?_set] at h
  split at h
  · rename_i hdt
    subst hdt
    split at h
    · exact .inl ⟨rfl, Option.some.inj h, by assumption⟩
    · cases h
  · rename_i hdt
    exact .inr ⟨fun h' => hdt h'.symm, h⟩

theorem coh_put {ops : Array Oper} (hd : dstOk ops = true) {i : Nat} {o : Oper} (hi : ops[i]? = some o) {st st1 : St} (henv : st1.env = st.env) (cv : CV) (T' : List (Nat × Bool)) :
    ∀ T : List (Nat × Bool), (∀ x ∈ T, Src ops x.1 ∧ x.1 ≠ i) → Coh ops st T → Coh ops (st1.put o.dst cv T') T
  | [], _, _ => trivial
  | (j, b) :: r, hT, ⟨d, e, h1, h2, h3, h4⟩ => by
    refine ⟨d, e, h1, ?_, h3, coh_put hd hi henv cv T' r (fun x hx => hT x (by simp [hx])) h4⟩
    cases hdst : o.dst with
    | none => simp only [St.put, henv]; exact h2
    | some d' =>
      have hdd : d' ≠ d := by
        rintro rfl
        obtain ⟨d2, k1, k2⟩ := dstOk_spec hd (hT (j, b) (by simp)).1
        rw [h1] at k1
        obtain rfl := Option.some.inj k1
        exact (hT (j, b) (by simp)).2 (k2 i (by simp [hi, hdst])).symm
      simp only [St.put, henv]
      rw [List.getElem?_set_ne hdd]; exact h2

/-- **A put.** -/
theorem put_rel {cx : Cx} {ops : Array Oper} (hd : dstOk ops = true) {dn : Nat → Bool} {st st1 : St} {a : Act} {w wa w1 wa1 : World} {i : Nat} {o : Oper} {T : List (Nat × Bool)} {cv : CV} {v : Value}
    (hR : RelR cx ops dn st a w wa) (hi : ops[i]? = some o) (hdn : dn i = false) (hT : ∀ x ∈ T, dn x.1 = true ∧ Src ops x.1) (hcoh : Coh ops st T)
    (hA : Aft st st1) (hW : WOk cx st1 w1 wa1) (hvB : ∀ b ∈ st1.bx, ∀ c ∈ b.cs, c.2 < st1.ctr)
    (hv1 : Gd ops a T → v = st1.den cv ∧ CvOk st1 cv) (hv2 : Gd ops a T ∨ v = undef) :
    RelR cx ops (fun j => dn j || j == i) (st1.put o.dst cv T) (a.put o.dst v) w1 wa1 ∧ Agr st (st1.put o.dst cv T) := by
  have hne : ∀ x : Nat × Bool, dn x.1 = true → x.1 ≠ i := fun x hx he => by rw [he, hdn] at hx; cases hx
  have hT' : ∀ x ∈ T, Src ops x.1 ∧ x.1 ≠ i := fun x hx => ⟨(hT x hx).2, hne x (hT x hx).1⟩
  have hEt : ∀ (t : Nat) (e : En), st.env[t]? = some (some e) → ∀ x ∈ e.tg, Src ops x.1 ∧ x.1 ≠ i := fun t e he x hx => ⟨(hR.tags t e he x hx).2, hne x (hR.tags t e he x hx).1⟩
  have hbx : (st1.put o.dst cv T).bx = st1.bx := by cases o.dst <;> rfl
  have hids : (st1.put o.dst cv T).ids = st1.ids := by unfold St.ids; rw [hbx]
  have hdirty : (st1.put o.dst cv T).dirty = st1.dirty := by cases o.dst <;> rfl
  have hctr : st1.ctr ≤ (st1.put o.dst cv T).ctr := by cases o.dst <;> simp [St.put]
  have hden : ∀ c, (st1.put o.dst cv T).den c = st1.den c := by intro c; cases c <;> simp only [St.den, St.idAt, hbx]
  have hcv : ∀ c, CvOk (st1.put o.dst cv T) c ↔ CvOk st1 c := by intro c; cases c <;> simp only [CvOk, hbx]
  have hsz : st1.env.length = st.env.length := by rw [hA.env]
  -- the entries
  have hent : ∀ (t : Nat) (e : En), (st1.put o.dst cv T).env[t]? = some (some e) → (o.dst = some t ∧ e = ⟨cv, T, st1.ctr⟩ ∧ t < st.env.length) ∨ (o.dst ≠ some t ∧ st.env[t]? = some (some e)) := by
    intro t e he
    cases hdst : o.dst with
    | none => rw [hdst] at he; simp only [St.put, hA.env] at he; exact .inr ⟨by simp, he⟩
    | some d =>
      rw [hdst] at he
      simp only [St.put] at he
      rcases env_set_get he with ⟨rfl, h2, h3⟩ | ⟨h1, h2⟩
      · exact .inl ⟨rfl, (Option.some.inj h2).symm, by rw [← hsz]; exact h3⟩
      · exact .inr ⟨fun h => h1 (Option.some.inj h).symm, by rw [← hA.env]; exact h2⟩
  have htm : ∀ t, o.dst ≠ some t → (a.put o.dst v).tmps[t]? = a.tmps[t]? := by
    intro t ht
    cases hdst : o.dst with
    | none => rfl
    | some d =>
      have : d ≠ t := by rintro rfl; exact ht hdst
      simp only [Act.put]
      exact Array.getElem?_setIfInBounds_ne this
  have htd : ∀ t, o.dst = some t → t < st.env.length → (a.put o.dst v).tmps[t]? = some v := by
    intro t ht hlt
    rw [ht]
    simp only [Act.put]
    have : t < a.tmps.size := by rw [hR.env.size]; exact hlt
    simp [this]
  refine ⟨⟨⟨?_, ?_⟩, ⟨?_, ?_, ?_, hW.fr, ?_⟩, ?_, ?_, ?_, ?_, ?_, ?_⟩, ⟨?_, ?_, ?_, ?_⟩⟩
  · have : (a.put o.dst v).tmps.size = a.tmps.size := by cases o.dst <;> simp [Act.put]
    rw [this, hR.env.size, ← hsz]
    cases o.dst <;> simp [St.put]
  · intro t e he hg
    rcases hent t e he with ⟨h1, rfl, h3⟩ | ⟨h1, h2⟩
    · have hg' := (gd_put hd hi a v hT').1 hg
      obtain ⟨k1, k2⟩ := hv1 hg'
      exact ⟨by rw [htd t h1 h3, hden, k1], (hcv _).2 k2⟩
    · have hg' := (gd_put hd hi a v (hEt t e h2)).1 hg
      obtain ⟨k1, k2⟩ := hR.env.env t e h2 hg'
      obtain ⟨k3, k4⟩ := hA.den k2
      exact ⟨by rw [htm t h1, k1, hden, k3], (hcv _).2 k4⟩
  · intro b hb; rw [hbx] at hb; exact hW.boxes b hb
  · intro b hb; rw [hbx] at hb; exact hW.own b hb
  · rw [hids]; exact hW.nodup
  · rw [hdirty, hids]; exact hW.here
  · cases o.dst <;> exact hR.defers
  · intro t e he
    rcases hent t e he with ⟨h1, rfl, h3⟩ | ⟨h1, h2⟩
    · rw [h1]; simp [St.put]
    · exact Nat.lt_of_lt_of_le (hR.vers t e h2) (Nat.le_trans hA.ctr hctr)
  · intro b hb c hc
    rw [hbx] at hb
    exact Nat.lt_of_lt_of_le (hvB b hb c hc) hctr
  · intro t e he x hx
    rcases hent t e he with ⟨h1, rfl, h3⟩ | ⟨h1, h2⟩
    · exact ⟨by simp [(hT x hx).1], (hT x hx).2⟩
    · exact ⟨by simp [(hR.tags t e h2 x hx).1], (hR.tags t e h2 x hx).2⟩
  · intro t e he
    rcases hent t e he with ⟨h1, rfl, h3⟩ | ⟨h1, h2⟩
    · exact coh_put hd hi hA.env cv T T hT' hcoh
    · exact coh_put hd hi hA.env cv T e.tg (hEt t e h2) (hR.coh t e h2)
  · intro j d e b hj he hdj hy
    rcases hent d e he with ⟨h1, rfl, h3⟩ | ⟨h1, h2⟩
    · refine (gd_put hd hi a v hT').2 ?_
      rcases hv2 with h | h
      · exact h
      · exfalso
        unfold yielded at hy
        rw [hj] at hy
        simp only [Option.bind_some] at hy
        rw [htd d h1 h3, h] at hy
        cases hy
    · refine (gd_put hd hi a v (hEt d e h2)).2 ?_
      have hy' : yielded ops a.tmps j = some b := by
        unfold yielded at hy ⊢
        rw [hj] at hy ⊢
        simp only [Option.bind_some, htm d h1] at hy ⊢
        exact hy
      have hji : j ≠ i := by
        rintro rfl
        rw [hi] at hj
        exact h1 hj
      refine hR.ci j d e b hj h2 ?_ hy'
      simpa [hji] using hdj
  · exact Nat.le_trans hA.ctr hctr
  · rw [← hsz]; cases o.dst <;> simp [St.put]
  · intro t e he hv
    rcases hent t e he with ⟨h1, rfl, h3⟩ | ⟨h1, h2⟩
    · exact absurd hv (Nat.not_lt.2 hA.ctr)
    · exact h2
  · intro k b hb
    rw [hbx]
    exact hA.bx k b hb

end Go.Cw
