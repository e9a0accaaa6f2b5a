/- The engine's words are sound, the ninth part: joins and loops' heads. -/
import Derived.Test.YtfpmimnbocflpaaCwS8
namespace Go.Cw
open Go

theorem setSlots_get (vr : Nat) : ∀ {slots : List (Nat × Ck)} {vs : List Value} {env : List (Option En)} {t : Nat} {e : En}, (setSlots vr slots vs env)[t]? = some (some e) →
    (∃ (m : Nat) (k : Ck) (v : Value), slots[m]? = some (t, k) ∧ vs[m]? = some v ∧ e = ⟨k.cv v, [], vr⟩) ∨ ((∀ (m : Nat) (k : Ck), slots[m]? = some (t, k) → vs.length ≤ m) ∧ env[t]? = some (some e))
  | [], vs, env, t, e, h => .inr ⟨fun m k hm => (by simp at hm), h⟩
  | (d, k) :: r, [], env, t, e, h => .inr ⟨fun m _ _ => Nat.zero_le m, h⟩
  | (d, k) :: r, v :: vs, env, t, e, h => by
    simp only [setSlots] at h
    rcases setSlots_get vr h with ⟨m, k', v', h1, h2, h3⟩ | ⟨h1, h2⟩
    · exact .inl ⟨m + 1, k', v', h1, h2, h3⟩
    · rcases env_set_get h2 with ⟨rfl, h3, _⟩ | ⟨h3, h4⟩
      · exact .inl ⟨0, k, v, rfl, rfl, (Option.some.inj h3).symm⟩
      · refine .inr ⟨fun m k' hm => ?_, h4⟩
        cases m with
        | zero => simp only [List.getElem?_cons_zero, Option.some.injEq, Prod.mk.injEq] at hm; exact absurd hm.1.symm h3
        | succ m => have := h1 m k' hm; simp only [List.length_cons]; omega

theorem setSlots_length (vr : Nat) : ∀ (slots : List (Nat × Ck)) (vs : List Value) (env : List (Option En)), (setSlots vr slots vs env).length = env.length
  | [], _, _ => rfl
  | _ :: _, [], _ => rfl
  | (d, k) :: r, v :: vs, env => by rw [setSlots, setSlots_length vr r vs]; simp

theorem keepEnv_get (keep : List Nat) : ∀ {env : List (Option En)} {i t : Nat} {e : En}, (keepEnv keep i env)[t]? = some (some e) → i + t ∈ keep ∧ env[t]? = some (some e)
  | [], i, t, e, h => by simp [keepEnv] at h
  | x :: r, i, 0, e, h => by
    simp only [keepEnv, List.getElem?_cons_zero, Option.some.injEq] at h
    split at h
    · rename_i hk
      exact ⟨by simpa using hk, by rw [h]; rfl⟩
    · cases h
  | x :: r, i, t + 1, e, h => by
    simp only [keepEnv, List.getElem?_cons_succ] at h ⊢
    obtain ⟨h1, h2⟩ := keepEnv_get keep h
    exact ⟨by rwa [show i + (t + 1) = i + 1 + t by omega], h2⟩

theorem keepEnv_length (keep : List Nat) : ∀ (i : Nat) (env : List (Option En)), (keepEnv keep i env).length = env.length
  | _, [] => rfl
  | i, x :: r => by simp [keepEnv, keepEnv_length keep (i + 1) r]

theorem escAll_same : ∀ (l : List Nat) (bx : List Bx), SameBx (escAll l bx) bx
  | [], _ => rfl
  | k :: r, bx => Eq.trans (escAll_same r (bx.modify k Bx.mark)) (modify_mark bx k)

theorem setBx_get (vr : Nat) : ∀ {cells : List (Nat × Nat × Ck)} {vs : List Value} {bx : List Bx} {k : Nat} {b : Bx}, vs.length = cells.length → (setBx vr cells vs bx)[k]? = some b →
    ∃ b0, bx[k]? = some b0 ∧ b.id = b0.id ∧ b.ty = b0.ty ∧ b.cs.length = b0.cs.length ∧
      ∀ (j : Nat) (c : Value × Nat), b.cs[j]? = some c → (∃ (m : Nat) (x : Ck), cells[m]? = some (k, j, x) ∧ vs[m]? = some c.1 ∧ c.2 = vr) ∨ ((∀ (m : Nat) (x : Ck), cells[m]? ≠ some (k, j, x)) ∧ b0.cs[j]? = some c)
  | [], vs, bx, k, b, _, h => ⟨b, by cases vs <;> exact h, rfl, rfl, rfl, fun j c hc => .inr ⟨fun m x hm => (by simp at hm), hc⟩⟩
  | (k', j', x') :: r, [], bx, k, b, hl, h => by simp at hl
  | (k', j', x') :: r, v :: vs, bx, k, b, hl, h => by
    simp only [setBx] at h
    obtain ⟨b1, h1, h2, h3, h4, h5⟩ := setBx_get vr (by simpa using hl) h
    rw [List.getElem?_modify] at h1
    cases hb0 : bx[k]? with
    | none => simp [hb0] at h1
    | some b0 =>
      rw [hb0] at h1
      have h1' : (if k' = k then { b0 with cs := b0.cs.set j' (v, vr) } else b0) = b1 := by
        have : (some (if k' = k then { b0 with cs := b0.cs.set j' (v, vr) } else b0)) = some b1 := by rw [← h1]; split <;> simp_all
        exact Option.some.inj this
      refine ⟨b0, rfl, ?_, ?_, ?_, ?_⟩
      · rw [h2, ← h1']; split <;> rfl
      · rw [h3, ← h1']; split <;> rfl
      · rw [h4, ← h1']; split <;> simp
      · intro j c hc
        rcases h5 j c hc with ⟨m, x, k1, k2, k3⟩ | ⟨k1, k2⟩
        · exact .inl ⟨m + 1, x, k1, k2, k3⟩
        · rw [← h1'] at k2
          by_cases hkk : k' = k
          · rw [if_pos hkk] at k2
            simp only at k2
            rw [List.getElem?_set] at k2
            split at k2
            · rename_i hj
              split at k2
              · obtain rfl := Option.some.inj k2
                exact .inl ⟨0, x', by subst hj; subst hkk; rfl, rfl, rfl⟩
              · cases k2
            · rename_i hj
              refine .inr ⟨fun m x hm => ?_, k2⟩
              cases m with
              | zero => simp only [List.getElem?_cons_zero, Option.some.injEq, Prod.mk.injEq] at hm; exact hj hm.2.1
              | succ m => exact k1 m x hm
          · rw [if_neg hkk] at k2
            refine .inr ⟨fun m x hm => ?_, k2⟩
            cases m with
            | zero => simp only [List.getElem?_cons_zero, Option.some.injEq, Prod.mk.injEq] at hm; exact hkk hm.1
            | succ m => exact k1 m x hm

theorem setBx_ids (vr : Nat) : ∀ (cells : List (Nat × Nat × Ck)) (vs : List Value) (bx : List Bx), (setBx vr cells vs bx).map (·.id) = bx.map (·.id)
  | [], vs, _ => by cases vs <;> rfl
  | _ :: _, [], _ => rfl
  | (k, j, x) :: r, v :: vs, bx => by
    rw [setBx, setBx_ids vr r vs]
    apply List.ext_getElem?
    intro q
    simp only [List.getElem?_map, List.getElem?_modify]
    cases bx[q]? with
    | none => simp
    | some b => by_cases hq : k = q <;> simp [hq]

theorem packSlots_spec {st : St} : ∀ {slots : List (Nat × Ck)} {vs : List Value}, packSlots st slots = some vs →
    vs.length = slots.length ∧ Fits (slots.map (·.2)) vs ∧ ∀ (m d : Nat) (k : Ck), slots[m]? = some (d, k) → ∃ x e, vs[m]? = some x ∧ st.env[d]? = some (some e) ∧ st.den e.cv = x
  | [], vs, h => by simp only [packSlots, Option.some.injEq] at h; subst h; exact ⟨rfl, trivial, fun m d k hm => (by simp at hm)⟩
  | (d, k) :: r, vs, h => by
    simp only [packSlots] at h
    split at h
    all_goals try (cases h; done)
    all_goals
      rename_i x vr he
      split at h
      · rename_i hf
        split at h
        · rename_i vs' hvs
          simp only [Option.some.injEq] at h
          subst h
          obtain ⟨h1, h2, h3⟩ := packSlots_spec hvs
          refine ⟨by simp [h1], ⟨hf, h2⟩, fun m d' k' hm => ?_⟩
          cases m with
          | zero =>
            simp only [List.getElem?_cons_zero, Option.some.injEq, Prod.mk.injEq] at hm
            obtain ⟨rfl, rfl⟩ := hm
            exact ⟨x, _, rfl, he, rfl⟩
          | succ m => exact h3 m d' k' hm
        · cases h
      · cases h

theorem packCells_spec {st : St} : ∀ {cells : List (Nat × Nat × Ck)} {vs : List Value}, packCells st cells = some vs →
    vs.length = cells.length ∧ Fits (cells.map (·.2.2)) vs ∧ ∀ (m b j : Nat) (k : Ck), cells[m]? = some (b, j, k) → ∃ x vr, vs[m]? = some x ∧ (st.bx[b]?).bind (·.cs[j]?) = some (x, vr)
  | [], vs, h => by simp only [packCells, Option.some.injEq] at h; subst h; exact ⟨rfl, trivial, fun m b j k hm => (by simp at hm)⟩
  | (b, j, k) :: r, vs, h => by
    simp only [packCells] at h
    split at h
    · rename_i x vr he
      split at h
      · rename_i hf
        split at h
        · rename_i vs' hvs
          simp only [Option.some.injEq] at h
          subst h
          obtain ⟨h1, h2, h3⟩ := packCells_spec hvs
          refine ⟨by simp [h1], ⟨hf, h2⟩, fun m b' j' k' hm => ?_⟩
          cases m with
          | zero =>
            simp only [List.getElem?_cons_zero, Option.some.injEq, Prod.mk.injEq] at hm
            obtain ⟨rfl, rfl, rfl⟩ := hm
            exact ⟨x, vr, rfl, he⟩
          | succ m => exact h3 m b' j' k' hm
        · cases h
      · cases h
    · cases h

theorem fits_append {a b : List Ck} {x y : List Value} (h : Fits a x) (k : Fits b y) : Fits (a ++ b) (x ++ y) := by
  induction a generalizing x with
  | nil => cases x <;> first | exact k | exact h.elim
  | cons c a ih =>
    cases x with
    | nil => exact h.elim
    | cons v x => exact ⟨h.1, ih h.2⟩

theorem keptEnv_spec {c : Nat} {env env' : List (Option En)} : ∀ {keep : List Nat}, keptEnv c env env' keep = true → ∀ t ∈ keep, ∀ e0, env[t]? = some (some e0) → ∃ e, env'[t]? = some (some e) ∧ e.vr < c
  | [], _, t, ht, _, _ => by cases ht
  | x :: r, h, t, ht, e0, he => by
    simp only [keptEnv, Bool.and_eq_true] at h
    rcases List.mem_cons.1 ht with rfl | ht
    · have h1 := h.1
      rw [he] at h1
      simp only at h1
      split at h1
      · rename_i e he'
        exact ⟨e, he', of_decide_eq_true h1⟩
      · cases h1
    · exact keptEnv_spec h.2 t ht e0 he

theorem keptCs_spec {c : Nat} {hc : List (Nat × Nat × Ck)} {k : Nat} : ∀ {l : List (Value × Nat)} {i : Nat}, keptCs c hc k i l = true → ∀ (j : Nat) (x : Value × Nat), l[j]? = some x → x.2 < c ∨ ∃ (m : Nat) (y : Ck), hc[m]? = some (k, i + j, y)
  | [], i, _, j, x, hx => by simp at hx
  | y :: r, i, h, j, x, hx => by
    simp only [keptCs, Bool.and_eq_true, Bool.or_eq_true, decide_eq_true_eq] at h
    cases j with
    | zero =>
      simp only [List.getElem?_cons_zero, Option.some.injEq] at hx
      subst hx
      rcases h.1 with h1 | h1
      · exact .inl h1
      · right
        obtain ⟨z, hz, hz2⟩ := List.any_eq_true.1 h1
        simp only [Bool.and_eq_true, beq_iff_eq] at hz2
        obtain ⟨m, hm⟩ := List.getElem?_of_mem hz
        obtain ⟨z1, z2, z3⟩ := z
        simp only at hz2
        exact ⟨m, z3, by rw [hm, hz2.1, hz2.2]; rfl⟩
    | succ j =>
      simp only [List.getElem?_cons_succ] at hx
      rcases keptCs_spec h.2 j x hx with h1 | ⟨m, y, hm⟩
      · exact .inl h1
      · exact .inr ⟨m, y, by rw [hm]; congr 3; omega⟩

theorem keptBx_spec {c : Nat} {hc : List (Nat × Nat × Ck)} : ∀ {l l' : List Bx} {i : Nat}, keptBx c hc i l l' = true → ∀ (k : Nat) (b b' : Bx), l[k]? = some b → l'[k]? = some b' → keptCs c hc (i + k) 0 b'.cs = true
  | [], _, _, _, k, b, b', hb, _ => by simp at hb
  | x :: r, [], i, h, k, b, b', hb, hb' => by simp at hb'
  | x :: r, y :: r', i, h, k, b, b', hb, hb' => by
    simp only [keptBx, Bool.and_eq_true] at h
    cases k with
    | zero =>
      simp only [List.getElem?_cons_zero, Option.some.injEq] at hb'
      subst hb'
      exact h.1.2
    | succ k =>
      simp only [List.getElem?_cons_succ] at hb hb'
      have := keptBx_spec h.2 k b b' hb hb'
      rwa [show i + (k + 1) = i + 1 + k by omega]

/-- What a state at a join must be given. st: the base; st': the state at the end of a way; c: what is older than that is as it was in st1. -/
theorem inst_rel {cx : Cx} {st st' : St} {h : Hn} {vs : List Value} {a : Act} {w' wa' : World} (hR : RelO cx st' a w' wa')
    (hlen : st'.env.length = st.env.length)
    (hctr : ∀ (t : Nat) (e : En), st.env[t]? = some (some e) → e.vr < st.ctr)
    (hbp : ∀ (t : Nat) (e : En), st.env[t]? = some (some e) → ∀ k off, e.cv = .bp k off → k < st.bx.length)
    (hcB : ∀ b ∈ st.bx, ∀ c ∈ b.cs, c.2 < st.ctr)
    (hk : ∀ t ∈ h.keep, ∀ e, st.env[t]? = some (some e) → (∃ (m : Nat) (k : Ck), h.slots[m]? = some (t, k)) ∨ st'.env[t]? = some (some e))
    {av bv : List Value} (hav : packSlots st' h.slots = some av) (hbv : packCells st' h.cells = some bv) (hvs : vs = av ++ bv)
    (hbx : ∀ (k : Nat) (b : Bx), st.bx[k]? = some b → ∃ b', st'.bx[k]? = some b' ∧ b'.id = b.id ∧ b'.ty = b.ty ∧ b'.cs.length = b.cs.length ∧
      ∀ (j : Nat) (c' : Value × Nat), b'.cs[j]? = some c' → (∃ (m : Nat) (y : Ck), h.cells[m]? = some (k, j, y)) ∨ b.cs[j]? = some c')
    (hnd : st.ids.Nodup) (hown : ∀ b ∈ st.bx, cx.w0.heap.size ≤ b.id ∨ cx.M b.id) :
    RelO cx (st.inst h vs) a wa' wa' ∧ Agr st (st.inst h vs) ∧ Fits h.ks vs := by
  obtain ⟨a1, a2, a3⟩ := packSlots_spec hav
  obtain ⟨b1, b2, b3⟩ := packCells_spec hbv
  have htake : vs.take h.slots.length = av := by rw [hvs, ← a1]; simp
  have hdrop : vs.drop h.slots.length = bv := by rw [hvs, ← a1]; simp
  have hsame := escAll_same h.esc st.bx
  have hids : (st.inst h vs).ids = st.ids := by
    unfold St.ids St.inst
    simp only [setBx_ids]
    exact hsame.ids
  -- boxes of the new state
  have hB : ∀ (k : Nat) (b : Bx), (st.inst h vs).bx[k]? = some b → ∃ b0 b', st.bx[k]? = some b0 ∧ st'.bx[k]? = some b' ∧ b.id = b0.id ∧ b'.id = b0.id ∧ b.ty = b0.ty ∧ b'.ty = b0.ty ∧ b.cs.length = b0.cs.length ∧
      b.cs.map (·.1) = b'.cs.map (·.1) ∧ ∀ (j : Nat) (c : Value × Nat), b.cs[j]? = some c → c.2 = st.ctr ∨ b0.cs[j]? = some c := by
    intro k b hb
    simp only [St.inst, hdrop] at hb
    obtain ⟨b1', g1, g2, g3, g4, g5⟩ := setBx_get st.ctr b1 hb
    have : ∃ b0, st.bx[k]? = some b0 ∧ b1'.id = b0.id ∧ b1'.cs = b0.cs ∧ b1'.ty = b0.ty := by
      have hlt : k < st.bx.length := by rw [← hsame.length]; exact (List.getElem?_eq_some_iff.1 g1).1
      obtain ⟨b2', q1, q2, q3, q4⟩ := sameBx_get hsame (List.getElem?_eq_getElem hlt)
      rw [g1] at q1
      obtain rfl := Option.some.inj q1
      exact ⟨_, List.getElem?_eq_getElem hlt, q2, q3, q4⟩
    obtain ⟨b0, r1, r2, r3, r4⟩ := this
    obtain ⟨b', s1, s2, s3, s4, s5⟩ := hbx k b0 r1
    refine ⟨b0, b', r1, s1, g2.trans r2, s2, g3.trans r4, s3, by rw [g4, r3], ?_, ?_⟩
    · apply List.ext_getElem?
      intro j
      simp only [List.getElem?_map]
      cases hc : b.cs[j]? with
      | none =>
        have h1 : b.cs.length ≤ j := List.getElem?_eq_none_iff.1 hc
        have h2 : b'.cs[j]? = none := List.getElem?_eq_none_iff.2 (by rw [s4, ← r3, ← g4]; exact h1)
        rw [h2]
      | some c =>
        have hlt : j < b'.cs.length := by rw [s4, ← r3, ← g4]; exact (List.getElem?_eq_some_iff.1 hc).1
        have hc' : b'.cs[j]? = some b'.cs[j] := List.getElem?_eq_getElem hlt
        rw [hc']
        simp only [Option.map_some, Option.some.injEq]
        rcases g5 j c hc with ⟨m, x, m1, m2, _⟩ | ⟨m1, m2⟩
        · obtain ⟨x', vr, n1, n2⟩ := b3 m k j x m1
          rw [m2] at n1
          rw [s1] at n2
          simp only [Option.bind_some, hc', Option.some.injEq] at n2
          rw [n2, Option.some.inj n1]
        · rcases s5 j _ hc' with ⟨m, y, hm⟩ | hs
          · exact absurd hm (m1 m y)
          · rw [r3, hs] at m2
            rw [Option.some.inj m2]
    · intro j c hc
      rcases g5 j c hc with ⟨m, x, m1, m2, m3⟩ | ⟨m1, m2⟩
      · exact .inl m3
      · exact .inr (by rw [← r3]; exact m2)
  have hlenB : (st.inst h vs).bx.length = st.bx.length := by
    have := congrArg List.length hids
    simpa [St.ids] using this
  have hBf : ∀ (k : Nat) (b0 : Bx), st.bx[k]? = some b0 → ∃ b, (st.inst h vs).bx[k]? = some b ∧ b.id = b0.id := by
    intro k b0 hb0
    have hlt : k < (st.inst h vs).bx.length := by rw [hlenB]; exact (List.getElem?_eq_some_iff.1 hb0).1
    obtain ⟨b0', b', q1, _, q2, _⟩ := hB k _ (List.getElem?_eq_getElem hlt)
    rw [hb0] at q1
    obtain rfl := Option.some.inj q1
    exact ⟨_, List.getElem?_eq_getElem hlt, q2⟩
  -- st' reads as the new state does
  have hden : ∀ {e : En} {t : Nat}, st.env[t]? = some (some e) → CvOk st' e.cv → (st.inst h vs).den e.cv = st'.den e.cv ∧ CvOk (st.inst h vs) e.cv := by
    intro e t he hok
    cases hcv : e.cv with
    | v x => exact ⟨rfl, trivial⟩
    | o x => exact ⟨rfl, trivial⟩
    | ep A j => rw [hcv] at hok; exact ⟨rfl, hok⟩
    | bp k off =>
      have hlt := hbp t e he k off hcv
      obtain ⟨b, c1, c2⟩ := hBf k st.bx[k] (List.getElem?_eq_getElem hlt)
      obtain ⟨b', d1, d2, _⟩ := hbx k st.bx[k] (List.getElem?_eq_getElem hlt)
      refine ⟨?_, by simp only [CvOk, hlenB]; exact hlt⟩
      simp only [St.den, St.idAt, c1, d1, c2, d2]
  have hfits : Fits h.ks vs := by rw [hvs]; exact fits_append a2 b2
  have hents : ∀ (t : Nat) (e : En), (st.inst h vs).env[t]? = some (some e) →
      (∃ (m : Nat) (k : Ck) (x : Value), h.slots[m]? = some (t, k) ∧ av[m]? = some x ∧ e = ⟨k.cv x, [], st.ctr⟩) ∨ (t ∈ h.keep ∧ st.env[t]? = some (some e) ∧ ∀ (m : Nat) (k : Ck), h.slots[m]? ≠ some (t, k)) := by
    intro t e he
    simp only [St.inst, htake] at he
    rcases setSlots_get st.ctr he with ⟨m, k, x, h1, h2, h3⟩ | ⟨h1, h2⟩
    · exact .inl ⟨m, k, x, h1, h2, h3⟩
    · obtain ⟨h3, h4⟩ := keepEnv_get _ h2
      refine .inr ⟨by simpa using h3, h4, fun m k hm => ?_⟩
      have := h1 m k hm
      have := (List.getElem?_eq_some_iff.1 hm).1
      omega
  refine ⟨⟨?_, ?_, ⟨?_, ?_, ?_, hR.wok.fr, by simp [St.inst]⟩, hR.defers, ?_⟩, ⟨by simp [St.inst], ?_, ?_, ?_⟩, hfits⟩
  · rw [hR.size, hlen]; simp [St.inst, setSlots_length, keepEnv_length]
  · intro t e he
    rcases hents t e he with ⟨m, k, x, h1, h2, rfl⟩ | ⟨h1, h2, h3⟩
    · obtain ⟨x', e', g1, g2, g3⟩ := a3 m t k h1
      rw [h2] at g1
      obtain rfl := Option.some.inj g1
      obtain ⟨_, f2, _, _⟩ := hR.env t e' g2
      exact ⟨rfl, by rw [kcv_den, f2, g3], kcv_ok _ _ _, by simp [St.inst]⟩
    · rcases hk t h1 e h2 with ⟨m, k, hm⟩ | hs
      · exact absurd hm (h3 m k)
      · obtain ⟨f1, f2, f3, _⟩ := hR.env t e hs
        obtain ⟨d1, d2⟩ := hden h2 f3
        exact ⟨f1, by rw [d1]; exact f2, d2, Nat.lt_succ_of_lt (hctr t e h2)⟩
  · intro b hb
    obtain ⟨k, hk'⟩ := mem_get hb
    obtain ⟨b0, b', q1, q2, q3, q4, q5, q6, q7, q8, _⟩ := hB k b hk'
    have := hR.wok.boxes b' (List.mem_of_getElem? q2)
    unfold Box at *
    rw [q3, ← q4, q5, ← q6, q8]; exact this
  · intro b hb
    obtain ⟨k, hk'⟩ := mem_get hb
    obtain ⟨b0, b', q1, _, q3, _⟩ := hB k b hk'
    rw [q3]; exact hown b0 (List.mem_of_getElem? q1)
  · rw [hids]; exact hnd
  · intro b hb c hc
    obtain ⟨k, hk'⟩ := mem_get hb
    obtain ⟨b0, b', q1, _, _, _, _, _, _, _, q9⟩ := hB k b hk'
    obtain ⟨j, hj⟩ := mem_get hc
    show c.2 < st.ctr + 1
    rcases q9 j c hj with h1 | h1
    · omega
    · exact Nat.lt_succ_of_lt (hcB b0 (List.mem_of_getElem? q1) c (List.mem_of_getElem? h1))
  · simp [St.inst, setSlots_length, keepEnv_length]
  · intro t e he hv
    rcases hents t e he with ⟨m, k, x, h1, h2, rfl⟩ | ⟨h1, h2, h3⟩
    · exact absurd hv (Nat.lt_irrefl _)
    · exact h2
  · intro k b0 hb0
    obtain ⟨b, g1, g2⟩ := hBf k b0 hb0
    obtain ⟨b0', b', q1, q2, q3, q4, q5, q6, q7, q8, q9⟩ := hB k b g1
    rw [hb0] at q1
    obtain rfl := Option.some.inj q1
    refine ⟨b, g1, g2, q5, q7, fun j c hc hv => ?_⟩
    rcases q9 j c hc with h1 | h1
    · omega
    · exact h1

theorem pack_spec {st0 st : St} {h : Hn} {vs : List Value} (hp : pack st0 h st = some vs) :
    keptEnv st0.ctr st0.env st.env h.keep = true ∧ keptBx st0.ctr h.cells 0 (escAll h.esc st0.bx) st.bx = true ∧ ∃ av bv, packSlots st h.slots = some av ∧ packCells st h.cells = some bv ∧ vs = av ++ bv := by
  unfold pack at hp
  split at hp
  · rename_i hc
    simp only [Bool.and_eq_true] at hc
    split at hp
    · rename_i av bv h1 h2
      exact ⟨hc.1, hc.2, av, bv, h1, h2, (Option.some.inj hp).symm⟩
    · cases hp
  · cases hp

/-- A way's end at a join. -/
theorem pack_rel {cx : Cx} {st st' : St} {h : Hn} {vs : List Value} {a0 a : Act} {w0 wa0 w' wa' : World} (h0 : RelO cx st a0 w0 wa0) (hR : RelO cx st' a w' wa') (hA : Agr st st') (hp : pack st h st' = some vs) :
    RelO cx (st.inst h vs) a wa' wa' ∧ Agr st (st.inst h vs) ∧ Fits h.ks vs := by
  obtain ⟨p1, p2, av, bv, p3, p4, p5⟩ := pack_spec hp
  refine inst_rel hR hA.len (fun t e he => (h0.env t e he).2.2.2) (fun t e he k off hcv => ?_) h0.versB (fun t ht e he => ?_) p3 p4 p5 (fun k b hb => ?_) h0.wok.nodup h0.wok.own
  · have := (h0.env t e he).2.2.1
    rw [hcv] at this; exact this
  · obtain ⟨e', h1, h2⟩ := keptEnv_spec p1 t ht e he
    have := hA.env t e' h1 h2
    rw [he] at this
    obtain rfl := Option.some.inj (Option.some.inj this)
    exact .inr h1
  · obtain ⟨b', h1, h2, h3, h4, h5⟩ := hA.bx k b hb
    obtain ⟨be, q1, _⟩ := sameBx_get (escAll_same h.esc st.bx) hb
    have hk := keptBx_spec p2 k be b' q1 h1
    rw [Nat.zero_add] at hk
    refine ⟨b', h1, h2, h3, h4, fun j c hc => ?_⟩
    rcases keptCs_spec hk j c hc with hv | ⟨m, y, hm⟩
    · exact .inr (h5 j c hc hv)
    · exact .inl ⟨m, y, by rw [hm]; congr 3; omega⟩

/-- A round's end: the head's state again. -/
theorem pack_rel' {cx : Cx} {st st' : St} {h : Hn} {vs vs' : List Value} {a0 a : Act} {w0 wa0 w' wa' : World} (h0 : RelO cx st a0 w0 wa0) (hi : Agr st (st.inst h vs)) (hfit : vs.length = h.ks.length) (hR : RelO cx st' a w' wa') (hA : Agr (st.inst h vs) st')
    (hp : pack (st.inst h vs) h st' = some vs') :
    RelO cx (st.inst h vs') a wa' wa' ∧ Agr st (st.inst h vs') ∧ Fits h.ks vs' := by
  obtain ⟨p1, p2, av, bv, p3, p4, p5⟩ := pack_spec hp
  have hks : h.ks.length = h.slots.length + h.cells.length := by simp [Hn.ks]
  refine inst_rel hR (hA.len.trans hi.len) (fun t e he => (h0.env t e he).2.2.2) (fun t e he k off hcv => ?_) h0.versB (fun t ht e he => ?_) p3 p4 p5 (fun k b hb => ?_) h0.wok.nodup h0.wok.own
  · have := (h0.env t e he).2.2.1
    rw [hcv] at this; exact this
  · by_cases hs : ∃ (m : Nat) (k : Ck), h.slots[m]? = some (t, k)
    · exact .inl hs
    · right
      have hin : (st.inst h vs).env[t]? = some (some e) := by
        simp only [St.inst]
        have gen : ∀ (slots : List (Nat × Ck)) (ws : List Value) (env : List (Option En)), (¬ ∃ (m : Nat) (k : Ck), slots[m]? = some (t, k)) → env[t]? = some (some e) → (setSlots st.ctr slots ws env)[t]? = some (some e) := by
          intro slots
          induction slots with
          | nil => intro ws env _ he; exact he
          | cons x r ih =>
            intro ws env hn he
            obtain ⟨d, k⟩ := x
            cases ws with
            | nil => exact he
            | cons v ws =>
              simp only [setSlots]
              refine ih ws _ (fun ⟨m, k', hm⟩ => hn ⟨m + 1, k', hm⟩) ?_
              rw [List.getElem?_set_ne]
              · exact he
              · rintro rfl; exact hn ⟨0, k, rfl⟩
        refine gen _ _ _ hs ?_
        have gen2 : ∀ (env : List (Option En)) (i q : Nat), i + q ∈ h.keep → env[q]? = some (some e) → (keepEnv h.keep i env)[q]? = some (some e) := by
          intro env
          induction env with
          | nil => intro i q _ he; simp at he
          | cons y r ih =>
            intro i q hq he
            cases q with
            | zero =>
              simp only [List.getElem?_cons_zero, Option.some.injEq] at he
              subst he
              have : h.keep.contains i = true := by simpa using hq
              simp only [keepEnv, this, if_true, List.getElem?_cons_zero]
            | succ q =>
              simp only [keepEnv, List.getElem?_cons_succ] at he ⊢
              exact ih (i + 1) q (by rwa [show i + 1 + q = i + (q + 1) by omega]) he
        exact gen2 _ 0 t (by simpa using ht) he
      obtain ⟨e', h1, h2⟩ := keptEnv_spec p1 t ht e hin
      have := hA.env t e' h1 h2
      rw [hin] at this
      obtain rfl := Option.some.inj (Option.some.inj this)
      exact h1
  · obtain ⟨bi, i1, i2, i3, i4, i5⟩ := hi.bx k b hb
    obtain ⟨b', h1, h2, h3, h4, h5⟩ := hA.bx k bi i1
    obtain ⟨be, q1, _⟩ := sameBx_get (escAll_same h.esc (st.inst h vs).bx) i1
    have hk := keptBx_spec p2 k be b' q1 h1
    rw [Nat.zero_add] at hk
    refine ⟨b', h1, h2.trans i2, h3.trans i3, h4.trans i4, fun j c hc => ?_⟩
    rcases keptCs_spec hk j c hc with hv | ⟨m, y, hm⟩
    · have hci := h5 j c hc hv
      simp only [St.inst] at i1
      obtain ⟨b1', g1, g2, g3, g4, g5⟩ := setBx_get st.ctr (by rw [List.length_drop, hfit, hks]; omega) i1
      rcases g5 j c hci with ⟨m, x, m1, _⟩ | ⟨_, m2⟩
      · exact .inl ⟨m, x, m1⟩
      · right
        obtain ⟨b2', r1, r2, r3, r4⟩ := sameBx_get (escAll_same h.esc st.bx) hb
        rw [g1] at r1
        obtain rfl := Option.some.inj r1
        rw [← r3]; exact m2
    · exact .inl ⟨m, y, by rw [hm]; congr 3; omega⟩

theorem fits_len : ∀ {ks : List Ck} {vs : List Value}, Fits ks vs → vs.length = ks.length
  | [], [], _ => rfl
  | _ :: _, _ :: _, h => by simp [fits_len h.2]
  | [], _ :: _, h => h.elim
  | _ :: _, [], h => h.elim

end Go.Cw
