/- The engine's words are sound, the tenth part: regions that draw their order. -/
import Derived.Test.YtfpmimnbocflpaaCwS9
namespace Go.Cw
open Go

section
variable {P : Program} {ops : Array Oper} {Q : Exit → Act → World → Prop}

/-- Whatever order is picked; S holds behind every operation, of what has come up and of the world. -/
def wpAnyL (P : Program) (ops : Array Oper) (Q : Exit → Act → World → Prop) (S : Array Bool → World → Prop) : Nat → Array Bool → Act → World → Prop
  | 0, listed, a, w => Region.ready .any ops listed = [] ∧ Q .normal a w
  | f + 1, listed, a, w =>
    (Region.ready .any ops listed = [] → Q .normal a w) ∧
      ∀ i ∈ Region.ready .any ops listed, wpOp P ops Q i (fun a' w' => S (listed.setIfInBounds i true) w' ∧ wpAnyL P ops Q S f (listed.setIfInBounds i true) a' w') a w

theorem wpAny_of_L {S : Array Bool → World → Prop} : ∀ (f : Nat) (listed : Array Bool) (a : Act) (w : World), wpAnyL P ops Q S f listed a w → wpAny P .any ops Q f listed a w
  | 0, _, _, _, h => h
  | f + 1, _, _, _, h => ⟨h.1, fun i hi => wpOp_mono (fun a' w' h' => wpAny_of_L f _ a' w' h'.2) (h.2 i hi)⟩

/-- What has come up stays so. -/
def Sub (l l' : Array Bool) : Prop := ∀ j : Nat, l.getD j false = true → l'.getD j false = true

theorem sub_set {l l' : Array Bool} (h : Sub l l') (i : Nat) : Sub l (l'.setIfInBounds i true) := fun j hj => getD_set_true (h j hj)

theorem wpAnyL_mono {S S' : Array Bool → World → Prop} (l0 : Array Bool) (h : ∀ l w, Sub l0 l → S l w → S' l w) : ∀ (f : Nat) (listed : Array Bool) (a : Act) (w : World), Sub l0 listed → wpAnyL P ops Q S f listed a w → wpAnyL P ops Q S' f listed a w
  | 0, _, _, _, _, H => H
  | f + 1, _, _, _, hs, H => ⟨H.1, fun i hi => wpOp_mono (fun a' w' h' => ⟨h _ _ (sub_set hs i) h'.1, wpAnyL_mono l0 h f _ a' w' (sub_set hs i) h'.2⟩) (H.2 i hi)⟩

theorem ready_lt {listed : Array Bool} {i : Nat} (h : i ∈ Region.ready .any ops listed) : i < listed.size ∧ listed.getD i false = false := by
  have h0 := (mem_ready.1 h).1
  rcases Nat.lt_or_ge i listed.size with h' | h'
  · refine ⟨h', ?_⟩
    simpa [h'] using h0
  · simp [Array.getElem?_eq_none h'] at h0

/-- **An operation that may come up may be taken first**, if it yields its value in every world that meets Y, and Y holds till it comes up. B: behind which operations Y may fail: they wait for it. -/
theorem wpAnyL_first {S : Array Bool → World → Prop} {Y : World → Prop} {B : Nat → Prop} {i : Nat} {oi : Oper} {v : Value} (hi : ops[i]? = some oi)
    (hsel : ∀ (j : Nat) (o : Oper) cs b, ops[j]? = some o → o.op ≠ .select cs b) (hQ : ∀ c a w, Q (.panic c) (a.put oi.dst v) w → Q (.panic c) a w)
    (hB : ∀ (j : Nat) (oj : Oper), ops[j]? = some oj → B j → ∃ e ∈ oj.after, Region.binds .any e = true ∧ e.on = i)
    (hSY : ∀ l w, (∀ j, B j → l.getD j false = false) → S l w → Y w) (hSi : ∀ l w, S (l.setIfInBounds i true) w → S l w) :
    ∀ (fuel : Nat) (listed : Array Bool) (a : Act) (w : World),
      (∀ j oj, ops[j]? = some oj → j ≠ i → listed.getD j true = false → (∀ e ∈ oj.after, Region.binds .any e = true → e.on ≠ i) → oi.apart ops oj = true) →
      i ∈ Region.ready .any ops listed → (∀ j, B j → listed.getD j false = false) → YieldsIf P ops Y oi v a → Y w → S (listed.setIfInBounds i true) w →
      wpAnyL P ops Q S fuel (listed.setIfInBounds i true) (a.put oi.dst v) w → wpAnyL P ops Q S (fuel + 1) listed a w := by
  intro fuel
  induction fuel with
  | zero =>
    intro listed a w _ hr _ hy hY hS H
    refine ⟨fun h => (by rw [h] at hr; cases hr), fun j hj => ?_⟩
    by_cases hji : j = i
    · subst hji; exact hy.wpOp hi hY ⟨hS, H⟩
    · have := ready_mono hj hji
      rw [H.1] at this
      cases this
  | succ fuel ih =>
    intro listed a w hfree hr hBl hy hY hS H
    refine ⟨fun h => (by rw [h] at hr; cases hr), fun j hj => ?_⟩
    by_cases hji : j = i
    · subst hji; exact hy.wpOp hi hY ⟨hS, H⟩
    · obtain ⟨hjun, oj, hoj, hall⟩ := mem_ready.1 hj
      obtain ⟨hilt, hi0⟩ := ready_lt hr
      have hnot : ∀ e ∈ oj.after, Region.binds .any e = true → e.on ≠ i := fun e he hb heq => by
        have h1 := hall e he hb
        rw [heq, hi0] at h1
        cases h1
      have hjB : ¬ B j := fun hb => by
        obtain ⟨e, he, hbd, hon⟩ := hB j oj hoj hb
        exact hnot e he hbd hon
      have h2 := wpOp_putIf hoj (hfree j oj hoj hji hjun hnot) (fun cs b => hsel i oi cs b hi) (fun cs b => hsel j oj cs b hoj) hQ hy (H.2 j (ready_mono hj hji))
      have hfree' : ∀ k ok, ops[k]? = some ok → k ≠ i → (listed.setIfInBounds j true).getD k true = false → (∀ e ∈ ok.after, Region.binds .any e = true → e.on ≠ i) → oi.apart ops ok = true := fun k ok hk hki hun hno => by
        refine hfree k ok hk hki ?_ hno
        by_cases hjk : j = k
        · subst hjk; exact hjun
        · rw [getD_set_ne true hjk] at hun; exact hun
      have hBl' : ∀ q, B q → (listed.setIfInBounds j true).getD q false = false := fun q hq => by
        by_cases hqj : j = q
        · subst hqj; exact absurd hq hjB
        · rw [getD_set_ne false hqj]; exact hBl q hq
      have hcomm : (listed.setIfInBounds i true).setIfInBounds j true = (listed.setIfInBounds j true).setIfInBounds i true := Array.setIfInBounds_comm _ _ (Ne.symm hji)
      refine wpOp_mono (fun a' w' h3 => ?_) h2
      obtain ⟨h4, h5, h6⟩ := h3
      rw [hcomm] at h5 h6
      have h7 := hSi _ _ h5
      exact ⟨h7, ih _ a' w' hfree' (ready_mono hr (Ne.symm hji)) hBl' h4 (hSY _ _ hBl' h7) h5 h6⟩

theorem count_set {listed : Array Bool} {i : Nat} (h : i < listed.size) (h0 : listed.getD i false = false) : (listed.setIfInBounds i true).toList.count false + 1 = listed.toList.count false := by
  have hl : i < listed.toList.length := by simpa using h
  have h1 : listed.toList[i] = false := by simpa [h] using h0
  rw [Array.toList_setIfInBounds, List.count_set hl]
  have : 0 < listed.toList.count false := List.count_pos_iff.2 (by rw [← h1]; exact List.getElem_mem hl)
  have e1 : (if (listed.toList[i] == false) = true then 1 else 0) = 1 := by rw [h1]; rfl
  rw [e1]
  show listed.toList.count false - 1 + 0 + 1 = _
  omega
end

section
variable {cx : Cx} {ops : Array Oper} {k : St → World → Prop} {Q : Exit → Act → World → Prop}

/-- What is left as it was, as long as no store has come up. -/
def Good (st : St) (wa w' : World) : Prop := wa.heap.size ≤ w'.heap.size ∧ ∀ q, q ∈ st.ids ++ st.pins → q < wa.heap.size → w'.heap[q]? = wa.heap[q]?

def NoStore (ops : Array Oper) (l : Array Bool) : Prop := ∀ (j : Nat) (o : Oper), ops[j]? = some o → isStore o = true → l.getD j false = false

def SS (ops : Array Oper) (st : St) (wa : World) (l : Array Bool) (w' : World) : Prop := NoStore ops l → Good st wa w'

theorem good_boxes {st : St} {wa w' : World} (h : Good st wa w') (hB : Boxes st wa) : Boxes st w' := by
  intro b hb
  have := hB b hb
  have hlt := box_lt this
  unfold Box at *
  rw [h.2 b.id (List.mem_append_left _ (List.mem_map.2 ⟨b, hb, rfl⟩)) hlt]; exact this

theorem good_step {st st' : St} {wa wa' w' : World} (hs : wa.heap.size ≤ wa'.heap.size) (hd : Dr st st' wa wa') (h : Good st' wa' w') : Good st wa w' := by
  refine ⟨Nat.le_trans hs h.1, fun q hq hlt => ?_⟩
  rw [h.2 q ?_ (Nat.lt_of_lt_of_le hlt hs), hd.block q hq hlt]
  rcases List.mem_append.1 hq with hq | hq
  · obtain ⟨b, hb, rfl⟩ := List.mem_map.1 hq
    obtain ⟨n, hn⟩ := mem_get hb
    obtain ⟨b', h1, h2, _⟩ := hd.bx n b hn
    exact List.mem_append_left _ (List.mem_map.2 ⟨b', List.mem_of_getElem? h1, h2⟩)
  · exact List.mem_append_right _ (hd.pins q hq)

theorem cells_block {w w' : World} {A : Option Addr} {j : Nat} {vs : List Value} (h : Cells w A j vs) (hb : blkOf A < w.heap.size → w'.heap[blkOf A]? = w.heap[blkOf A]?) : Cells w' A j vs := by
  obtain ⟨p, rfl, hc⟩ := h
  refine ⟨p, rfl, fun m hm => ?_⟩
  have h1 := hc m hm
  have hblk : ((p.add j).add m).block = p.block := by rw [add_add]; unfold Addr.add; split <;> rfl
  have hlt : p.block < w.heap.size := by
    rw [← hblk]
    exact World.block_lt_of_cell? _ _ (h1.trans (List.getElem?_eq_getElem hm))
  rw [← h1]
  exact World.cell?_of_block (w := w) (by rw [hblk]; exact hb hlt)

theorem waits_spec {o : Oper} {i : Nat} (h : waits o i = true) : ∃ e ∈ o.after, Region.binds .any e = true ∧ e.on = i := by
  obtain ⟨e, he, hc⟩ := List.any_eq_true.1 h
  simp only [Bool.and_eq_true, beq_iff_eq] at hc
  exact ⟨e, by simpa using he, hc.1, hc.2⟩

theorem storesWait_spec {i j : Nat} {oj : Oper} (h : storesWait ops i = true) (hj : ops[j]? = some oj) (hs : isStore oj = true) : waits oj i = true := by
  have hmem : oj ∈ ops.toList := by rw [← Array.getElem?_toList] at hj; exact List.mem_of_getElem? hj
  have h1 := List.all_eq_true.1 h oj hmem
  simpa [hs] using h1

theorem each_spec {F : Nat → Prop} : ∀ {l : List Nat}, each l F → ∀ i ∈ l, F i
  | [], _, i, hi => by cases hi
  | [x], h, i, hi => by
    obtain rfl := List.mem_singleton.1 hi
    exact h
  | x :: y :: r, h, i, hi => by
    rcases List.mem_cons.1 hi with rfl | hi
    · exact h.1
    · exact each_spec h.2 i hi

theorem firstQuiet_spec {P : Program} {listed : Array Bool} {st : St} : ∀ {l : List Nat} {i : Nat}, firstQuiet P ops listed st l = some i →
    i ∈ l ∧ ∃ o, ops[i]? = some o ∧ (isLoad o = true → storesWait ops i = true) ∧ early P ops (fun j => listed.getD j false) st o = true ∧ Region.free .any ops listed i = true
  | [], i, h => by simp [firstQuiet] at h
  | x :: r, i, h => by
    simp only [firstQuiet] at h
    split at h
    · rename_i o ho
      split at h
      · rename_i hc
        simp only [Bool.and_eq_true] at hc
        obtain rfl := Option.some.inj h
        refine ⟨by simp, o, ho, fun hl => ?_, hc.1.2, hc.2⟩
        rcases Bool.or_eq_true _ _ ▸ hc.1.1 with h1 | h1
        · rw [hl] at h1; cases h1
        · exact h1
      · obtain ⟨h1, h2⟩ := firstQuiet_spec h
        exact ⟨List.mem_cons_of_mem _ h1, h2⟩
    · obtain ⟨h1, h2⟩ := firstQuiet_spec h
      exact ⟨List.mem_cons_of_mem _ h1, h2⟩

theorem dn_set {listed : Array Bool} {i : Nat} (h : i < listed.size) (j : Nat) : (listed.getD j false || j == i) = (listed.setIfInBounds i true).getD j false := by
  by_cases hij : i = j
  · subst hij; simp [h]
  · rw [getD_set_ne false hij]
    have : (j == i) = false := by simpa using fun e => hij e.symm
    simp [this]

/-- What has come up has not come up ahead of what it waits for. -/
def Closed (ops : Array Oper) (listed : Array Bool) : Prop := ∀ (j : Nat) (o : Oper), ops[j]? = some o → listed.getD j false = true → ∀ e ∈ o.after, Region.binds .any e = true → listed.getD e.on false = true

theorem closed_set {listed : Array Bool} (hC : Closed ops listed) {i : Nat} (hi : i ∈ Region.ready .any ops listed) : Closed ops (listed.setIfInBounds i true) := by
  intro j o ho hj e he hb
  by_cases hij : i = j
  · subst hij
    obtain ⟨_, o', ho', hall⟩ := mem_ready.1 hi
    rw [ho] at ho'
    obtain rfl := Option.some.inj ho'
    exact getD_set_true (hall e he hb)
  · rw [getD_set_ne false hij] at hj
    exact getD_set_true (hC j o ho hj e he hb)

/-- **A region that draws its order.** -/
theorem draw_sound (hok : OkFns cx) (hd : dstOk ops = true) (hns : Region.noSelect ops = true) {st0 : St} (hQ : ∀ st a w wa, RelO cx st a w wa → Agr st0 st → k st w → Q .normal a wa)
    (hQp : ∀ c a w, ¬ Q (.panic c) a w) :
    ∀ (f : Nat) (n : Nat) (listed : Array Bool) (st : St) (a : Act) (w wa : World), listed.toList.count false ≤ n → Closed ops listed → RelR cx ops (fun j => listed.getD j false) st a w wa → Agr st0 st → drawOps cx ops f listed st w k →
      wpAnyL cx.P ops Q (SS ops st wa) n listed a wa
  | 0, _, _, _, _, _, _, _, _, _, _, h => h.elim
  | f + 1, n, listed, st, a, w, wa, hn, hC, hR, hA, h => by
    simp only [drawOps] at h
    cases hr : Region.ready .any ops listed with
    | nil =>
      rw [hr] at h
      obtain ⟨h1, h2⟩ := hR.endReg
      have hq := hQ _ _ _ _ h1 (hA.trans h2) h
      cases n with
      | zero => exact ⟨hr, hq⟩
      | succ n => exact ⟨fun _ => hq, by rw [hr]; simp⟩
    | cons i0 r =>
      rw [hr] at h
      simp only at h
      have hpos : ∀ i ∈ Region.ready .any ops listed, ∃ m, n = m + 1 ∧ (listed.setIfInBounds i true).toList.count false ≤ m := by
        intro i hi
        obtain ⟨h1, h2⟩ := ready_lt hi
        have := count_set h1 h2
        exact ⟨n - 1, by omega, by omega⟩
      cases hq : firstQuiet cx.P ops listed st (i0 :: r) with
      | some i =>
        rw [hq] at h
        obtain ⟨him, o, hi, hlfo, hearly, hfree⟩ := firstQuiet_spec hq
        rw [← hr] at him
        obtain ⟨hilt, hi0⟩ := ready_lt him
        obtain ⟨m, rfl, hm⟩ := hpos i him
        simp only [hi] at h
        unfold stepOp at h
        cases hT : tagSt ops (fun j => listed.getD j false) st o with
        | none => rw [hT] at h; exact h.elim
        | some T =>
          rw [hT] at h
          simp only at h
          obtain ⟨t1, t2, t3⟩ := tagSt_spec hR hi hT
          have hns' : isStore o = false := by
            unfold early at hearly
            rw [hT] at hearly
            simp only at hearly
            cases hop : o.op <;> simp [isStore, hop]
            rename_i t ad x
            simp [quietOp, nilCmp, hop, isPure, isLoad] at hearly
          -- what the two kinds have in common
          have main : ∀ (st1 : St) (cv : CV) (w1 : World) (Y : World → Prop) (v : Value), Aft st st1 → WOk cx st1 w1 wa → (∀ b ∈ st1.bx, ∀ c ∈ b.cs, c.2 < st1.ctr) → (Gd ops a T → v = st1.den cv ∧ CvOk st1 cv) → (Gd ops a T ∨ v = undef) →
              YieldsIf cx.P ops Y o v a → (∀ w', Good (st1.put o.dst cv T) wa w' → Y w') → (isLoad o = true ∨ ∀ w', Y w') → Dr st (st1.put o.dst cv T) wa wa → drawOps cx ops f (listed.setIfInBounds i true) (st1.put o.dst cv T) w1 k →
              wpAnyL cx.P ops Q (SS ops st wa) (m + 1) listed a wa := by
            intro st1 cv w1 Y v hAf hW hvB hv1 hv2 hY hGY hlY hDr hk
            obtain ⟨h6, h7⟩ := put_rel hd hR hi hi0 t1 t2 hAf hW hvB hv1 hv2
            have ih := draw_sound hok hd hns hQ hQp f m (listed.setIfInBounds i true) (st1.put o.dst cv T) (a.put o.dst v) w1 wa hm (closed_set hC him) (relR_dn (dn_set hilt) h6) (hA.trans h7) hk
            have hself : Good (st1.put o.dst cv T) wa wa := ⟨Nat.le_refl _, fun _ _ _ => rfl⟩
            have hstep := wpAnyL_first (S := SS ops (st1.put o.dst cv T) wa) (Y := Y) (B := fun j => isLoad o = true ∧ ∃ oj, ops[j]? = some oj ∧ isStore oj = true) hi
              (Region.noSelect_spec hns) (fun c a w h => absurd h (hQp _ _ _)) ?_ ?_ ?_ m listed a wa (Region.free_spec hi hfree) him ?_ hY (hGY _ hself) (fun _ => hself) ih
            · exact wpAnyL_mono listed (fun l w' _ hS hno => good_step (Nat.le_refl _) hDr (hS hno)) _ _ _ _ (fun _ h => h) hstep
            · rintro j oj hj ⟨hl, oj', hj', hs⟩
              rw [hj] at hj'
              obtain rfl := Option.some.inj hj'
              exact waits_spec (storesWait_spec (hlfo hl) hj hs)
            · intro l w' hl hS
              rcases hlY with hl' | hall
              · exact hGY w' (hS fun j oj hj hs => hl j ⟨hl', oj, hj, hs⟩)
              · exact hall w'
            · intro l w' hS hno
              refine hS fun j oj hj hs => ?_
              by_cases hij : i = j
              · subst hij
                rw [hi] at hj
                obtain rfl := Option.some.inj hj
                rw [hns'] at hs; cases hs
              · rw [getD_set_ne false hij]; exact hno j oj hj hs
            · rintro j ⟨hl, oj, hj, hs⟩
              cases hlj : listed.getD j false with
              | false => rfl
              | true =>
                obtain ⟨e, he, hb, hon⟩ := waits_spec (storesWait_spec (hlfo hl) hj hs)
                have := hC j oj hj hlj e he hb
                rw [hon, hi0] at this
                cases this
          have quiet : ∀ (p : Option Prop) (cv : CV) (st1 : St), quietOp cx.P ops st T o = some (p, cv, st1) → (Gd ops a T → ∀ q, p = some q → q) → drawOps cx ops f (listed.setIfInBounds i true) (st1.put o.dst cv T) w k →
              wpAnyL cx.P ops Q (SS ops st wa) (m + 1) listed a wa := by
            intro p cv st1 hq hp hk
            have lk : Like st st1 := quiet_like' hq
            have hR' := hR.like lk
            have hDr : Dr st (st1.put o.dst cv T) wa wa := Dr.like lk ⟨fun _ _ _ => rfl, fun p hp => by cases o.dst <;> exact hp, fun q b hb => ⟨b, by cases o.dst <;> exact hb, rfl, rfl, rfl⟩⟩
            have hgood : ∀ w', Good (st1.put o.dst cv T) wa w' → isLoad o = true → Boxes st w' := fun w' hg _ => good_boxes (good_step (Nat.le_refl _) hDr hg) hR.wok.boxes
            by_cases hG : Gd ops a T
            · have hys : ∀ w', (isLoad o = true → Boxes st w') → Yl cx.P a o st cv w' := fun w' hb => (quiet_sound hq hR.env hG (hp hG) w' hb).1
              have hv := (hys wa (fun _ => hR.wok.boxes)).2
              refine main st1 cv w (fun w' => isLoad o = true → Boxes st w') (st.den cv) lk.aft hR'.wok hR'.versB (fun _ => ⟨(den_same lk.bx cv).symm, cvOk_same lk.bx hv⟩) (.inl hG) (.inl ⟨t3.2 hG, fun w' hb => (hys w' hb).1⟩) hgood ?_ hDr hk
              cases hl : isLoad o with
              | true => exact .inl rfl
              | false => exact .inr fun w' h => by cases h
            · have hw : Region.wanted o (yielded ops a.tmps) = false := by
                cases hw : Region.wanted o (yielded ops a.tmps) with
                | false => rfl
                | true => exact absurd (t3.1 hw) hG
              exact main st1 cv w (fun _ => True) undef lk.aft hR'.wok hR'.versB (fun h => absurd h hG) (.inr rfl) (.inr ⟨hw, rfl⟩) (fun _ _ => trivial) (.inr fun _ => trivial) hDr hk
          cases hq2 : quietOp cx.P ops st T o with
          | some y =>
            obtain ⟨p, cv, st1⟩ := y
            rw [hq2] at h
            cases p with
            | none => exact quiet none cv st1 hq2 (fun _ q hq => by cases hq) h
            | some p => exact quiet (some p) cv st1 hq2 (fun hG q hq' => by obtain rfl := Option.some.inj hq'; exact gImp_spec hR t2 h.1 hG) h.2
          | none =>
            rw [hq2] at h
            simp only at h
            unfold early at hearly
            rw [hT] at hearly
            simp only [hq2] at hearly
            -- a load of memory that is no own box's
            unfold effOp at h
            split at h
            all_goals try (rename_i hop; simp [isLoad, hop] at hearly; done)
            · rename_i t x hop
              split at h
              · rename_i A j sh hx hsh
                obtain ⟨vs, hl, hc, hk⟩ := exKs_ex (flush_at h hR.wok)
                have p3 : (st.clean.pin true A).bx = st.bx := rfl
                have hAf : Aft st (st.clean.pin true A) := ⟨rfl, Nat.le_refl _, fun q b hb => ⟨b, hb, rfl, rfl, rfl, fun _ _ h _ => h⟩⟩
                have hW : WOk cx (st.clean.pin true A) wa wa := by
                  have := clean_wok hR.wok
                  exact ⟨this.boxes, this.own, this.nodup, this.fr, by simp [St.clean, St.pin]⟩
                have hpins : ((st.clean.pin true A).put o.dst (shCv sh vs) T).pins = blkOf A :: st.pins := by cases o.dst <;> rfl
                have hbx : ((st.clean.pin true A).put o.dst (shCv sh vs) T).bx = st.bx := by cases o.dst <;> rfl
                have hDr : Dr st ((st.clean.pin true A).put o.dst (shCv sh vs) T) wa wa :=
                  ⟨fun _ _ _ => rfl, fun p hp => by rw [hpins]; exact List.mem_cons_of_mem _ hp, fun q b hb => ⟨b, by rw [hbx]; exact hb, rfl, rfl, rfl⟩⟩
                by_cases hG : Gd ops a T
                · obtain ⟨h1, _⟩ := rd_sound hR.env hG hx
                  have hcells := gImp_spec hR t2 hc hG
                  refine main (st.clean.pin true A) (shCv sh vs) wa (fun w' => blkOf A < wa.heap.size → w'.heap[blkOf A]? = wa.heap[blkOf A]?) ((st.clean.pin true A).den (shCv sh vs)) hAf hW hR.versB (fun _ => ⟨rfl, shCv_ok _ _ _⟩) (.inl hG) (.inl ⟨t3.2 hG, fun w' hb => ?_⟩)
                    (fun w' hg hlt => hg.2 _ (List.mem_append_right _ (by rw [hpins]; exact List.mem_cons_self)) hlt) (.inl hearly) hDr hk
                  simp only [execOp, hop, h1, St.den, Sem.run_bind]
                  have := load_run hsh hl (cells_block hcells hb) (st.clean.pin true A)
                  simp only [this, Result.andThen_ok, Sem.run_pure]
                  rfl
                · have hw : Region.wanted o (yielded ops a.tmps) = false := by
                    cases hw : Region.wanted o (yielded ops a.tmps) with
                    | false => rfl
                    | true => exact absurd (t3.1 hw) hG
                  exact main (st.clean.pin true A) (shCv sh vs) wa (fun _ => True) undef hAf hW hR.versB (fun h => absurd h hG) (.inr rfl) (.inr ⟨hw, rfl⟩) (fun _ _ => trivial) (.inr fun _ => trivial) hDr hk
              · exact h.elim
      | none =>
        rw [hq] at h
        simp only at h
        obtain ⟨m, rfl, _⟩ := hpos i0 (by rw [hr]; simp)
        refine ⟨fun h0 => (by rw [hr] at h0; cases h0), ?_⟩
        intro i' him
        have h := each_spec h i' (hr ▸ him)
        obtain ⟨hilt, hi0⟩ := ready_lt him
        have hm : (listed.setIfInBounds i' true).toList.count false ≤ m := by
          obtain ⟨m', e, hm⟩ := hpos i' him
          obtain rfl : m = m' := by omega
          exact hm
        cases hi : ops[i']? with
        | none => rw [hi] at h; exact h.elim
        | some o =>
          rw [hi] at h
          simp only at h
          obtain ⟨k1, k2⟩ := step_sound (Q := Q) hok hd hR hi hi0 h
          have next : ∀ a' wa', After cx ops (fun j => listed.getD j false) true i' o st wa (fun st w => drawOps cx ops f (listed.setIfInBounds i' true) st w k) a' wa' →
              SS ops st wa (listed.setIfInBounds i' true) wa' ∧ wpAnyL cx.P ops Q (SS ops st wa) m (listed.setIfInBounds i' true) a' wa' := by
            intro a' wa' ⟨st', w', h1, h2, h3, h4, h5⟩
            have ih := draw_sound hok hd hns hQ hQp f m (listed.setIfInBounds i' true) st' a' w' wa' hm (closed_set hC him) (relR_dn (dn_set hilt) h1) (hA.trans h2) h3
            cases hs : isStore o with
            | true =>
              have hno : ∀ l, Sub (listed.setIfInBounds i' true) l → ¬ NoStore ops l := by
                intro l hsub hn
                have := hn i' o hi hs
                rw [hsub i' (by simp [hilt])] at this
                cases this
              exact ⟨fun hn => absurd hn (hno _ (fun _ h => h)), wpAnyL_mono (listed.setIfInBounds i' true) (fun l w' hsub _ hn => absurd hn (hno l hsub)) _ _ _ _ (fun _ h => h) ih⟩
            | false =>
              have hDr := h5 rfl hs
              refine ⟨fun _ => good_step h4 hDr ⟨Nat.le_refl _, fun _ _ _ => rfl⟩, wpAnyL_mono (listed.setIfInBounds i' true) (fun l w' _ hS hn => good_step h4 hDr (hS hn)) _ _ _ _ (fun _ h => h) ih⟩
          unfold wpOp
          rw [hi]
          simp only
          split
          · rename_i hw
            exact .inl (Oper.wp_mono next (k1 hw))
          · rename_i hw
            exact next _ _ (k2 (by simpa using hw))
end
end Go.Cw
