/- The engine's words are sound, the last part: code, and whole functions. -/
import Derived.Test.YtfpmimnbocflpaaCwS10
namespace Go.Cw
open Go

/-- What holds behind a piece of code. -/
def Post (cx : Cx) (st : St) (K : Exit → St → World → Prop) (e : Exit) (a' : Act) (wa' : World) : Prop := ∃ st' w', Agr st st' ∧ RelO cx st' a' w' wa' ∧ K e st' w'

theorem Post.mono {cx : Cx} {st : St} {K K' : Exit → St → World → Prop} {e : Exit} {a' : Act} {wa' : World} (h : Post cx st K e a' wa') (hk : ∀ st w, K e st w → K' e st w) : Post cx st K' e a' wa' :=
  let ⟨st', w', h1, h2, h3⟩ := h; ⟨st', w', h1, h2, hk _ _ h3⟩

theorem Post.trans {cx : Cx} {st st1 : St} {K : Exit → St → World → Prop} {e : Exit} {a' : Act} {wa' : World} (hA : Agr st st1) (h : Post cx st1 K e a' wa') : Post cx st K e a' wa' :=
  let ⟨st', w', h1, h2, h3⟩ := h; ⟨st', w', hA.trans h1, h2, h3⟩

/-- A join's end. -/
theorem joinK_post {cx : Cx} {st : St} {h : Hn} {K : St → World → Prop} {a0 a' : Act} {w0 wa0 w' wa' : World} (h0 : RelO cx st a0 w0 wa0) {st' : St} (hA : Agr st st') (hR : RelO cx st' a' w' wa')
    (hj : joinK cx st h (fun vs w' => K (st.inst h vs) w') st' w') : ∃ st2 w2, Agr st st2 ∧ RelO cx st2 a' w2 wa' ∧ K st2 w2 := by
  unfold joinK at hj
  split at hj
  · rename_i vs hp
    obtain ⟨h1, h2, _⟩ := pack_rel h0 hR hA hp
    exact ⟨_, wa', h2, h1, flush_at hj hR.wok⟩
  · exact hj.elim

/-- A join: both kinds at once. What is proved of the ways must serve every K that a way's end may be given. -/
theorem join_sound {cx : Cx} {hn : Option Hn} {st : St} {K : St → World → Prop} {p : (St → World → Prop) → Prop} {a0 : Act} {w0 wa0 : World} (h0 : RelO cx st a0 w0 wa0) {G : Prop} (h : join cx hn st K p)
    (hp : ∀ KN : St → World → Prop, (∀ st' a' w' wa', Agr st st' → RelO cx st' a' w' wa' → KN st' w' → ∃ st2 w2, Agr st st2 ∧ RelO cx st2 a' w2 wa' ∧ K st2 w2) → p KN → G) : G := by
  unfold join at h
  split at h
  · exact hp K (fun st' a' w' wa' h1 h2 h3 => ⟨st', w', h1, h2, h3⟩) h
  · rename_i hh
    refine hp _ (fun st' a' w' wa' h1 h2 h3 => joinK_post h0 h1 h2 h3) (h (fun vs w' => K (st.inst hh vs) w') (allKs_of fun vs w' _ hk => hk))

/-- A loop with a relation that hangs on more than the state. -/
theorem loop_ghost {P : Program} {Q : Exit → Act → World → Prop} {c : Code} (I : List Value → Act → World → Prop) (mu : List Value → World → Nat)
    (round : ∀ vs a w, I vs a w → c.wp P (Exit.then (fun a' w' => ∃ vs', I vs' a' w' ∧ mu vs' w' < mu vs w) Q) a w) {vs : List Value} {a : Act} {w : World} (h₀ : I vs a w) : (Code.loop c).wp P Q a w := by
  intro b k cs
  have key : ∀ n vs a w, mu vs w = n → I vs a w →
      ∃ e a' w', Q e a' w' ∧ Arrives P (lone (b.at a (.code c :: .inLoop c :: k)) cs w) b k cs e a' w' := by
    intro n
    induction n using Nat.strongRecOn with
    | _ n ih =>
      intro vs a w hn hI
      obtain ⟨e, a₁, w₁, hq, harr⟩ := round vs a w hI b (.inLoop c :: k) cs
      cases e with
      | normal =>
        obtain ⟨vs', hI₁, hlt⟩ := hq
        obtain ⟨e₂, a₂, w₂, hq₂, harr₂⟩ := ih (mu vs' w₁) (hn ▸ hlt) vs' a₁ w₁ rfl hI₁
        exact ⟨e₂, a₂, w₂, hq₂, .of_steps (Steps.trans harr (.one step_inLoop)) harr₂⟩
      | exit id => exact ⟨_, a₁, w₁, hq, .pass (x := .inLoop c) rfl (fun _ _ => .inl (by simp)) harr⟩
      | goto l => exact ⟨_, a₁, w₁, hq, .pass (x := .inLoop c) rfl (fun _ _ => .inl (by simp)) harr⟩
      | ret => exact ⟨_, a₁, w₁, hq, .pass (x := .inLoop c) rfl (fun _ _ => .inl (by simp)) harr⟩
      | panic ch => exact ⟨_, a₁, w₁, hq, .pass (x := .inLoop c) rfl (fun _ _ => .inl (by simp)) harr⟩
      | outgrown => exact ⟨_, a₁, w₁, hq, .pass (x := .inLoop c) rfl (fun _ _ => .inl (by simp)) harr⟩
  obtain ⟨e, a', w', hq, harr⟩ := key _ vs a w rfl h₀
  exact ⟨e, a', w', hq, .of_steps (.one step_loop) harr⟩

theorem rd_out {cx : Cx} {st : St} {a : Act} {w wa : World} (h : RelO cx st a w wa) {x : Operand} {cv : CV} (hx : st.rd [] x = some cv) : a.eval x = st.den cv ∧ CvOk st cv :=
  rd_sound (ops := #[]) (h.relR #[] (fun _ => false)).env (fun x hx => by cases hx) hx

section
variable {cx : Cx} {hs : Hs}

/-- **Code.** -/
theorem cwp_sound (hok : OkFns cx) (hm : cx.P.follows .mixedOrders = true) : ∀ (c : Code) (st : St) (a : Act) (w wa : World) (K : Exit → St → World → Prop), (∀ ch st w, ¬ K (.panic ch) st w) → RelO cx st a w wa → cwp cx hs c st w K →
    c.wp cx.P (Post cx st K) a wa := by
  intro c
  induction c with
  | skip => intro st a w wa K _ hR h; exact Go.wp_skip ⟨st, w, Agr.refl st, hR, h⟩
  | region id ops draw =>
    intro st a w wa K hKp hR h
    simp only [cwp] at h
    split at h
    · rename_i hd
      split at h
      · rename_i hdr
        subst hdr
        split at h
        · rename_i hc
          refine wp_region_any hm (wpAny_of_L (S := SS ops { st with dirty := true } { wa with drawn := wa.drawn + 1 }) _ _ _ _ ?_)
          have hR' : RelO cx { st with dirty := true } a w { wa with drawn := wa.drawn + 1 } := by
            have hc := hR.wok.chg
            exact ⟨hR.size, hR.env, ⟨hR.wok.boxes, hR.wok.own, hR.wok.nodup, ⟨hR.wok.fr.os, hR.wok.fr.tape, hR.wok.fr.output, hR.wok.fr.size, hR.wok.fr.block⟩, by
              simp only [if_true]; exact ⟨hc.os, hc.tape, hc.output, hc.size, hc.block⟩⟩, hR.defers, hR.versB⟩
          have hA : Agr st { st with dirty := true } := ⟨Nat.le_refl _, rfl, fun _ _ h _ => h, fun k b hb => ⟨b, hb, rfl, rfl, rfl, fun _ _ h _ => h⟩⟩
          refine draw_sound (k := K .normal) hok hd hc (st0 := st) (fun st' a' w' wa' h1 h2 h3 => ⟨st', w', h2, h1, h3⟩) (fun ch a' w' ⟨st', w2, _, _, h3⟩ => hKp _ _ _ h3) _ _ _ _ _ _ _ ?_ ?_ (hR'.relR ops _) hA h
          · simp
          · intro j o _ hj
            simp only [Array.getD_eq_getD_getElem?, Array.getElem?_replicate] at hj
            split at hj <;> simp at hj
        · exact h.elim
      · rename_i hdr
        have : draw = false := by simpa using hdr
        subst this
        refine wp_region_list (seq_sound (k := K .normal) hok hd (st0 := st) (fun st' a' w' wa' h1 h2 h3 => ⟨st', w', h2, h1, h3⟩) _ 0 st a w wa (fun m => by simp) (relR_dn (fun x => by simp) (hR.relR ops (fun _ => false))) (Agr.refl _) h)
    · exact h.elim
  | seq x y ihx ihy =>
    intro st a w wa K hKp hR h
    simp only [cwp] at h
    refine wp_seq (wp_mono (ihx st a w wa _ ?_ hR h) ?_)
    · intro ch st w hk; exact hKp ch st w hk
    · rintro e a' wa' ⟨st', w', h1, h2, h3⟩
      cases e with
      | normal => exact wp_mono (ihy st' a' w' wa' K hKp h2 h3) fun e a w h => h.trans h1
      | exit id => exact ⟨st', w', h1, h2, h3⟩
      | goto l => exact ⟨st', w', h1, h2, h3⟩
      | ret => exact ⟨st', w', h1, h2, h3⟩
      | panic ch => exact absurd h3 (hKp _ _ _)
      | outgrown => exact ⟨st', w', h1, h2, h3⟩
  | cond c x y ihx ihy =>
    intro st a w wa K hKp hR h
    simp only [cwp] at h
    split at h
    · rename_i b hb
      obtain ⟨hev, _⟩ := rd_out hR hb
      refine join_sound hR h fun KN hKN ⟨h1, h2⟩ => ?_
      have fin : ∀ (z : Code), (z.wp cx.P (Post cx st fun e st w => match e with | .normal => KN st w | e => K e st w) a wa) → z.wp cx.P (Post cx st K) a wa := by
        intro z hz
        refine wp_mono hz ?_
        rintro e a' wa' ⟨st', w', g1, g2, g3⟩
        cases e with
        | normal => exact hKN st' a' w' wa' g1 g2 g3
        | exit id => exact ⟨st', w', g1, g2, g3⟩
        | goto l => exact ⟨st', w', g1, g2, g3⟩
        | ret => exact ⟨st', w', g1, g2, g3⟩
        | panic ch => exact absurd g3 (hKp _ _ _)
        | outgrown => exact ⟨st', w', g1, g2, g3⟩
      refine wp_cond_split (t := b) hev (fun hb => ?_) (fun hb => ?_)
      · exact fin x (ihx st a w wa _ (fun ch st w hk => hKp ch st w hk) hR (h1 hb))
      · exact fin y (ihy st a w wa _ (fun ch st w hk => hKp ch st w hk) hR (h2 hb))
    · exact h.elim
  | block id c ih =>
    intro st a w wa K hKp hR h
    simp only [cwp] at h
    refine join_sound hR h fun KN hKN h1 => ?_
    refine wp_block (wp_mono (ih st a w wa _ ?_ hR h1) ?_)
    · intro ch st w hk; exact hKp ch st w hk
    · rintro e a' wa' ⟨st', w', g1, g2, g3⟩
      cases e with
      | normal => exact hKN st' a' w' wa' g1 g2 g3
      | exit id' =>
        simp only [Exit.inBlock]
        simp only at g3
        split at g3
        · rename_i he
          rw [if_pos he]
          exact hKN st' a' w' wa' g1 g2 g3
        · rename_i he
          rw [if_neg he]
          exact ⟨st', w', g1, g2, g3⟩
      | goto l => exact ⟨st', w', g1, g2, g3⟩
      | ret => exact ⟨st', w', g1, g2, g3⟩
      | panic ch => exact absurd g3 (hKp _ _ _)
      | outgrown => exact ⟨st', w', g1, g2, g3⟩
  | loop c ih =>
    intro st a w wa K hKp hR h
    simp only [cwp] at h
    split at h
    · exact h.elim
    · rename_i hh _
      obtain ⟨I, mu, h1, h2⟩ := h
      unfold joinK at h1
      split at h1
      · rename_i vs0 hp
        have hlk : Like st { st with bx := escAll hh.esc st.bx } := ⟨rfl, rfl, rfl, rfl, escAll_same _ _⟩
        have hR1 : RelO cx { st with bx := escAll hh.esc st.bx } a w wa := by
          have := (hR.relR #[] (fun _ => false)).like hlk
          refine ⟨hR.size, fun t e he => ⟨(hR.env t e he).1, ?_⟩, this.wok, hR.defers, this.versB⟩
          obtain ⟨e1, e2⟩ := this.env.env t e he (by rw [(hR.env t e he).1]; intro x hx; cases hx)
          exact ⟨e1, e2, this.vers t e he⟩
        obtain ⟨p1, p2, p3⟩ := pack_rel hR hR1 hlk.aft.agr hp
        have hI0 : I vs0 wa := flush_at h1 hR1.wok
        refine loop_ghost (I := fun vs a' w' => RelO cx (st.inst hh vs) a' w' w' ∧ Agr st (st.inst hh vs) ∧ Fits hh.ks vs ∧ I vs w') mu ?_ (vs := vs0) ⟨p1, p2, p3, hI0⟩
        rintro vs a' w' ⟨q1, q2, q3, q4⟩
        have hbody := allKs_at h2 q3 w' q1.wok.fr q4
        refine wp_mono (ih (st.inst hh vs) a' w' w' _ ?_ q1 hbody) ?_
        · intro ch st w hk; exact hKp ch st w hk
        · rintro e a2 wa2 ⟨st', w2, g1, g2, g3⟩
          cases e with
          | normal =>
            simp only [joinK] at g3
            split at g3
            · rename_i vs' hp'
              obtain ⟨r1, r2, r3⟩ := pack_rel' hR q2 (fits_len q3) g2 g1 hp'
              obtain ⟨s1, s2⟩ := flush_at g3 g2.wok
              exact ⟨vs', ⟨r1, r2, r3, s1⟩, s2⟩
            · exact g3.elim
          | exit id => exact ⟨st', w2, q2.trans g1, g2, g3⟩
          | goto l => exact ⟨st', w2, q2.trans g1, g2, g3⟩
          | ret => exact ⟨st', w2, q2.trans g1, g2, g3⟩
          | panic ch => exact absurd g3 (hKp _ _ _)
          | outgrown => exact ⟨st', w2, q2.trans g1, g2, g3⟩
      · exact h1.elim
  | exit id => intro st a w wa K _ hR h; exact wp_exit ⟨st, w, Agr.refl st, hR, h⟩
  | ret => intro st a w wa K _ hR h; exact wp_ret ⟨st, w, Agr.refl st, hR, h⟩
  | label l => intro st a w wa K _ hR h; exact wp_label ⟨st, w, Agr.refl st, hR, h⟩
  | rangeFunc f ps c d ih1 ih2 => intro st a w wa K _ hR h; exact h.elim
  | scope c ih => intro st a w wa K _ hR h; exact h.elim
  | goto l => intro st a w wa K _ hR h; exact h.elim
  | refuse s => intro st a w wa K _ hR h; exact h.elim

end
end Go.Cw
