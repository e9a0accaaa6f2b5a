/- compact.Then for the third layer: its contract out of then_in. -/
import Derived.Test.YtenogjddakjhcaaGreatDoorTh3
import Derived.Test.YtenogjddakjhcaaGreatDoorE5
namespace Go.Proofs
open Go Go.Cw Go.Dw
set_option linter.unusedVariables false

abbrev shM : List Shp := [.v (.int .u64), .v (.int .u64)]
def dMv (m : Mv) : List D := [.v (.int .u64 m.1.1), .v (.int .u64 m.1.2)]
def cMv (m : Mv) : List Value := [.int .u64 m.1.1, .int .u64 m.1.2]
theorem cellsM_eq (l : List Mv) : cellsM l = (l.map cMv).flatten := by
 unfold cellsM
 rw [List.flatMap_def]
 rfl
theorem flat_get : ∀ (zs : List Mv) (i r : Nat), r < 2 → (zs.map cMv).flatten[i * 2 + r]? = zs[i]?.bind fun m => (cMv m)[r]?
 | [], i, r, _ => by simp
 | m :: zs, 0, r, h => by
   rcases r with _ | _ | r
   ·simp [cMv]
   ·simp [cMv]
   ·omega
 | m :: zs, i + 1, r, h => by
   have := flat_get zs i r h
   simp only [List.map_cons, List.flatten_cons, List.getElem?_cons_succ]
   rw [List.getElem?_append_right (by simp [cMv]; omega)]
   rw [show (i + 1) * 2 + r - (cMv m).length = i * 2 + r by simp [cMv]; omega]
   exact this
theorem flat_len (zs : List Mv) : (zs.map cMv).flatten.length = zs.length * 2 := by
 induction zs with
 | nil => rfl
 | cons m zs ih => simp only [List.map_cons, List.flatten_cons, List.length_append, ih, List.length_cons]; simp [cMv]; omega

theorem addN (b off j : Nat) : (⟨b, off, none⟩ : Addr).add j = ⟨b, off + j, none⟩ := by simp [Addr.add]

def unR : List D → Option Mv
 | [.v (.int .u64 a), .v (.int .u64 b)] => if h : (Lit.int .u64 a).wf = true ∧ (Lit.int .u64 b).wf = true then some ⟨(a, b), h⟩ else none
 | _ => none
theorem unR_d (m : Mv) : unR (dMv m) = some m := by
 obtain ⟨⟨a, b⟩, h⟩ := m
 unfold dMv unR
 simp only
 rw [dif_pos h]
theorem unR_inv {r : List D} {m : Mv} (h : unR r = some m) : r = dMv m := by
 unfold unR at h
 split at h
 ·split at h
  ·obtain rfl := Option.some.inj h; rfl
  ·cases h
 ·cases h
def unM : List (List D) → Option (List Mv)
 | [] => some []
 | r :: l => match unR r, unM l with | some m, some zs => some (m :: zs) | _, _ => none
theorem unM_d : ∀ zs : List Mv, unM (zs.map dMv) = some zs
 | [] => rfl
 | m :: zs => by simp only [List.map_cons, unM, unR_d, unM_d zs]
theorem unM_inv : ∀ {l : List (List D)} {zs : List Mv}, unM l = some zs → l = zs.map dMv
 | [], zs, h => by obtain rfl := Option.some.inj h; rfl
 | r :: l, zs, h => by
   simp only [unM] at h
   split at h
   ·rename_i m zs' h1 h2
    obtain rfl := Option.some.inj h
    rw [List.map_cons, unR_inv h1, unM_inv h2]
   ·cases h

theorem reps_inv {w : World} {Z : Nat → Nat → Prop} {m : Mv} {cs : List Value} {f : List Nat} (h : Reps w Z shM (dMv m) cs f) : cs = cMv m ∧ f = [] := by
 unfold dMv at h
 cases h with
 | cons h1 h2 =>
   cases h2 with
   | cons h3 h4 =>
     cases h4
     cases h1
     cases h3
     exact ⟨rfl, rfl⟩
theorem recs_inv {w : World} {Z : Nat → Nat → Prop} : ∀ {zs : List Mv} {css : List (List Value)} {f : List Nat}, Recs w Z shM (zs.map dMv) css f → css = zs.map cMv ∧ f = []
 | [], css, f, h => by
   simp only [List.map_nil] at h
   cases h
   exact ⟨rfl, rfl⟩
 | m :: zs, css, f, h => by
   simp only [List.map_cons] at h
   cases h with
   | cons h1 h2 =>
     obtain ⟨rfl, rfl⟩ := reps_inv h1
     obtain ⟨rfl, rfl⟩ := recs_inv h2
     exact ⟨rfl, rfl⟩
theorem reps_mk {w : World} {Z : Nat → Nat → Prop} (m : Mv) : Reps w Z shM (dMv m) (cMv m) [] :=
 .cons (f := []) (fs := []) (.v rfl (by simp [Ck.fits])) (.cons (f := []) (fs := []) (.v rfl (by simp [Ck.fits])) .nil)
theorem recs_mk {w : World} {Z : Nat → Nat → Prop} : ∀ zs : List Mv, Recs w Z shM (zs.map dMv) (zs.map cMv) []
 | [] => .nil
 | m :: zs => .cons (f := []) (fs := []) (reps_mk m) (recs_mk zs)

theorem rep_mvs {w : World} {Z : Nat → Nat → Prop} {zs : List Mv} {v : Value} {f : List Nat} (h : Rep w Z (.l 2 34 shM) (.l (zs.map dMv)) v f) (hz : ∀ k, Z 2 k → k < w.heap.size) (hb : zs.length * 16 ≤ 140737488351232) : ∃ A c, v = .slice A zs.length c ∧ MvsAt w.heap.size w v zs ∧ f = [] := by
 cases h with
 | tree h1 h2 hc h3 h4 =>
   rename_i A c css
   obtain ⟨rfl, _⟩ := recs_inv h4
   rw [List.length_map]
   refine ⟨A, c, rfl, ?_, rfl⟩
   by_cases h0 : zs = []
   ·subst h0; exact .inl ⟨A, c, rfl, rfl⟩
   ·have hl : 0 < zs.length := by cases zs; exact absurd rfl h0; simp
    have hne : (zs.map cMv).flatten ≠ [] := by
     intro hh
     have := flat_len zs
     rw [hh] at this
     simp at this
     omega
    obtain ⟨p, rfl, hp, hcell⟩ := h3 hne
    have hget : ∀ j r, j < zs.length → r < 2 → w.cell? (p.add (j * 2 + r)) = (cMv (zs[j]?.getD mv0))[r]? := by
     intro j r hj hr
     have e := flat_get zs j r hr
     rw [List.getElem?_eq_getElem hj] at e
     simp only [Option.bind_some] at e
     rw [List.getElem?_eq_getElem hj]
     simp only [Option.getD_some]
     rw [← e]
     obtain ⟨v, hv⟩ : ∃ v, (zs.map cMv).flatten[j * 2 + r]? = some v := ⟨_, List.getElem?_eq_getElem (by rw [flat_len]; omega)⟩
     rw [hv]
     exact hcell _ _ hv
    obtain ⟨b, off, sp⟩ := p
    have hsp : sp = none := by
     have := hget 0 0 hl (by decide)
     cases sp with
     | none => rfl
     | some s =>
       exfalso
       simp only [cMv, List.getElem?_cons_zero, World.cell?, Addr.add] at this
       split at this <;> simp at this
    subst hsp
    refine .inr ⟨b, off, c, rfl, hz b hp, hb, fun j hj => ⟨?_, ?_⟩⟩
    ·have := hget j 0 hj (by decide)
     rw [addN] at this
     exact this
    ·have := hget j 1 hj (by decide)
     rw [addN] at this
     exact this

theorem mvs_rep {w : World} {Z : Nat → Nat → Prop} {zs : List Mv} {A : Option Addr} {c : Nat} (h : MvsAt w.heap.size w (.slice A zs.length c) zs) (hc : zs.length ≤ c) (hz : ∀ k, k < w.heap.size → Z 2 k) (hm : zs.length ≤ maxLen) : Rep w Z (.l 2 34 shM) (.l (zs.map dMv)) (.slice A zs.length c) [] := by
 have key : CatZ w (Z 2) A (zs.map cMv).flatten → Rep w Z (.l 2 34 shM) (.l (zs.map dMv)) (.slice A zs.length c) [] := fun k => by
  have := Rep.tree (w := w) (Z := Z) (md := 2) (e := 34) (sub := shM) (es := zs.map dMv) (A := A) (c := c) (css := zs.map cMv) (by decide) (by rw [List.length_map]; exact hm) (by rw [List.length_map]; exact hc) k (recs_mk zs)
  rw [List.length_map] at this
  exact this
 refine key fun hne => ?_
 rcases h with ⟨_, _, _, rfl⟩ | ⟨b, off, cap, e, hb, hr, hcell⟩
 ·exact absurd rfl hne
 ·obtain ⟨rfl, _, rfl⟩ := Value.slice.inj e
  refine ⟨_, rfl, hz b hb, fun j v hj => ?_⟩
  have hj2 : j < zs.length * 2 := by
   rw [← flat_len]
   exact (List.getElem?_eq_some_iff.1 hj).1
  have e2 : j = j / 2 * 2 + j % 2 := by omega
  have hq : j / 2 < zs.length := by omega
  have g := flat_get zs (j / 2) (j % 2) (Nat.mod_lt _ (by decide))
  rw [← e2, hj, List.getElem?_eq_getElem hq] at g
  simp only [Option.bind_some] at g
  have hcl := hcell (j / 2) hq
  rw [List.getElem?_eq_getElem hq] at hcl
  simp only [Option.getD_some] at hcl
  rw [addN]
  rcases Nat.mod_two_eq_zero_or_one j with hh | hh
  ·rw [hh] at g e2
   rw [show off + j = off + j / 2 * 2 by omega, hcl.1]
   simp only [cMv, List.getElem?_cons_zero] at g
   exact g.symm
  ·rw [hh] at g e2
   rw [show off + j = off + j / 2 * 2 + 1 by omega, hcl.2]
   simp only [cMv, List.getElem?_cons_succ, List.getElem?_cons_zero] at g
   exact g.symm

def thenD (a0 a1 : List (List D)) : Option (List (List D)) :=
 match unM a0, unM a1 with
 | some zs, some ys => if zs.length * 16 ≤ 140737488351232 ∧ ys.length * 16 ≤ 140737488351232 then some (match thenM zs ys with | some l => [[.l (l.map dMv)], [.v (.int .i64 0)]] | none => [[.l []], [.v (.int .i64 3)]]) else none
 | _, _ => none
noncomputable def sThen_F (a : List (List D)) : Option (List (List D)) := aC a fun r a => aL r fun a0 r => aN r <| aC a fun r a => aL r fun a1 r => aN r <| aZ a <| thenD a0 a1
noncomputable def sThen : FSp := ⟨[⟨false, [.l 2 34 shM], false⟩, ⟨false, [.l 2 34 shM], false⟩], [⟨false, [.l 0 34 shM], false⟩, ⟨false, [.v (.int .i64)], false⟩], [], sThen_F⟩

theorem own_rep {w : World} {Z : Nat → Nat → Prop} {base : Nat} {v : Value} {l : List Mv} (h : w.ownsRow base 34 2 v l.length (cellsM l)) : ∃ fr, fr.Nodup ∧ (∀ k ∈ fr, base ≤ k) ∧ Rep w Z (.l 0 34 shM) (.l (l.map dMv)) v fr := by
 obtain ⟨hl, h⟩ := h
 rcases h with ⟨rfl, h0⟩ | ⟨g, cap, cur, rfl, hb, hg, hn, hm, hs, ht⟩
 ·obtain rfl := List.length_eq_zero_iff.1 h0
  exact ⟨[], .nil, (fun _ h => by cases h), .nil⟩
 ·refine ⟨[g], by simp, (fun k hk => by obtain rfl := List.mem_singleton.1 hk; exact hb), ?_⟩
  have e : cur.toList = (l.map cMv).flatten ++ cur.toList.drop (l.length * 2) := by
   rw [← cellsM_eq, ← ht, List.take_append_drop]
  have := Rep.own (w := w) (Z := Z) (e := 34) (sub := shM) (es := l.map dMv) (b := g) (c := cap) (css := l.map cMv) (rest := cur.toList.drop (l.length * 2)) (fs := [])
   (by unfold Box; rw [← e]; simpa using hg) (by rw [← e]; simpa using hs) (by rw [List.length_map]; exact hn) hm (recs_mk l)
  rw [List.length_map] at this
  exact this

theorem sThen_ok {Gl : List (Nat × List Value)} : FOk Tryz.prog Gl 7 sThen := by
 intro a w Z vs f hpre hR hn hd hz h0 hG
 have hR : RepA w Z [⟨false, [.l 2 34 shM], false⟩, ⟨false, [.l 2 34 shM], false⟩] a vs f := hR
 cases hR with
 | nilp h1 _ => simp [Pm.nilp] at h1
 | cons h1 h2 h3 =>
   cases h3 with
   | nilp k1 _ => simp [Pm.nilp] at k1
   | cons k1 k2 k3 =>
     cases k3
     cases h1 with
     | cons h4 h5 =>
       cases h5
       cases k1 with
       | cons k4 k5 =>
         cases k5
         rename_i x0 v0 f0 x1 v1 f1
         obtain ⟨a0, rfl⟩ : ∃ a0, x0 = .l a0 := by cases h4; exact ⟨_, rfl⟩
         obtain ⟨a1, rfl⟩ : ∃ a1, x1 = .l a1 := by cases k4; exact ⟨_, rfl⟩
         have hF : sThen_F [[.l a0], [.l a1]] = thenD a0 a1 := rfl
         have hp : (sThen_F [[.l a0], [.l a1]]).isSome = true := hpre
         have hout : sThen.spec.out [[.l a0], [.l a1]] = (thenD a0 a1).getD [] := rfl
         rw [hout]
         rw [hF] at hp
         unfold thenD at hp ⊢
         split at hp
         ·rename_i zs ys e0 e1
          split at hp
          ·rename_i hb
           simp only [if_pos hb, Option.getD_some]
           obtain rfl := unM_inv e0
           obtain rfl := unM_inv e1
           obtain ⟨A, ca, rfl, m0, rfl⟩ := rep_mvs h4 (fun k hk => (hz _ _ hk).1) hb.1
           obtain ⟨B, cb, rfl, m1, rfl⟩ := rep_mvs k4 (fun k hk => (hz _ _ hk).1) hb.2
           refine Calls.mono (callsIn_wide.1 (then_in Fence.wide 7 trivial trivial trivial rfl (by decide) A B _ ca _ cb zs ys w m0 m1)) ?_
           rintro e w' ⟨hp1, hB⟩
           have hFr : ∀ M : Nat → Prop, Fr M w w' := fun M => ⟨hB.os, hB.tape, hB.output, hB.size, fun k hk _ => hB.block k hk⟩
           have hZ : ∀ m k, Z m k → k < w'.heap.size := fun m k hk => Nat.lt_of_lt_of_le (hz m k hk).1 hB.size
           split at hp1
           ·rename_i l hl
            obtain ⟨v, rfl, hrow⟩ := hp1
            obtain ⟨fr, hfn, hfb, hrep⟩ := own_rep (Z := Z) hrow
            refine ⟨[v, .int .i64 0], rfl, hFr _, fr, Z, hfn, fun k hk => .inr (hfb k hk), fun m k hk => ⟨.inl hk, fun hh => ?_, hZ m k hk⟩, ?_⟩
            ·have := hfb k hh; have := (hz m k hk).1; omega
            ·rw [hl]
             have hA : RepA w' Z [⟨false, [.l 0 34 shM], false⟩, ⟨false, [.v (.int .i64)], false⟩] [[.l (l.map dMv)], [.v (.int .i64 0)]] [v, .int .i64 0] fr := by
              have a1 := RepA.cons (p := ⟨false, [.l 0 34 shM], false⟩) (ys := [v]) (.cons (f := fr) (fs := []) hrep .nil) (fun _ => rfl) (.cons (p := ⟨false, [.v (.int .i64)], false⟩) (ys := [.int .i64 0]) (d := [.v (.int .i64 0)]) (.cons (f := []) (fs := []) (.v rfl (by simp [Ck.fits])) .nil) (fun _ => rfl) (RepA.nil (w := w') (Z := Z)))
              rw [show (fr ++ [] ++ ([] ++ [] ++ []) : List Nat) = fr by simp] at a1
              exact a1
             exact hA
           ·rename_i hl
            subst hp1
            refine ⟨[.slice none 0 0, .int .i64 3], rfl, hFr _, [], Z, .nil, (fun k hk => by cases hk), fun m k hk => ⟨.inl hk, (by simp), hZ m k hk⟩, ?_⟩
            rw [hl]
            have hA : RepA w' Z [⟨false, [.l 0 34 shM], false⟩, ⟨false, [.v (.int .i64)], false⟩] [[.l []], [.v (.int .i64 3)]] [.slice none 0 0, .int .i64 3] [] := by
             have a1 := RepA.cons (p := ⟨false, [.l 0 34 shM], false⟩) (ys := [.slice none 0 0]) (.cons (f := []) (fs := []) (.nil (w := w') (Z := Z) (e := 34) (sub := shM)) .nil) (fun _ => rfl) (.cons (p := ⟨false, [.v (.int .i64)], false⟩) (ys := [.int .i64 3]) (d := [.v (.int .i64 3)]) (.cons (f := []) (fs := []) (.v rfl (by simp [Ck.fits])) .nil) (fun _ => rfl) (RepA.nil (w := w') (Z := Z)))
             exact a1
            exact hA
          ·cases hp
         ·cases hp
end Go.Proofs
