/- The engine, part 2 of 5: a function's contract out of its code, by the kernel. -/
import Derived.Test.YtmhlgjmepkcniaaGreatDoorE1
section
namespace Go.Dw
open Go Go.Cw
set_option linter.unusedVariables false
inductive All2 {α β : Type} (R : α → β → Prop) : List α → List β → Prop
 | nil : All2 R [] []
 | cons {a : α} {b : β} {l : List α} {m : List β} : R a b → All2 R l m → All2 R (a :: l) (b :: m)
section
variable {α β : Type} {R R' : α → β → Prop} {l l' : List α} {m m' : List β}
theorem All2.len (h : All2 R l m) : m.length = l.length := by induction h <;> simp_all
theorem All2.mono (h : All2 R l m) (hr : ∀ a b, R a b → R' a b) : All2 R' l m := by
 induction h with
 | nil => exact .nil
 | cons h _ ih => exact .cons (hr _ _ h) ih
theorem All2.append (h : All2 R l m) (h' : All2 R l' m') : All2 R (l ++ l') (m ++ m') := by
 induction h with
 | nil => exact h'
 | cons h _ ih => exact .cons h ih
theorem All2.take (h : All2 R l m) (n : Nat) : All2 R (l.take n) (m.take n) := by
 induction h generalizing n with
 | nil => simpa using All2.nil
 | cons h _ ih => cases n with
   | zero => exact .nil
   | succ n => exact .cons h (ih n)
theorem All2.drop (h : All2 R l m) (n : Nat) : All2 R (l.drop n) (m.drop n) := by
 induction h generalizing n with
 | nil => simpa using All2.nil
 | cons h h2 ih => cases n with
   | zero => exact .cons h h2
   | succ n => exact ih n
theorem All2.get (h : All2 R l m) {i : Nat} {a : α} (ha : l[i]? = some a) : ∃ b, m[i]? = some b ∧ R a b := by
 induction h generalizing i with
 | nil => cases ha
 | cons h _ ih => cases i with
   | zero => obtain rfl := Option.some.inj ha; exact ⟨_, rfl, h⟩
   | succ i => exact ih ha
end
/-! ### Values -/
def CRl (hd : List Value) (E : Nat → Nat → Prop) : Value → Value → Prop
 | .slice (some p) _ _, y => evenB p = true ∧ (∃ A n c, y = .slice A n c) ∧ hd[p.block / 2]? = some y
 | .pointer (some p), y => (evenB p = true ∧ p.off = 0 ∧ (∃ A, y = .pointer A) ∧ hd[p.block / 2]? = some y) ∨ (evenB p = false ∧ ∃ b, E (p.block / 2) b ∧ y = .pointer (some ⟨b, p.off, none⟩))
 | x, y => constV x = true ∧ (∀ xs, x ≠ .agg xs) ∧ y = x
def CRf (hd : List Value) (E : Nat → Nat → Prop) : Value → Value → Prop
 | .func fn fst cap, y => ∃ g cs, fn = .func g ∧ fst.toList = [] ∧ y = fnV g cs ∧ All2 (CRl hd E) cap.toList cs
 | x, y => CRl hd E x y
def CRa (hd : List Value) (E : Nat → Nat → Prop) : Value → Value → Prop
 | .agg xs, y => ∃ ys, y = .agg ys.toArray ∧ All2 (CRf hd E) xs.toList ys
 | x, y => CRf hd E x y
def CR (hd : List Value) (E : Nat → Nat → Prop) : Value → Value → Prop
 | .tuple xs, y => ∃ ys, y = .tuple ys.toArray ∧ All2 (CRa hd E) xs.toList ys
 | x, y => CRa hd E x y
section
variable {hd hd' : List Value} {E E' : Nat → Nat → Prop} {x y : Value}
def Ext (hd hd' : List Value) : Prop := ∀ (r : Nat) (v : Value), hd[r]? = some v → hd'[r]? = some v
theorem Ext.app (hd l : List Value) : Ext hd (hd ++ l) := fun r v h => by
 have : r < hd.length := by
  by_cases hr : r < hd.length
  ·exact hr
  ·rw [List.getElem?_eq_none (by omega)] at h; cases h
 rw [List.getElem?_append_left this]; exact h
theorem Ext.refl (hd : List Value) : Ext hd hd := fun _ _ h => h
theorem Ext.trans {a b c : List Value} (h : Ext a b) (k : Ext b c) : Ext a c := fun r v hv => k r v (h r v hv)
theorem CRl.mono (h : CRl hd E x y) (hh : Ext hd hd') (he : ∀ k b, E k b → E' k b) : CRl hd' E' x y := by
 unfold CRl at *
 split at h
 ·exact ⟨h.1, h.2.1, hh _ _ h.2.2⟩
 ·rcases h with h | ⟨h, b, hb, hy⟩
  ·exact .inl ⟨h.1, h.2.1, h.2.2.1, hh _ _ h.2.2.2⟩
  ·exact .inr ⟨h, b, he _ _ hb, hy⟩
 ·exact h
theorem CRf.mono (h : CRf hd E x y) (hh : Ext hd hd') (he : ∀ k b, E k b → E' k b) : CRf hd' E' x y := by
 unfold CRf at *
 split at h
 ·obtain ⟨g, cs, h1, h2, h3, h4⟩ := h
  exact ⟨g, cs, h1, h2, h3, h4.mono fun _ _ h => h.mono hh he⟩
 ·exact CRl.mono h hh he
theorem CRa.mono (h : CRa hd E x y) (hh : Ext hd hd') (he : ∀ k b, E k b → E' k b) : CRa hd' E' x y := by
 unfold CRa at *
 split at h
 ·obtain ⟨ys, h1, h2⟩ := h
  exact ⟨ys, h1, h2.mono fun _ _ h => h.mono hh he⟩
 ·exact CRf.mono h hh he
theorem CR.mono (h : CR hd E x y) (hh : Ext hd hd') (he : ∀ k b, E k b → E' k b) : CR hd' E' x y := by
 unfold CR at *
 split at h
 ·obtain ⟨ys, h1, h2⟩ := h
  exact ⟨ys, h1, h2.mono fun _ _ h => h.mono hh he⟩
 ·exact CRa.mono h hh he
theorem CRf.plain (h : plainV x = true) : CRf hd E x x := by
 cases x <;> simp [plainV] at h <;> exact ⟨rfl, by simp, rfl⟩
theorem CR.plain (h : plainV x = true) : CR hd E x x := by
 cases x <;> simp [plainV] at h <;> exact ⟨rfl, by simp, rfl⟩
theorem CRf.of_plain (h : CRf hd E x y) (hp : plainV x = true) : y = x := by
 cases x <;> simp [plainV] at hp <;> exact h.2.2
theorem CR.of_plain (h : CR hd E x y) (hp : plainV x = true) : y = x := by
 cases x <;> simp [plainV] at hp <;> exact h.2.2
theorem CR.const (h : constV x = true) : CR hd E x x := by
 have leaf : ∀ v : Value, (match v with | .bool _ | .int _ _ | .string _ => true | .slice none 0 0 | .pointer none => true | _ => false) = true → CRf hd E v v := by
  intro v hv
  split at hv <;> first | (cases hv; done) | exact ⟨rfl, by simp, rfl⟩
 cases x with
 | agg xs =>
   refine ⟨xs.toList, by simp, ?_⟩
   simp only [constV, List.all_eq_true] at h
   have : ∀ l : List Value, (∀ v ∈ l, (match v with | .bool _ | .int _ _ | .string _ => true | .slice none 0 0 | .pointer none => true | _ => false) = true) → All2 (CRf hd E) l l := by
    intro l
    induction l with
    | nil => intro _; exact .nil
    | cons a l ih => intro hl; exact .cons (leaf a (hl a (List.mem_cons_self ..))) (ih fun v hv => hl v (List.mem_cons_of_mem _ hv))
   exact this _ h
 | tuple xs => simp [constV] at h
 | slice A n c =>
   cases A with
   | none => exact ⟨h, by simp, rfl⟩
   | some p => simp [constV] at h
 | pointer A =>
   cases A with
   | none => exact ⟨h, by simp, rfl⟩
   | some p => simp [constV] at h
 | func fn a b => simp [constV] at h
 | _ => first | (simp [constV] at h; done) | exact ⟨h, by simp, rfl⟩
theorem CR.lvs (h : CR hd E x y) (ht : ∀ xs, x ≠ .tuple xs) : All2 (CRf hd E) (lvs x) y.cells.toList := by
 cases x with
 | tuple xs => exact absurd rfl (ht xs)
 | agg xs =>
   obtain ⟨ys, rfl, h⟩ := h
   simpa [Dw.lvs, Value.cells] using h
 | func fn a b =>
   obtain ⟨g, cs, rfl, h2, rfl, h4⟩ := h
   exact .cons ⟨g, cs, rfl, h2, rfl, h4⟩ .nil
 | slice A n c =>
   have : ∃ A n c, y = .slice A n c := by
    cases A with
    | none => exact ⟨_, _, _, h.2.2⟩
    | some p => exact h.2.1
   obtain ⟨A', n', c', rfl⟩ := this
   exact .cons h .nil
 | pointer A =>
   have : ∃ A, y = .pointer A := by
    cases A with
    | none => exact ⟨_, h.2.2⟩
    | some p => rcases h with h | ⟨_, b, _, h⟩; exact h.2.2.1; exact ⟨_, h⟩
   obtain ⟨A', rfl⟩ := this
   exact .cons h .nil
 | _ => obtain ⟨h1, h2, rfl⟩ := h; first | exact .cons ⟨h1, h2, rfl⟩ .nil | (simp [constV] at h1; done)
theorem CRf.one (h : CRf hd E x y) : oneB y = true ∧ y.cells = #[y] := by
 cases x with
 | slice A n c =>
   have : ∃ A n c, y = .slice A n c := by
    cases A with
    | none => exact ⟨_, _, _, h.2.2⟩
    | some p => exact h.2.1
   obtain ⟨A', n', c', rfl⟩ := this
   exact ⟨rfl, rfl⟩
 | pointer A =>
   have : ∃ A, y = .pointer A := by
    cases A with
    | none => exact ⟨_, h.2.2⟩
    | some p => rcases h with h | ⟨_, b, _, h⟩; exact h.2.2.1; exact ⟨_, h⟩
   obtain ⟨A', rfl⟩ := this
   exact ⟨rfl, rfl⟩
 | func fn a b => obtain ⟨g, cs, _, _, rfl, _⟩ := h; exact ⟨rfl, rfl⟩
 | agg xs => exact absurd rfl (h.2.1 xs)
 | tuple xs => have := h.1; simp [constV] at this
 | _ => obtain ⟨h1, h2, rfl⟩ := h; first | exact ⟨rfl, rfl⟩ | (simp [constV] at h1; done)
theorem All2.ones {xs ys : List Value} (h : All2 (CRf hd E) xs ys) : ∀ y ∈ ys, oneB y = true ∧ y.cells = #[y] := by
 induction h with
 | nil => intro y hy; cases hy
 | cons h _ ih =>
   intro y hy
   rcases List.mem_cons.1 hy with rfl | hy
   ·exact h.one
   ·exact ih y hy
theorem CRf.fits (h : CRf hd E x y) {k : Ck} (hk : k.fits x = true) : k.fits y = true := by
 cases x with
 | slice A n c =>
   have : ∃ A n c, y = .slice A n c := by
    cases A with
    | none => exact ⟨_, _, _, h.2.2⟩
    | some p => exact h.2.1
   obtain ⟨A', n', c', rfl⟩ := this
   cases k <;> simp_all [Ck.fits]
 | pointer A =>
   have : ∃ A, y = .pointer A := by
    cases A with
    | none => exact ⟨_, h.2.2⟩
    | some p => rcases h with h | ⟨_, b, _, h⟩; exact h.2.2.1; exact ⟨_, h⟩
   obtain ⟨A', rfl⟩ := this
   cases k <;> simp_all [Ck.fits]
 | func fn a b => obtain ⟨g, cs, _, _, rfl, _⟩ := h; cases k <;> simp_all [Ck.fits]
 | agg xs => exact absurd rfl (h.2.1 xs)
 | tuple xs => have := h.1; simp [constV] at this
 | _ => obtain ⟨h1, h2, rfl⟩ := h; exact hk
end
theorem app_get {α : Type} {l r : List α} {j : Nat} {v : α} (h : l[j]? = some v) : (l ++ r)[j]? = some v := by
 have : j < l.length := by
  by_cases hlt : j < l.length
  ·exact hlt
  ·rw [List.getElem?_eq_none (Nat.le_of_not_lt hlt)] at h; cases h
 rw [List.getElem?_append_left this, h]
/-! ### Shapes that go with another -/
theorem kEq_eq {k k' : Ck} (h : kEq k k' = true) : k = k' := by
 cases k <;> cases k' <;> simp [kEq] at h <;> simp_all
section
variable {w : World} {Z : Nat → Nat → Prop}
mutual
theorem Rep.bor : ∀ {s : Shp} {d : D} {v : Value} {f : List Nat}, Rep w Z s d v f → s.bor = true → f = []
 | _, _, _, _, .v h1 h2, _ => rfl
 | _, _, _, _, .tree h1 h2 hc h3 h4, _ => rfl
 | _, _, _, _, .nil, _ => rfl
 | _, _, _, _, .own h1 h2 h3 h4 h5, h => by simp [Shp.bor] at h
 | _, _, _, _, .ptr h1 h2 h3, _ => rfl
 | _, _, _, _, .box h1 h2, h => by simp [Shp.bor] at h
 | _, _, _, _, .fn h, hb => Reps.bor h (by simpa [Shp.bor] using hb)
theorem Reps.bor : ∀ {s : List Shp} {d : List D} {v : List Value} {f : List Nat}, Reps w Z s d v f → Shp.bors s = true → f = []
 | _, _, _, _, .nil, _ => rfl
 | _, _, _, _, .cons h1 h2, hb => by
   simp only [Shp.bors, Bool.and_eq_true] at hb
   rw [Rep.bor h1 hb.1, Reps.bor h2 hb.2]; rfl
theorem Recs.bor : ∀ {s : List Shp} {d : List (List D)} {v : List (List Value)} {f : List Nat}, Recs w Z s d v f → Shp.bors s = true → f = []
 | _, _, _, _, .nil, _ => rfl
 | _, _, _, _, .cons h1 h2, hb => by rw [Reps.bor h1 hb, Recs.bor h2 hb]; rfl
end
structure Wk (Z : Nat → Nat → Prop) (f f' : List Nat) (P : (Nat → Nat → Prop) → Prop) : Prop where
 sub : ∀ k ∈ f', k ∈ f
 nd : f.Nodup → f'.Nodup
 go : f.Nodup → ∀ Z' : Nat → Nat → Prop, (∀ m k, Z m k → Z' m k) → (∀ k, Z 1 k → Z' 2 k) → (∀ m k, k ∈ f → k ∉ f' → Z' m k) → P Z'
theorem Wk.app {f f' g g' : List Nat} {P Q R : (Nat → Nat → Prop) → Prop} (h : Wk Z f f' P) (k : Wk Z g g' Q) (hR : ∀ Z', P Z' → Q Z' → R Z') : Wk Z (f ++ g) (f' ++ g') R where
 sub := fun x hx => by
  rcases List.mem_append.1 hx with hx | hx
  ·exact List.mem_append_left _ (h.sub x hx)
  ·exact List.mem_append_right _ (k.sub x hx)
 nd := fun hn => by
  rw [List.nodup_append] at hn ⊢
  exact ⟨h.nd hn.1, k.nd hn.2.1, fun a ha b hb => hn.2.2 a (h.sub a ha) b (k.sub b hb)⟩
 go := fun hn Z' h1 h2 h3 => by
  rw [List.nodup_append] at hn
  refine hR Z' (h.go hn.1 Z' h1 h2 fun m x hx hx' => h3 m x (List.mem_append_left _ hx) fun hm => ?_) (k.go hn.2.1 Z' h1 h2 fun m x hx hx' => h3 m x (List.mem_append_right _ hx) fun hm => ?_)
  ·rcases List.mem_append.1 hm with hm | hm
   ·exact hx' hm
   ·exact hn.2.2 x hx x (k.sub x hm) rfl
  ·rcases List.mem_append.1 hm with hm | hm
   ·exact hn.2.2 x (h.sub x hm) x hx rfl
   ·exact hx' hm
theorem mdLe_z {md md' : Nat} (h : mdLe md md' = true) (h0 : md ≠ 0) {Z Z' : Nat → Nat → Prop} (h1 : ∀ m k, Z m k → Z' m k) (h2 : ∀ k, Z 1 k → Z' 2 k) : md' ≠ 0 ∧ ∀ k, Z md k → Z' md' k := by
 simp only [mdLe, Bool.or_eq_true, beq_iff_eq, Bool.and_eq_true] at h
 rcases h with (rfl | rfl) | ⟨rfl, rfl⟩
 ·exact ⟨h0, h1 _⟩
 ·exact absurd rfl h0
 ·exact ⟨by decide, h2⟩
theorem Shp.les_len : ∀ {a b : List Shp}, Shp.les a b = true → a.length = b.length
 | [], [], _ => rfl
 | [], _ :: _, h => by simp [Shp.les] at h
 | _ :: _, [], h => by simp [Shp.les] at h
 | _ :: a, _ :: b, h => by
   simp only [Shp.les, Bool.and_eq_true] at h
   simp [Shp.les_len h.2]
mutual
theorem Rep.le : ∀ {s : Shp} {d : D} {v : Value} {f : List Nat}, Rep w Z s d v f → ∀ {s' : Shp}, s.le s' = true → ∃ f', Wk Z f f' fun Z' => Rep w Z' s' d v f'
 | _, _, _, _, .v h1 h2, s', hle => by
   cases s' <;> simp [Shp.le] at hle
   obtain rfl := kEq_eq hle
   exact ⟨[], fun _ h => h, fun _ => .nil, fun _ Z' _ _ _ => .v h1 h2⟩
 | _, _, _, _, .tree h1 h2 hc h3 h4, s', hle => by
   cases s' <;> simp [Shp.le] at hle
   obtain ⟨⟨⟨hm, rfl⟩, hs⟩, hb⟩ := hle
   obtain ⟨f', hw⟩ := Recs.le h4 hs
   have hf : f' = [] := List.eq_nil_iff_forall_not_mem.2 fun k hk => by cases hw.sub k hk
   subst hf
   exact ⟨[], fun _ h => h, fun _ => .nil, fun hn Z' z1 z2 z3 => .tree (mdLe_z hm h1 z1 z2).1 h2 hc (h3.kept (fun _ _ _ => rfl) (mdLe_z hm h1 z1 z2).2) (hw.go hn Z' z1 z2 z3)⟩
 | _, _, _, _, .nil, s', hle => by
   cases s' <;> simp [Shp.le] at hle
   rename_i md' e' sub'
   obtain ⟨⟨⟨hm, rfl⟩, hs⟩, hb⟩ := hle
   refine ⟨[], fun _ h => h, fun _ => .nil, fun hn Z' z1 z2 z3 => ?_⟩
   by_cases hz : md' = 0
   ·subst hz; exact .nil
   ·exact .tree (es := []) (css := []) hz (Nat.zero_le _) (Nat.zero_le _) (fun h => absurd rfl h) .nil
 | _, _, _, _, .own (b := b) h1 h2 h3 h4 h5, s', hle => by
   cases s' <;> simp [Shp.le] at hle
   rename_i md' e' sub'
   obtain ⟨⟨⟨hm, rfl⟩, hs⟩, hb⟩ := hle
   obtain ⟨f', hw⟩ := Recs.le h5 hs
   by_cases hz : md' = 0
   ·subst hz
    refine ⟨b :: f', ?_, ?_, ?_⟩
    ·intro k hk
     rcases List.mem_cons.1 hk with rfl | hk
     ·exact List.mem_cons_self ..
     ·exact List.mem_cons_of_mem _ (hw.sub k hk)
    ·intro hn
     rw [List.nodup_cons] at hn ⊢
     exact ⟨fun h => hn.1 (hw.sub _ h), hw.nd hn.2⟩
    ·intro hn Z' z1 z2 z3
     rw [List.nodup_cons] at hn
     have hl : sub'.length = _ := (Shp.les_len hs).symm
     refine .own h1 (by rw [hl]; exact h2) h3 h4 (hw.go hn.2 Z' z1 z2 fun m k hk hk' => z3 m k (List.mem_cons_of_mem _ hk) fun hm => ?_)
     rcases List.mem_cons.1 hm with rfl | hm
     ·exact hn.1 hk
     ·exact hk' hm
   ·have hbr := hb.resolve_left hz
    refine ⟨[], fun _ h => (by cases h), fun _ => .nil, fun hn Z' z1 z2 z3 => ?_⟩
    rw [List.nodup_cons] at hn
    have hR := hw.go hn.2 Z' z1 z2 (fun m k hk hk' => z3 m k (List.mem_cons_of_mem _ hk) (by simp))
    obtain rfl := Recs.bor hR hbr
    refine .tree hz (Nat.le_trans h3 h4) h3 (fun hne => ⟨_, rfl, z3 _ _ (List.mem_cons_self ..) (by simp), fun j v hj => ?_⟩) hR
    rw [add_none, Nat.zero_add]
    refine h1.cell ?_
    exact app_get hj
 | _, _, _, _, .ptr h1 h2 h3, s', hle => by
   cases s' <;> simp [Shp.le] at hle
   obtain ⟨⟨⟨hm, rfl⟩, hs⟩, hb⟩ := hle
   obtain ⟨f', hw⟩ := Reps.le h3 hs
   have hf : f' = [] := List.eq_nil_iff_forall_not_mem.2 fun k hk => by cases hw.sub k hk
   subst hf
   exact ⟨[], fun _ h => h, fun _ => .nil, fun hn Z' z1 z2 z3 => .ptr (mdLe_z hm h1 z1 z2).1 (h2.kept (fun _ _ _ => rfl) (mdLe_z hm h1 z1 z2).2) (hw.go hn Z' z1 z2 z3)⟩
 | _, _, _, _, .box (b := b) h1 h2, s', hle => by
   cases s' <;> simp [Shp.le] at hle
   rename_i md' e' sub'
   obtain ⟨⟨⟨hm, rfl⟩, hs⟩, hb⟩ := hle
   obtain ⟨f', hw⟩ := Reps.le h2 hs
   by_cases hz : md' = 0
   ·subst hz
    refine ⟨b :: f', ?_, ?_, ?_⟩
    ·intro k hk
     rcases List.mem_cons.1 hk with rfl | hk
     ·exact List.mem_cons_self ..
     ·exact List.mem_cons_of_mem _ (hw.sub k hk)
    ·intro hn
     rw [List.nodup_cons] at hn ⊢
     exact ⟨fun h => hn.1 (hw.sub _ h), hw.nd hn.2⟩
    ·intro hn Z' z1 z2 z3
     rw [List.nodup_cons] at hn
     refine .box h1 (hw.go hn.2 Z' z1 z2 fun m k hk hk' => z3 m k (List.mem_cons_of_mem _ hk) fun hm => ?_)
     rcases List.mem_cons.1 hm with rfl | hm
     ·exact hn.1 hk
     ·exact hk' hm
   ·have hbr := hb.resolve_left hz
    refine ⟨[], fun _ h => (by cases h), fun _ => .nil, fun hn Z' z1 z2 z3 => ?_⟩
    rw [List.nodup_cons] at hn
    have hR := hw.go hn.2 Z' z1 z2 (fun m k hk hk' => z3 m k (List.mem_cons_of_mem _ hk) (by simp))
    obtain rfl := Reps.bor hR hbr
    refine .ptr hz (fun hne => ⟨_, rfl, z3 _ _ (List.mem_cons_self ..) (by simp), fun j v hj => ?_⟩) hR
    rw [add_none, Nat.zero_add]
    exact h1.cell hj
 | _, _, _, _, .fn h, s', hle => by
   cases s' <;> simp [Shp.le] at hle
   obtain ⟨rfl, hs⟩ := hle
   obtain ⟨f', hw⟩ := Reps.le h hs
   exact ⟨f', hw.sub, hw.nd, fun hn Z' z1 z2 z3 => .fn (hw.go hn Z' z1 z2 z3)⟩
theorem Reps.le : ∀ {s : List Shp} {d : List D} {v : List Value} {f : List Nat}, Reps w Z s d v f → ∀ {s' : List Shp}, Shp.les s s' = true → ∃ f', Wk Z f f' fun Z' => Reps w Z' s' d v f'
 | _, _, _, _, .nil, s', hle => by
   cases s' <;> simp [Shp.les] at hle
   exact ⟨[], fun _ h => h, fun _ => .nil, fun _ Z' _ _ _ => .nil⟩
 | _, _, _, _, .cons h1 h2, s', hle => by
   cases s' <;> simp [Shp.les] at hle
   obtain ⟨f1, w1⟩ := Rep.le h1 hle.1
   obtain ⟨f2, w2⟩ := Reps.le h2 hle.2
   exact ⟨f1 ++ f2, w1.app w2 fun Z' a b => .cons a b⟩
theorem Recs.le : ∀ {s : List Shp} {d : List (List D)} {v : List (List Value)} {f : List Nat}, Recs w Z s d v f → ∀ {s' : List Shp}, Shp.les s s' = true → ∃ f', Wk Z f f' fun Z' => Recs w Z' s' d v f'
 | _, _, _, _, .nil, s', hle => ⟨[], fun _ h => h, fun _ => .nil, fun _ Z' _ _ _ => .nil⟩
 | _, _, _, _, .cons h1 h2, s', hle => by
   obtain ⟨f1, w1⟩ := Reps.le h1 hle
   obtain ⟨f2, w2⟩ := Recs.le h2 hle
   exact ⟨f1 ++ f2, w1.app w2 fun Z' a b => .cons a b⟩
end
end
end Go.Dw
end
section
namespace Go.Dw
open Go Go.Cw
set_option linter.unusedVariables false
def upd (F : Nat → List Nat) (r : Nat) (g : List Nat) : Nat → List Nat := fun q => if q = r then g else F q
theorem upd_same (F : Nat → List Nat) (r : Nat) (g : List Nat) : upd F r g r = g := by simp [upd]
theorem upd_ne (F : Nat → List Nat) {r q : Nat} (g : List Nat) (h : q ≠ r) : upd F r g q = F q := by simp [upd, h]
structure Sp (F : Nat → List Nat) (lo : List Nat) (I : Nat → Prop) (Z : Nat → Nat → Prop) (n : Nat) (Mi : Nat → Prop) : Prop where
 fd : ∀ r, (F r).Nodup
 fj : ∀ r r' k, k ∈ F r → k ∈ F r' → r = r'
 ln : lo.Nodup
 lf : ∀ r k, k ∈ lo → ¬ k ∈ F r
 il : ∀ k, I k → ¬ k ∈ lo ∧ ∀ r, ¬ k ∈ F r
 z : ∀ m k, Z m k → k < n ∧ ¬ I k ∧ ¬ k ∈ lo ∧ ∀ r, ¬ k ∈ F r
 z2 : ∀ m k, Z m k → Z 2 k
 fm : ∀ r k, k ∈ F r → k < n ∧ Mi k
 lm : ∀ k, k ∈ lo → k < n ∧ Mi k
 im : ∀ k, I k → Mi k
section
variable {F : Nat → List Nat} {lo : List Nat} {I : Nat → Prop} {Z : Nat → Nat → Prop} {n : Nat} {Mi : Nat → Prop}
theorem Sp.gen (h : Sp F lo I Z n Mi) {r : Nat} {g lo' : List Nat} {n' : Nat} {Z' : Nat → Nat → Prop} (hn : n ≤ n') (hg : g.Nodup) (hl : lo'.Nodup) (hd : ∀ k ∈ g, ¬ k ∈ lo')
 (hs : ∀ k, k ∈ g ∨ k ∈ lo' → k ∈ F r ∨ k ∈ lo ∨ (n ≤ k ∧ k < n' ∧ Mi k)) (hz : ∀ m k, Z' m k → Z m k ∨ ((k ∈ F r ∨ k ∈ lo ∨ (n ≤ k ∧ k < n')) ∧ ¬ k ∈ g ∧ ¬ k ∈ lo'))
 (hz12 : ∀ m k, Z' m k → Z' 2 k) (hI : n' = n ∨ ∀ k, I k → k < n) : Sp (upd F r g) lo' I Z' n' Mi := by
 have old : ∀ q k, k ∈ upd F r g q → k ∈ F q ∨ (q = r ∧ k ∈ g) := by
  intro q k hk
  unfold upd at hk
  split at hk
  ·exact .inr ⟨by assumption, hk⟩
  ·exact .inl hk
 have far : ∀ q k, q ≠ r → k ∈ F q → ¬ (k ∈ F r ∨ k ∈ lo ∨ (n ≤ k ∧ k < n' ∧ Mi k)) := by
  intro q k hq hk hc
  rcases hc with hc | hc | ⟨hc, _⟩
  ·exact hq (h.fj _ _ _ hk hc)
  ·exact h.lf _ _ hc hk
  ·exact absurd (h.fm _ _ hk).1 (Nat.not_lt.2 hc)
 have bfar : ∀ k, I k → ¬ (k ∈ F r ∨ k ∈ lo ∨ (n ≤ k ∧ k < n' ∧ Mi k)) := by
  intro k hk hc
  rcases hc with hc | hc | ⟨h1, h2, _⟩
  ·exact (h.il k hk).2 _ hc
  ·exact (h.il k hk).1 hc
  ·rcases hI with rfl | hI
   ·omega
   ·exact absurd (hI k hk) (Nat.not_lt.2 h1)
 have own : ∀ k, k ∈ F r ∨ k ∈ lo ∨ (n ≤ k ∧ k < n' ∧ Mi k) → k < n' ∧ Mi k := by
  intro k hc
  rcases hc with hc | hc | ⟨_, h2, h3⟩
  ·exact ⟨Nat.lt_of_lt_of_le (h.fm _ _ hc).1 hn, (h.fm _ _ hc).2⟩
  ·exact ⟨Nat.lt_of_lt_of_le (h.lm _ hc).1 hn, (h.lm _ hc).2⟩
  ·exact ⟨h2, h3⟩
 refine ⟨?_, ?_, hl, ?_, ?_, ?_, hz12, ?_, ?_, h.im⟩
 ·intro q
  unfold upd
  split
  ·exact hg
  ·exact h.fd q
 ·intro q q' k hk hk'
  by_cases h1 : q = r
  ·by_cases h2 : q' = r
   ·rw [h1, h2]
   ·subst h1
    rw [upd_same] at hk
    rw [upd_ne _ _ h2] at hk'
    exact absurd (hs k (.inl hk)) (far q' k h2 hk')
  ·by_cases h2 : q' = r
   ·subst h2
    rw [upd_same] at hk'
    rw [upd_ne _ _ h1] at hk
    exact absurd (hs k (.inl hk')) (far q k h1 hk)
   ·rw [upd_ne _ _ h1] at hk
    rw [upd_ne _ _ h2] at hk'
    exact h.fj _ _ _ hk hk'
 ·intro q k hk hq
  by_cases h1 : q = r
  ·subst h1
   rw [upd_same] at hq
   exact hd k hq hk
  ·rw [upd_ne _ _ h1] at hq
   exact far q k h1 hq (hs k (.inr hk))
 ·intro k hk
  refine ⟨fun hm => bfar k hk (hs k (.inr hm)), fun q hq => ?_⟩
  by_cases h1 : q = r
  ·subst h1
   rw [upd_same] at hq
   exact bfar k hk (hs k (.inl hq))
  ·rw [upd_ne _ _ h1] at hq
   exact (h.il k hk).2 q hq
 ·intro m k hk
  rcases hz m k hk with hk | ⟨hc, h1, h2⟩
  ·obtain ⟨a, b, c, d⟩ := h.z m k hk
   have nc : ¬ (k ∈ F r ∨ k ∈ lo ∨ (n ≤ k ∧ k < n' ∧ Mi k)) := by
    rintro (hc | hc | ⟨hc, _⟩)
    ·exact d _ hc
    ·exact c hc
    ·omega
   refine ⟨by omega, b, fun hm => nc (hs k (.inr hm)), fun q hq => ?_⟩
   by_cases h3 : q = r
   ·subst h3
    rw [upd_same] at hq
    exact nc (hs k (.inl hq))
   ·rw [upd_ne _ _ h3] at hq
    exact d q hq
  ·refine ⟨?_, ?_, h2, ?_⟩
   ·rcases hc with hc | hc | hc
    ·have := (h.fm _ _ hc).1; omega
    ·have := (h.lm _ hc).1; omega
    ·exact hc.2
   ·intro hi
    rcases hc with hc | hc | hc
    ·exact (h.il k hi).2 _ hc
    ·exact (h.il k hi).1 hc
    ·rcases hI with rfl | hI
     ·omega
     ·have := hI k hi; omega
   ·intro q hq
    by_cases h3 : q = r
    ·subst h3
     rw [upd_same] at hq
     exact h1 hq
    ·rw [upd_ne _ _ h3] at hq
     rcases hc with hc | hc | hc
     ·exact h3 (h.fj _ _ _ hq hc)
     ·exact h.lf _ _ hc hq
     ·have := (h.fm _ _ hq).1; omega
 ·intro q k hk
  by_cases h3 : q = r
  ·subst h3
   rw [upd_same] at hk
   exact own k (hs k (.inl hk))
  ·rw [upd_ne _ _ h3] at hk
   exact ⟨Nat.lt_of_lt_of_le (h.fm _ _ hk).1 hn, (h.fm _ _ hk).2⟩
 ·intro k hk
  exact own k (hs k (.inr hk))
theorem Sp.box (h : Sp F lo I Z n Mi) {b : Nat} (hb : I b) (hn : b < n) : Sp F (b :: lo) (fun k => I k ∧ k ≠ b) Z n Mi := by
 refine ⟨h.fd, h.fj, ?_, ?_, ?_, ?_, h.z2, h.fm, ?_, fun k hk => h.im k hk.1⟩
 ·rw [List.nodup_cons]
  exact ⟨(h.il b hb).1, h.ln⟩
 ·intro r k hk
  rcases List.mem_cons.1 hk with rfl | hk
  ·exact (h.il _ hb).2 r
  ·exact h.lf r k hk
 ·intro k hk
  refine ⟨fun hm => ?_, (h.il k hk.1).2⟩
  rcases List.mem_cons.1 hm with rfl | hm
  ·exact hk.2 rfl
  ·exact (h.il k hk.1).1 hm
 ·intro m k hk
  obtain ⟨a, b', c, d⟩ := h.z m k hk
  refine ⟨a, fun hi => b' hi.1, fun hm => ?_, d⟩
  rcases List.mem_cons.1 hm with rfl | hm
  ·exact b' hb
  ·exact c hm
 ·intro k hk
  rcases List.mem_cons.1 hk with rfl | hk
  ·exact ⟨hn, h.im _ hb⟩
  ·exact h.lm k hk
theorem Sp.boxes (h : Sp F lo I Z n Mi) {I' : Nat → Prop} (hi : ∀ k, I' k → I k ∨ (n ≤ k ∧ Mi k)) : Sp F lo I' Z n Mi := by
 refine ⟨h.fd, h.fj, h.ln, h.lf, ?_, ?_, h.z2, h.fm, h.lm, ?_⟩
 ·intro k hk
  rcases hi k hk with hk | ⟨hk, _⟩
  ·exact h.il k hk
  ·exact ⟨fun hm => absurd (h.lm k hm).1 (Nat.not_lt.2 hk), fun r hm => absurd (h.fm r k hm).1 (Nat.not_lt.2 hk)⟩
 ·intro m k hk
  obtain ⟨a, b, c, d⟩ := h.z m k hk
  refine ⟨a, fun h' => ?_, c, d⟩
  rcases hi k h' with h' | ⟨h', _⟩
  ·exact b h'
  ·omega
 ·intro k hk
  rcases hi k hk with hk | ⟨_, hk⟩
  ·exact h.im k hk
  ·exact hk
theorem Sp.size (h : Sp F lo I Z n Mi) {n' : Nat} (hn : n ≤ n') : Sp F lo I Z n' Mi :=
 ⟨h.fd, h.fj, h.ln, h.lf, h.il, fun m k hk => let ⟨a, b⟩ := h.z m k hk; ⟨Nat.lt_of_lt_of_le a hn, b⟩, h.z2, fun r k hk => let ⟨a, b⟩ := h.fm r k hk; ⟨Nat.lt_of_lt_of_le a hn, b⟩, fun k hk => let ⟨a, b⟩ := h.lm k hk; ⟨Nat.lt_of_lt_of_le a hn, b⟩, h.im⟩
end
/-! ### Entries -/
def Vw (Z : Nat → Nat → Prop) (F : Nat → List Nat) (lt : Option Nat) (lo : List Nat) (r0 : Nat) (pos : Bool) : Nat → Nat → Prop :=
 fun m k => Z m k ∨ (pos = true ∧ k ∈ F r0) ∨ k ∈ (F r0).tail ∨ (lt = some r0 ∧ k ∈ lo)
def TeOk (w : World) (Z : Nat → Nat → Prop) (hd : List Value) (E : Nat → Nat → Prop) (F : Nat → List Nat) (lt : Option Nat) (lo : List Nat) (r : Nat) (v : Value) : Te → Prop
 | .row md e sub es => Rep w Z (.l md e sub) (.l es) v (F r)
 | .view r0 pos e sub es => F r = [] ∧ Rep w (Vw Z F lt lo r0 pos) (.l 2 e sub) (.l es) v []
 | .pbx md t cs => ∃ cs', All2 (CRf hd E) cs cs' ∧
  ((md = 0 ∧ ∃ b, v = .pointer (some ⟨b, 0, none⟩) ∧ F r = [b] ∧ Box w b cs' t) ∨ (md ≠ 0 ∧ ∃ p, v = .pointer (some p) ∧ F r = [] ∧ CatZ w (Z md) (some p) cs'))
 | .dead => F r = []
structure Tk (cx : Cx) (tb : List (Te × Nat)) (hd : List Value) (E : Nat → Nat → Prop) (Z : Nat → Nat → Prop) (F : Nat → List Nat) (lt : Option Nat) (lo : List Nat) (I : Nat → Prop) (w : World) : Prop where
 hl : hd.length = tb.length
 te : ∀ (r : Nat) (t : Te) (c : Nat), tb[r]? = some (t, c) → ∃ v, hd[r]? = some v ∧ TeOk w Z hd E F lt lo r v t
 f0 : ∀ r, tb.length ≤ r → F r = []
 sp : Sp F lo I Z w.heap.size (fun k => 0 < k ∧ (cx.w0.heap.size ≤ k ∨ cx.M k))
 n0 : cx.w0.heap.size ≤ w.heap.size
 np : 0 < cx.w0.heap.size
section
variable {cx : Cx} {tb : List (Te × Nat)} {hd hd' : List Value} {E E' : Nat → Nat → Prop} {Z Z' : Nat → Nat → Prop} {F F' : Nat → List Nat} {lt lt' : Option Nat} {lo lo' : List Nat} {I : Nat → Prop} {w w' : World}
theorem TeOk.mono {r : Nat} {v : Value} {t : Te} (h : TeOk w Z hd E F lt lo r v t) (hb : ∀ k, k < w.heap.size → ((∃ m, Z m k) ∨ (∃ q, k ∈ F q) ∨ k ∈ lo) → w'.heap[k]? = w.heap[k]?)
 (hz : ∀ m k, Z m k → Z' m k) (hh : Ext hd hd') (he : ∀ k b, E k b → E' k b) (hf : F' r = F r)
 (hv : ∀ r0 pos e sub es, t = .view r0 pos e sub es → ∀ m k, Vw Z F lt lo r0 pos m k → Vw Z' F' lt' lo' r0 pos m k)
 (hFl : ∀ k ∈ F r, k < w.heap.size) : TeOk w' Z' hd' E' F' lt' lo' r v t := by
 cases t with
 | row md e sub es =>
   show Rep w' Z' _ _ _ _
   rw [hf]
   exact Rep.kept (fun m k hk hm => hb k hk (.inl ⟨m, hm⟩)) hz h fun k hk => hb k (hFl k hk) (.inr (.inl ⟨r, hk⟩))
 | view r0 pos e sub es =>
   refine ⟨by rw [hf]; exact h.1, ?_⟩
   refine Rep.kept (fun m k hk hm => hb k hk ?_) (hv r0 pos e sub es rfl) h.2 (fun _ h => by cases h)
   rcases hm with hm | ⟨_, hm⟩ | hm | ⟨_, hm⟩
   ·exact .inl ⟨m, hm⟩
   ·exact .inr (.inl ⟨r0, hm⟩)
   ·exact .inr (.inl ⟨r0, List.mem_of_mem_tail hm⟩)
   ·exact .inr (.inr hm)
 | pbx md t cs =>
   obtain ⟨cs', h1, h2⟩ := h
   refine ⟨cs', h1.mono fun _ _ h => h.mono hh he, ?_⟩
   rcases h2 with ⟨h0, b, h2, h3, h4⟩ | ⟨h0, p, h2, h3, h4⟩
   ·refine .inl ⟨h0, b, h2, by rw [hf]; exact h3, Box.keptB h4 (hb b h4.lt (.inr (.inl ⟨r, by rw [h3]; simp⟩)))⟩
   ·exact .inr ⟨h0, p, h2, by rw [hf]; exact h3, h4.kept (fun k hk hm => hb k hk (.inl ⟨md, hm⟩)) (hz md)⟩
 | dead => exact hf.trans h
theorem Tk.world (h : Tk cx tb hd E Z F lt lo I w) (hs : w.heap.size ≤ w'.heap.size) (hb : ∀ k, k < w.heap.size → ((∃ m, Z m k) ∨ (∃ q, k ∈ F q) ∨ k ∈ lo) → w'.heap[k]? = w.heap[k]?) : Tk cx tb hd E Z F lt lo I w' where
 hl := h.hl
 te := fun r t c ht => by
  obtain ⟨v, h1, h2⟩ := h.te r t c ht
  exact ⟨v, h1, h2.mono hb (fun _ _ h => h) (Ext.refl _) (fun _ _ h => h) rfl (fun _ _ _ _ _ _ _ _ h => h) fun k hk => (h.sp.fm r k hk).1⟩
 f0 := h.f0
 sp := h.sp.size hs
 n0 := Nat.le_trans h.n0 hs
 np := h.np
theorem Tk.ext (h : Tk cx tb hd E Z F lt lo I w) (he : ∀ k b, E k b → E' k b) : Tk cx tb hd E' Z F lt lo I w where
 hl := h.hl
 te := fun r t c ht => by
  obtain ⟨v, h1, h2⟩ := h.te r t c ht
  exact ⟨v, h1, h2.mono (fun _ _ _ => rfl) (fun _ _ h => h) (Ext.refl _) he rfl (fun _ _ _ _ _ _ _ _ h => h) fun k hk => (h.sp.fm r k hk).1⟩
 f0 := h.f0
 sp := h.sp
 n0 := h.n0
 np := h.np
theorem Tk.boxes (h : Tk cx tb hd E Z F lt lo I w) {I' : Nat → Prop} (hi : ∀ k, I' k → I k ∨ (w.heap.size ≤ k ∧ (0 < k ∧ (cx.w0.heap.size ≤ k ∨ cx.M k)))) : Tk cx tb hd E Z F lt lo I' w :=
 ⟨h.hl, h.te, h.f0, h.sp.boxes hi, h.n0, h.np⟩
theorem Tk.at (h : Tk cx tb hd E Z F lt lo I w) {r : Nat} {t : Te} (ht : (match tb[r]? with | some x => x.1 | none => .dead) = t) (hn : t ≠ .dead) : ∃ c v, tb[r]? = some (t, c) ∧ hd[r]? = some v ∧ TeOk w Z hd E F lt lo r v t := by
 cases hr : tb[r]? with
 | none => rw [hr] at ht; exact absurd ht.symm hn
 | some x =>
   rw [hr] at ht
   obtain ⟨t', c⟩ := x
   obtain rfl := ht
   obtain ⟨v, h1, h2⟩ := h.te r _ c hr
   exact ⟨c, v, rfl, h1, h2⟩
theorem Tk.add {f : List Nat} (h : Tk cx tb hd E Z F none (f ++ lo) I w) {v : Value} {t : Te} {c : Nat} (ht : TeOk w Z (hd ++ [v]) E (upd F tb.length f) none lo tb.length v t) : Tk cx (tb ++ [(t, c)]) (hd ++ [v]) E Z (upd F tb.length f) none lo I w := by
 have hF : F tb.length = [] := h.f0 _ (Nat.le_refl _)
 have hnd := h.sp.ln
 rw [List.nodup_append] at hnd
 have hsp : Sp (upd F tb.length f) lo I Z w.heap.size (fun k => 0 < k ∧ (cx.w0.heap.size ≤ k ∨ cx.M k)) :=
  h.sp.gen (Nat.le_refl _) hnd.1 hnd.2.1 (fun k hk hk' => hnd.2.2 k hk k hk' rfl) (fun k hk => .inr (.inl (by simpa using hk))) (fun m k hk => .inl hk) h.sp.z2 (.inl rfl)
 refine ⟨by simp [h.hl], fun r t' c' hr => ?_, fun r hr => ?_, hsp, h.n0, h.np⟩
 ·by_cases hlt : r < tb.length
  ·rw [List.getElem?_append_left hlt] at hr
   obtain ⟨v', h1, h2⟩ := h.te r t' c' hr
   refine ⟨v', Ext.app _ _ _ _ h1, h2.mono (fun _ _ _ => rfl) (fun _ _ h => h) (Ext.app _ _) (fun _ _ h => h) (upd_ne _ _ (by omega)) (fun r0 pos e sub es _ m k hk => ?_) fun k hk => (h.sp.fm r k hk).1⟩
   by_cases h0 : r0 = tb.length
   ·subst h0
    rcases hk with hk | ⟨_, hk⟩ | hk | ⟨hk, _⟩
    ·exact .inl hk
    ·rw [hF] at hk; cases hk
    ·rw [hF] at hk; cases hk
    ·cases hk
   ·rcases hk with hk | ⟨hp, hk⟩ | hk | ⟨hk, _⟩
    ·exact .inl hk
    ·exact .inr (.inl ⟨hp, by rw [upd_ne _ _ h0]; exact hk⟩)
    ·exact .inr (.inr (.inl (by rw [upd_ne _ _ h0]; exact hk)))
    ·cases hk
  ·have hr' : r = tb.length := by
    have : r < (tb ++ [(t, c)]).length := by
     by_cases hh : r < (tb ++ [(t, c)]).length
     ·exact hh
     ·rw [List.getElem?_eq_none (Nat.le_of_not_lt hh)] at hr; cases hr
    simp at this; omega
   subst hr'
   simp only [List.getElem?_concat_length, Option.some.injEq, Prod.mk.injEq] at hr
   obtain ⟨rfl, rfl⟩ := hr
   refine ⟨v, by rw [← h.hl]; simp, ht⟩
 ·simp at hr
  rw [upd_ne _ _ (by omega)]
  exact h.f0 r (by omega)
end
end Go.Dw
end
section
namespace Go.Dw
open Go Go.Cw
set_option linter.unusedVariables false
/-! ### Shapes, as they are read -/
theorem mdLe_rd {m md : Nat} (h : md = 1 ∨ md = 2) : mdLe m (if m == 0 then md else if m == 1 then md else m) = true := by
 rcases h with rfl | rfl
 ·by_cases h0 : m = 0
  ·subst h0; rfl
  ·by_cases h1 : m = 1
   ·subst h1; rfl
   ·simp [h0, h1, mdLe]
 ·by_cases h0 : m = 0
  ·subst h0; rfl
  ·by_cases h1 : m = 1
   ·subst h1; rfl
   ·simp [h0, h1, mdLe]
theorem rd_ne {m md : Nat} (h : md = 1 ∨ md = 2) : (if m == 0 then md else if m == 1 then md else m) ≠ 0 := by
 split
 ·omega
 ·split
  ·omega
  ·rename_i h0 _; simpa using h0
mutual
theorem bor_rd {md : Nat} (h : md = 1 ∨ md = 2) : ∀ s : Shp, (s.rd md).bor = true
 | .v k => rfl
 | .l m e sub => by
   simp only [Shp.rd, Shp.bor, Bool.and_eq_true, bne_iff_ne]
   exact ⟨rd_ne h, bors_rd h sub⟩
 | .p m t sub => by
   simp only [Shp.rd, Shp.bor, Bool.and_eq_true, bne_iff_ne]
   exact ⟨rd_ne h, bors_rd h sub⟩
 | .f g sub => bors_rd h sub
theorem bors_rd {md : Nat} (h : md = 1 ∨ md = 2) : ∀ s : List Shp, Shp.bors (Shp.rds md s) = true
 | [] => rfl
 | s :: r => by
   simp only [Shp.rds, Shp.bors, Bool.and_eq_true]
   exact ⟨bor_rd h s, bors_rd h r⟩
end
section
variable {w : World} {Z Z' : Nat → Nat → Prop}
mutual
theorem Rep.rd {md : Nat} (h : md = 1 ∨ md = 2) (hz : ∀ m k, Z m k → Z' m k) (h2 : ∀ k, Z 1 k → Z' 2 k) : ∀ {s : Shp} {d : D} {v : Value} {f : List Nat}, Rep w Z s d v f → (∀ m k, k ∈ f → Z' m k) → Rep w Z' (s.rd md) d v []
 | _, _, _, _, .v h1 h3, _ => .v h1 h3
 | _, _, _, _, .tree (md := m) h1 h3 hc h4 h5, hf => by
   obtain ⟨a, b⟩ := mdLe_z (mdLe_rd (m := m) h) h1 hz h2
   exact .tree a h3 hc (h4.kept (fun _ _ _ => rfl) b) (Recs.rd h hz h2 h5 (fun _ _ h => by cases h))
 | _, _, _, _, .nil, _ => .tree (es := []) (css := []) (rd_ne h) (Nat.zero_le _) (Nat.zero_le _) (fun h => absurd rfl h) .nil
 | _, _, _, _, .own (b := b) h1 h3 h4 h5 h6, hf => by
   refine .tree (rd_ne h) (Nat.le_trans h4 h5) h4 (fun hne => ⟨_, rfl, hf _ _ (List.mem_cons_self ..), fun j v hj => ?_⟩) (Recs.rd h hz h2 h6 fun m k hk => hf m k (List.mem_cons_of_mem _ hk))
   rw [add_none, Nat.zero_add]
   exact h1.cell (app_get hj)
 | _, _, _, _, .ptr (md := m) h1 h4 h5, hf => by
   obtain ⟨a, b⟩ := mdLe_z (mdLe_rd (m := m) h) h1 hz h2
   exact .ptr a (h4.kept (fun _ _ _ => rfl) b) (Reps.rd h hz h2 h5 (fun _ _ h => by cases h))
 | _, _, _, _, .box (b := b) h1 h3, hf => by
   refine .ptr (rd_ne h) (fun hne => ⟨_, rfl, hf _ _ (List.mem_cons_self ..), fun j v hj => ?_⟩) (Reps.rd h hz h2 h3 fun m k hk => hf m k (List.mem_cons_of_mem _ hk))
   rw [add_none, Nat.zero_add]
   exact h1.cell hj
 | _, _, _, _, .fn h1, hf => .fn (Reps.rd h hz h2 h1 hf)
theorem Reps.rd {md : Nat} (h : md = 1 ∨ md = 2) (hz : ∀ m k, Z m k → Z' m k) (h2 : ∀ k, Z 1 k → Z' 2 k) : ∀ {s : List Shp} {d : List D} {v : List Value} {f : List Nat}, Reps w Z s d v f → (∀ m k, k ∈ f → Z' m k) → Reps w Z' (Shp.rds md s) d v []
 | _, _, _, _, .nil, _ => .nil
 | _, _, _, _, .cons h1 h3, hf => .cons (f := []) (fs := []) (Rep.rd h hz h2 h1 fun m k hk => hf m k (List.mem_append_left _ hk)) (Reps.rd h hz h2 h3 fun m k hk => hf m k (List.mem_append_right _ hk))
theorem Recs.rd {md : Nat} (h : md = 1 ∨ md = 2) (hz : ∀ m k, Z m k → Z' m k) (h2 : ∀ k, Z 1 k → Z' 2 k) : ∀ {s : List Shp} {d : List (List D)} {v : List (List Value)} {f : List Nat}, Recs w Z s d v f → (∀ m k, k ∈ f → Z' m k) → Recs w Z' (Shp.rds md s) d v []
 | _, _, _, _, .nil, _ => .nil
 | _, _, _, _, .cons h1 h3, hf => .cons (f := []) (fs := []) (Reps.rd h hz h2 h1 fun m k hk => hf m k (List.mem_append_left _ hk)) (Recs.rd h hz h2 h3 fun m k hk => hf m k (List.mem_append_right _ hk))
end
theorem mdLr_z {m m' : Nat} (h : mdLr m m' = true) (hm : m ≠ 0) (hz : ∀ m k, Z m k → Z' m k) (h2 : ∀ m k, Z m k → Z' 2 k) : m' ≠ 0 ∧ ∀ k, Z m k → Z' m' k := by
 simp only [mdLr, Bool.or_eq_true, Bool.and_eq_true, beq_iff_eq, bne_iff_ne] at h
 rcases h with rfl | ⟨rfl, _⟩
 ·exact ⟨by decide, h2 m⟩
 ·exact ⟨hm, hz m⟩
mutual
theorem Rep.leR (hz : ∀ m k, Z m k → Z' m k) (h2 : ∀ m k, Z m k → Z' 2 k) : ∀ {s : Shp} {d : D} {v : Value} {f : List Nat}, Rep w Z s d v f → ∀ {s' : Shp}, s.leR s' = true → (∀ k, k ∈ f → Z' 2 k) → Rep w Z' s' d v []
 | _, _, _, _, .v h1 h3, s', hl, _ => by
   cases s' <;> simp [Shp.leR] at hl
   obtain rfl := kEq_eq hl
   exact .v h1 h3
 | _, _, _, _, .tree (md := m) h1 h3 hc h4 h5, s', hl, hf => by
   cases s' <;> simp [Shp.leR] at hl
   obtain ⟨⟨hm, rfl⟩, hs⟩ := hl
   obtain ⟨a, b⟩ := mdLr_z hm h1 hz h2
   exact .tree a h3 hc (h4.kept (fun _ _ _ => rfl) b) (Recs.leR hz h2 h5 hs (fun _ h => by cases h))
 | _, _, _, _, .nil, s', hl, _ => by
   cases s' <;> simp [Shp.leR] at hl
   obtain ⟨⟨hm, rfl⟩, hs⟩ := hl
   obtain rfl : _ = 2 := by simpa [mdLr] using hm
   exact .tree (es := []) (css := []) (by decide) (Nat.zero_le _) (Nat.zero_le _) (fun h => absurd rfl h) .nil
 | _, _, _, _, .own (b := b) h1 h3 h4 h5 h6, s', hl, hf => by
   cases s' <;> simp [Shp.leR] at hl
   obtain ⟨⟨hm, rfl⟩, hs⟩ := hl
   obtain rfl : _ = 2 := by simpa [mdLr] using hm
   refine .tree (by decide) (Nat.le_trans h4 h5) h4 (fun hne => ⟨_, rfl, hf _ (List.mem_cons_self ..), fun j v hj => ?_⟩) (Recs.leR hz h2 h6 hs fun k hk => hf k (List.mem_cons_of_mem _ hk))
   rw [add_none, Nat.zero_add]
   exact h1.cell (app_get hj)
 | _, _, _, _, .ptr (md := m) h1 h4 h5, s', hl, hf => by
   cases s' <;> simp [Shp.leR] at hl
   obtain ⟨⟨hm, rfl⟩, hs⟩ := hl
   obtain ⟨a, b⟩ := mdLr_z hm h1 hz h2
   exact .ptr a (h4.kept (fun _ _ _ => rfl) b) (Reps.leR hz h2 h5 hs (fun _ h => by cases h))
 | _, _, _, _, .box (b := b) h1 h3, s', hl, hf => by
   cases s' <;> simp [Shp.leR] at hl
   obtain ⟨⟨hm, rfl⟩, hs⟩ := hl
   obtain rfl : _ = 2 := by simpa [mdLr] using hm
   refine .ptr (by decide) (fun hne => ⟨_, rfl, hf _ (List.mem_cons_self ..), fun j v hj => ?_⟩) (Reps.leR hz h2 h3 hs fun k hk => hf k (List.mem_cons_of_mem _ hk))
   rw [add_none, Nat.zero_add]
   exact h1.cell hj
 | _, _, _, _, .fn h1, s', hl, hf => by
   cases s' <;> simp [Shp.leR] at hl
   obtain ⟨rfl, hs⟩ := hl
   exact .fn (Reps.leR hz h2 h1 hs hf)
theorem Reps.leR (hz : ∀ m k, Z m k → Z' m k) (h2 : ∀ m k, Z m k → Z' 2 k) : ∀ {s : List Shp} {d : List D} {v : List Value} {f : List Nat}, Reps w Z s d v f → ∀ {s' : List Shp}, Shp.lesR s s' = true → (∀ k, k ∈ f → Z' 2 k) → Reps w Z' s' d v []
 | _, _, _, _, .nil, s', hl, _ => by
   cases s' <;> simp [Shp.lesR] at hl
   exact .nil
 | _, _, _, _, .cons h1 h3, s', hl, hf => by
   cases s' with
   | nil => simp [Shp.lesR] at hl
   | cons t ts =>
     simp only [Shp.lesR, Bool.and_eq_true] at hl
     exact .cons (f := []) (fs := []) (Rep.leR hz h2 h1 hl.1 fun k hk => hf k (List.mem_append_left _ hk)) (Reps.leR hz h2 h3 hl.2 fun k hk => hf k (List.mem_append_right _ hk))
theorem Recs.leR (hz : ∀ m k, Z m k → Z' m k) (h2 : ∀ m k, Z m k → Z' 2 k) : ∀ {s : List Shp} {d : List (List D)} {v : List (List Value)} {f : List Nat}, Recs w Z s d v f → ∀ {s' : List Shp}, Shp.lesR s s' = true → (∀ k, k ∈ f → Z' 2 k) → Recs w Z' s' d v []
 | _, _, _, _, .nil, _, _, _ => .nil
 | _, _, _, _, .cons h1 h3, s', hl, hf => .cons (f := []) (fs := []) (Reps.leR hz h2 h1 hl fun k hk => hf k (List.mem_append_left _ hk)) (Recs.leR hz h2 h3 hl fun k hk => hf k (List.mem_append_right _ hk))
end
mutual
theorem Rep.only (hz : ∀ k, Z 2 k → Z' 2 k) : ∀ {s : Shp} {d : D} {v : Value} {f : List Nat}, Rep w Z s d v f → s.rdo = true → Rep w Z' s d v f
 | _, _, _, _, .v h1 h3, _ => .v h1 h3
 | _, _, _, _, .tree h1 h3 hc h4 h5, hr => by
   simp only [Shp.rdo, Bool.and_eq_true, beq_iff_eq] at hr
   obtain ⟨rfl, hr⟩ := hr
   exact .tree h1 h3 hc (h4.kept (fun _ _ _ => rfl) hz) (Recs.only hz h5 hr)
 | _, _, _, _, .nil, hr => by simp [Shp.rdo] at hr
 | _, _, _, _, .own h1 h3 h4 h5 h6, hr => by simp [Shp.rdo] at hr
 | _, _, _, _, .ptr h1 h4 h5, hr => by
   simp only [Shp.rdo, Bool.and_eq_true, beq_iff_eq] at hr
   obtain ⟨rfl, hr⟩ := hr
   exact .ptr h1 (h4.kept (fun _ _ _ => rfl) hz) (Reps.only hz h5 hr)
 | _, _, _, _, .box h1 h3, hr => by simp [Shp.rdo] at hr
 | _, _, _, _, .fn h1, hr => .fn (Reps.only hz h1 hr)
theorem Reps.only (hz : ∀ k, Z 2 k → Z' 2 k) : ∀ {s : List Shp} {d : List D} {v : List Value} {f : List Nat}, Reps w Z s d v f → Shp.rdos s = true → Reps w Z' s d v f
 | _, _, _, _, .nil, _ => .nil
 | _, _, _, _, .cons h1 h3, hr => by
   simp only [Shp.rdos, Bool.and_eq_true] at hr
   exact .cons (Rep.only hz h1 hr.1) (Reps.only hz h3 hr.2)
theorem Recs.only (hz : ∀ k, Z 2 k → Z' 2 k) : ∀ {s : List Shp} {d : List (List D)} {v : List (List Value)} {f : List Nat}, Recs w Z s d v f → Shp.rdos s = true → Recs w Z' s d v f
 | _, _, _, _, .nil, _ => .nil
 | _, _, _, _, .cons h1 h3, hr => .cons (Reps.only hz h1 hr) (Recs.only hz h3 hr)
end
mutual
theorem rdo_bor : ∀ {s : Shp}, s.rdo = true → s.bor = true
 | .v _, _ => rfl
 | .l m e sub, h => by
   simp only [Shp.rdo, Bool.and_eq_true, beq_iff_eq] at h
   simp [Shp.bor, h.1, rdos_bors h.2]
 | .p m e sub, h => by
   simp only [Shp.rdo, Bool.and_eq_true, beq_iff_eq] at h
   simp [Shp.bor, h.1, rdos_bors h.2]
 | .f g sub, h => rdos_bors (s := sub) h
theorem rdos_bors : ∀ {s : List Shp}, Shp.rdos s = true → Shp.bors s = true
 | [], _ => rfl
 | s :: r, h => by
   simp only [Shp.rdos, Bool.and_eq_true] at h
   simp [Shp.bors, rdo_bor h.1, rdos_bors h.2]
end
end
/-! ### What stays of a state, by the versions -/
structure DAgr (s s' : DS) : Prop where
 ctr : s.ctr ≤ s'.ctr
 len : s'.env.length = s.env.length
 env : ∀ (t : Nat) (e : DE), s'.env[t]? = some (some e) → e.vr < s.ctr → s.env[t]? = some (some e)
 bx : ∀ (k : Nat) (b : DB), s.bx[k]? = some b → ∃ b', s'.bx[k]? = some b' ∧ b'.ty = b.ty ∧ ∀ (j : Nat) (c : Value × Nat), b'.cs[j]? = some c → c.2 < s.ctr → b.cs[j]? = some c
 tl : s.tb.length ≤ s'.tb.length
 tb : ∀ (r : Nat) (x : Te × Nat), s'.tb[r]? = some x → r < s.tb.length → x.2 < s.ctr → s.tb[r]? = some x
theorem DAgr.refl (s : DS) : DAgr s s := ⟨Nat.le_refl _, rfl, fun _ _ h _ => h, fun _ b h => ⟨b, h, rfl, fun _ _ h _ => h⟩, Nat.le_refl _, fun _ _ h _ _ => h⟩
theorem DAgr.trans {a b c : DS} (h : DAgr a b) (k : DAgr b c) : DAgr a c where
 ctr := Nat.le_trans h.ctr k.ctr
 len := k.len.trans h.len
 env := fun t e he hv => h.env t e (k.env t e he (Nat.lt_of_lt_of_le hv h.ctr)) hv
 bx := fun q x hx => by
  obtain ⟨y, h1, h2, h3⟩ := h.bx q x hx
  obtain ⟨z, k1, k2, k3⟩ := k.bx q y h1
  exact ⟨z, k1, k2.trans h2, fun j c hc hv => h3 j c (k3 j c hc (Nat.lt_of_lt_of_le hv h.ctr)) hv⟩
 tl := Nat.le_trans h.tl k.tl
 tb := fun r x hx hr hv => h.tb r x (k.tb r x hx (Nat.lt_of_lt_of_le hr h.tl) (Nat.lt_of_lt_of_le hv h.ctr)) hr hv
structure Keeps (s s' : DS) : Prop where
 env : s'.env = s.env
 pins : s'.pins = s.pins
 agr : DAgr s s'
theorem Keeps.refl (s : DS) : Keeps s s := ⟨rfl, rfl, DAgr.refl s⟩
theorem Keeps.trans {a b c : DS} (h : Keeps a b) (k : Keeps b c) : Keeps a c := ⟨k.env.trans h.env, k.pins.trans h.pins, h.agr.trans k.agr⟩
theorem get_lt {α : Type} {l : List α} {i : Nat} {x : α} (h : l[i]? = some x) : i < l.length := by
 by_cases hl : i < l.length
 ·exact hl
 ·rw [List.getElem?_eq_none (by omega)] at h; cases h
theorem Keeps.addT (s : DS) (t : Te) : Keeps s (s.addT t) :=
 ⟨rfl, rfl, Nat.le_succ _, rfl, fun _ _ h _ => h, fun _ b h => ⟨b, h, rfl, fun _ _ h _ => h⟩, by simp [DS.addT], fun r x hx hr hv => by
  simp only [DS.addT] at hx
  rwa [List.getElem?_append_left hr] at hx⟩
theorem Keeps.setT (s : DS) (r : Nat) (t : Te) : Keeps s (s.setT r t) :=
 ⟨rfl, rfl, Nat.le_succ _, rfl, fun _ _ h _ => h, fun _ b h => ⟨b, h, rfl, fun _ _ h _ => h⟩, by simp [DS.setT], fun q x hx hr hv => by
  simp only [DS.setT] at hx
  rw [List.getElem?_set] at hx
  split at hx
  ·split at hx
   ·obtain rfl := Option.some.inj hx
    exact absurd hv (Nat.lt_irrefl _)
   ·cases hx
  ·exact hx⟩
theorem killE_cases (r : Nat) (rt : Bool) (c : Nat) (x : Te × Nat) : killE r rt c x = x ∨ killE r rt c x = (.dead, c) := by
 unfold killE
 split
 ·split
  ·split
   ·exact .inl rfl
   ·exact .inr rfl
  ·exact .inl rfl
 ·exact .inl rfl
theorem Keeps.kill (s : DS) (r : Nat) (rt : Bool) : Keeps s (s.kill r rt) :=
 ⟨rfl, rfl, Nat.le_succ _, rfl, fun _ _ h _ => h, fun _ b h => ⟨b, h, rfl, fun _ _ h _ => h⟩, by simp [DS.kill], fun q x hx hr hv => by
  simp only [DS.kill, List.getElem?_map] at hx
  cases hq : s.tb[q]? with
  | none => rw [hq] at hx; cases hx
  | some y =>
    rw [hq] at hx
    obtain rfl := Option.some.inj hx
    rcases killE_cases r rt s.ctr y with h | h
    ·rw [h]
    ·rw [h] at hv; exact absurd hv (Nat.lt_irrefl _)⟩
theorem Keeps.mark (s : DS) (k : Nat) : Keeps s { s with bx := s.bx.modify k fun b => { b with cs := [] } } :=
 ⟨rfl, rfl, Nat.le_refl _, rfl, fun _ _ h _ => h, fun q b h => by
  simp only [List.getElem?_modify]
  rw [h]
  by_cases hq : k = q
  ·subst hq
   exact ⟨{ b with cs := [] }, by simp, rfl, fun j c hc => by cases hc⟩
  ·exact ⟨b, by simp [hq], rfl, fun _ _ h _ => h⟩, Nat.le_refl _, fun _ _ h _ _ => h⟩
/-! ### Trees come into the state -/
section
variable {cx : Cx} {hd : List Value} {E : Nat → Nat → Prop} {Z : Nat → Nat → Prop} {F : Nat → List Nat} {lt : Option Nat} {lo : List Nat} {I : Nat → Prop} {w : World}
theorem Tk.perm {tb : List (Te × Nat)} {lo' : List Nat} (h : Tk cx tb hd E Z F lt lo I w) (hp : ∀ k, k ∈ lo ↔ k ∈ lo') (hn : lo'.Nodup) : Tk cx tb hd E Z F lt lo' I w where
 hl := h.hl
 te := fun r t c ht => by
  obtain ⟨v, h1, h2⟩ := h.te r t c ht
  refine ⟨v, h1, h2.mono (fun _ _ _ => rfl) (fun _ _ h => h) (Ext.refl _) (fun _ _ h => h) rfl (fun r0 pos e sub es _ m k hk => ?_) fun k hk => (h.sp.fm r k hk).1⟩
  rcases hk with hk | hk | hk | ⟨hk, hl⟩
  ·exact .inl hk
  ·exact .inr (.inl hk)
  ·exact .inr (.inr (.inl hk))
  ·exact .inr (.inr (.inr ⟨hk, (hp k).1 hl⟩))
 f0 := h.f0
 sp := ⟨h.sp.fd, h.sp.fj, hn, fun r k hk => h.sp.lf r k ((hp k).2 hk), fun k hk => ⟨fun hm => (h.sp.il k hk).1 ((hp k).2 hm), (h.sp.il k hk).2⟩, fun m k hk => let ⟨a, b, c, d⟩ := h.sp.z m k hk; ⟨a, b, fun hm => c ((hp k).2 hm), d⟩, h.sp.z2, h.sp.fm, fun k hk => h.sp.lm k ((hp k).2 hk), h.sp.im⟩
 n0 := h.n0
 np := h.np
theorem crf_crl {xs ys : List Value} (h : All2 (CRf hd E) xs ys) (hn : xs.all notFn = true) : All2 (CRl hd E) xs ys := by
 induction h with
 | nil => exact .nil
 | @cons a b l m h1 _ ih =>
   simp only [List.all_cons, Bool.and_eq_true] at hn
   refine .cons ?_ (ih hn.2)
   cases a <;> first | exact h1 | (simp [notFn] at hn)
theorem crl_crf {xs ys : List Value} (h : All2 (CRl hd E) xs ys) : All2 (CRf hd E) xs ys := by
 refine h.mono fun a b h => ?_
 cases a <;> first | exact h | (have := h.1; simp [constV] at this; done)
theorem slV_cr {hd : List Value} {n : Nat} {y : Value} (hn : hd.length = n) (hy : ∃ A m c, y = .slice A m c) : CRf (hd ++ [y]) E (slV n) y := by
 refine ⟨by simp [evenB], hy, ?_⟩
 show (hd ++ [y])[2 * n / 2]? = some y
 rw [Nat.mul_div_cancel_left _ (by decide), ← hn]
 simp
theorem ptV_cr {hd : List Value} {n : Nat} {y : Value} (hn : hd.length = n) (hy : ∃ A, y = .pointer A) : CRf (hd ++ [y]) E (ptV n) y := by
 refine .inl ⟨by simp [evenB], rfl, hy, ?_⟩
 show (hd ++ [y])[2 * n / 2]? = some y
 rw [Nat.mul_div_cancel_left _ (by decide), ← hn]
 simp
theorem flat_plain {k : Ck} {x : Value} (h1 : flatK k = true) (h2 : k.fits x = true) : plainV x = true := by
 cases k <;> cases x <;> first | rfl | (simp [flatK] at h1; done) | (simp [Ck.fits] at h2; done)
theorem Rep.slice {md : Nat} {e : TypeId} {sub : List Shp} {d : D} {y : Value} {f : List Nat} (h : Rep w Z (.l md e sub) d y f) : ∃ A m c, y = .slice A m c := by
 cases h <;> exact ⟨_, _, _, rfl⟩
def MatOk (cx : Cx) (hd : List Value) (E : Nat → Nat → Prop) (Z : Nat → Nat → Prop) (lo : List Nat) (I : Nat → Prop) (w : World) (s s' : DS) (P : List Value → Prop) : Prop :=
 ∃ hd' F', Tk cx s'.tb hd' E Z F' none lo I w ∧ Ext hd hd' ∧ Keeps s s' ∧ s'.bx = s.bx ∧ P hd'
mutual
theorem mat_ok : ∀ (sh : Shp) (d : D) (s : DS) (hd : List Value) (F : Nat → List Nat) (lo : List Nat) (y v : Value) (f : List Nat) (s' : DS), Tk cx s.tb hd E Z F none (f ++ lo) I w → Rep w Z sh d y f → mat sh d s = some (v, s') →
 MatOk cx hd E Z lo I w s s' fun hd' => CRf hd' E v y
 | .v k, d, s, hd, F, lo, y, v, f, s', h, hR, hm => by
   cases hR with
   | v h1 h2 =>
     simp only [mat, h1, h2, Bool.and_self, if_true, Option.some.injEq, Prod.mk.injEq] at hm
     obtain ⟨rfl, rfl⟩ := hm
     exact ⟨hd, F, h, Ext.refl _, Keeps.refl _, rfl, CRf.plain (flat_plain h1 h2)⟩
 | .l md e sub, d, s, hd, F, lo, y, v, f, s', h, hR, hm => by
   have hy := hR.slice
   have hd0 : ∃ es, d = .l es := by cases hR <;> exact ⟨_, rfl⟩
   obtain ⟨es, rfl⟩ := hd0
   simp only [mat, Option.some.injEq, Prod.mk.injEq] at hm
   obtain ⟨rfl, rfl⟩ := hm
   refine ⟨hd ++ [y], _, h.add (v := y) (t := .row md e sub es) ?_, Ext.app _ _, Keeps.addT _ _, rfl, slV_cr h.hl hy⟩
   show Rep w Z _ _ _ _
   rw [upd_same]
   exact hR
 | .p md t sub, d, s, hd, F, lo, y, v, f, s', h, hR, hm => by
   have key : ∀ (ds : List D) (cs : List Value) (fs : List Nat) (b : List Nat), d = .p ds → f = b ++ fs → Reps w Z sub ds cs fs → (∃ A, y = .pointer A) →
    ((md = 0 ∧ ∃ q, y = .pointer (some ⟨q, 0, none⟩) ∧ b = [q] ∧ Box w q cs t) ∨ (md ≠ 0 ∧ ∃ p, y = .pointer (some p) ∧ b = [] ∧ CatZ w (Z md) (some p) cs)) → MatOk cx hd E Z lo I w s s' fun hd' => CRf hd' E v y := by
    intro ds cs fs b hde hf hRs hy hc
    subst hde
    simp only [mat] at hm
    cases hms : mats sub ds s with
    | none => rw [hms] at hm; cases hm
    | some x =>
      obtain ⟨cv, s1⟩ := x
      rw [hms] at hm
      simp only [Option.some.injEq, Prod.mk.injEq] at hm
      obtain ⟨rfl, rfl⟩ := hm
      subst hf
      have hnd := h.sp.ln
      have h' : Tk cx s.tb hd E Z F none (fs ++ (b ++ lo)) I w := h.perm (fun k => by
       simp only [List.mem_append]
       exact ⟨fun hk => hk.elim (fun hk => hk.elim (fun h => .inr (.inl h)) .inl) (fun h => .inr (.inr h)), fun hk => hk.elim (fun h => .inl (.inr h)) (fun hk => hk.elim (fun h => .inl (.inl h)) .inr)⟩) (by
       rw [List.append_assoc] at hnd
       refine (List.Perm.nodup_iff ?_).1 hnd
       rw [← List.append_assoc, ← List.append_assoc]
       exact List.Perm.append_right lo List.perm_append_comm)
      obtain ⟨hd1, F1, k1, k2, k3, k4, k5⟩ := mats_ok sub ds s hd F (b ++ lo) cs cv fs s1 h' hRs hms
      refine ⟨hd1 ++ [y], _, k1.add (v := y) (t := .pbx md t cv) ⟨cs, k5.mono fun _ _ h => h.mono (Ext.app _ _) (fun _ _ h => h), ?_⟩, k2.trans (Ext.app _ _), k3.trans (Keeps.addT _ _), k4, ptV_cr k1.hl hy⟩
      rw [upd_same]
      exact hc
   cases hR with
   | ptr h1 h2 h3 => exact key _ _ [] [] rfl rfl h3 ⟨_, rfl⟩ (.inr ⟨h1, _, rfl, rfl, h2⟩)
   | box h1 h2 => exact key _ _ _ [_] rfl rfl h2 ⟨_, rfl⟩ (.inl ⟨rfl, _, rfl, rfl, h1⟩)
 | .f g sub, d, s, hd, F, lo, y, v, f, s', h, hR, hm => by
   cases hR with
   | fn h1 =>
     rename_i ds cs
     simp only [mat] at hm
     cases hms : mats sub ds s with
     | none => rw [hms] at hm; cases hm
     | some x =>
       obtain ⟨cv, s1⟩ := x
       rw [hms] at hm
       simp only at hm
       split at hm
       ·rename_i hnf
        simp only [Option.some.injEq, Prod.mk.injEq] at hm
        obtain ⟨rfl, rfl⟩ := hm
        obtain ⟨hd1, F1, k1, k2, k3, k4, k5⟩ := mats_ok sub ds s hd F lo cs cv f s1 h h1 hms
        exact ⟨hd1, F1, k1, k2, k3, k4, g, cs, rfl, rfl, rfl, by simpa using crf_crl k5 hnf⟩
       ·cases hm
theorem mats_ok : ∀ (sh : List Shp) (d : List D) (s : DS) (hd : List Value) (F : Nat → List Nat) (lo : List Nat) (y v : List Value) (f : List Nat) (s' : DS), Tk cx s.tb hd E Z F none (f ++ lo) I w → Reps w Z sh d y f → mats sh d s = some (v, s') →
 MatOk cx hd E Z lo I w s s' fun hd' => All2 (CRf hd' E) v y
 | [], d, s, hd, F, lo, y, v, f, s', h, hR, hm => by
   cases hR
   simp only [mats, Option.some.injEq, Prod.mk.injEq] at hm
   obtain ⟨rfl, rfl⟩ := hm
   exact ⟨hd, F, h, Ext.refl _, Keeps.refl _, rfl, .nil⟩
 | sh :: shs, d, s, hd, F, lo, y, v, f, s', h, hR, hm => by
   cases hR with
   | @cons _ _ d0 ds v0 vs f0 fs h1 h2 =>
     simp only [mats] at hm
     cases hm1 : mat sh d0 s with
     | none => rw [hm1] at hm; cases hm
     | some x =>
       obtain ⟨a, s1⟩ := x
       rw [hm1] at hm
       simp only at hm
       cases hm2 : mats shs ds s1 with
       | none => rw [hm2] at hm; cases hm
       | some x2 =>
         obtain ⟨as, s2⟩ := x2
         rw [hm2] at hm
         simp only [Option.some.injEq, Prod.mk.injEq] at hm
         obtain ⟨rfl, rfl⟩ := hm
         rw [List.append_assoc] at h
         obtain ⟨hd1, F1, k1, k2, k3, k4, k5⟩ := mat_ok sh d0 s hd F (fs ++ lo) v0 a f0 s1 h h1 hm1
         obtain ⟨hd2, F2, j1, j2, j3, j4, j5⟩ := mats_ok shs ds s1 hd1 F1 lo vs as fs s2 k1 h2 hm2
         exact ⟨hd2, F2, j1, k2.trans j2, k3.trans j3, j4.trans k4, .cons (k5.mono j2 fun _ _ h => h) j5⟩
end
end
end Go.Dw
end
section
namespace Go.Dw
open Go Go.Cw
set_option linter.unusedVariables false
structure Bw (bx : List DB) (hd : List Value) (E E0 : Nat → Nat → Prop) (I : Nat → Prop) (w : World) : Prop where
 inj : ∀ k k' b, E0 k b → E0 k' b → k = k'
 sub : ∀ k b, E k b → E0 k b
 bi : ∀ (k : Nat) (x : DB) (b : Nat), bx[k]? = some x → x.cs ≠ [] → E0 k b → I b
 ats : ∀ (k : Nat) (x : DB) (b : Nat), bx[k]? = some x → x.cs ≠ [] → E k b → ∃ cs', All2 (CRf hd E) (x.cs.map (·.1)) cs' ∧ Box w b cs' x.ty
def Zr (Z : Nat → Nat → Prop) (F : Nat → List Nat) (I : Nat → Prop) : Nat → Nat → Prop := fun m k => Z m k ∨ (m = 2 ∧ ((∃ r, k ∈ F r) ∨ I k))
theorem upd_nil {F : Nat → List Nat} {r : Nat} (h : F r = []) : upd F r [] = F := by
 funext q
 unfold upd
 split
 ·rename_i hq; subst hq; exact h.symm
 ·rfl
section
variable {cx : Cx} {hd : List Value} {E E0 : Nat → Nat → Prop} {Z : Nat → Nat → Prop} {F : Nat → List Nat} {lt : Option Nat} {lo : List Nat} {I : Nat → Prop} {w : World}
theorem tbAt_some {s : DS} {r : Nat} {t : Te} (h : s.tbAt r = t) (hn : t ≠ .dead) : ∃ c, s.tb[r]? = some (t, c) := by
 unfold DS.tbAt at h
 cases hr : s.tb[r]? with
 | none => rw [hr] at h; exact absurd h.symm hn
 | some x => rw [hr] at h; exact ⟨x.2, by rw [← h]⟩
theorem Rep.tree_nil {md : Nat} {e : TypeId} {sub : List Shp} {d : D} {y : Value} {f : List Nat} (h : Rep w Z (.l md e sub) d y f) (h0 : md ≠ 0) : f = [] := by
 cases h <;> first | rfl | exact absurd rfl h0
theorem matsV_ok {own : Bool} {r : Nat} {rt : Bool} {Z0 : Nat → Nat → Prop} : ∀ (sub : List Shp) (ds : List D) (s : DS) (hd : List Value) (ys vs : List Value) (f : List Nat) (s' : DS), Tk cx s.tb hd E Z F none lo I w → Reps w Z0 sub ds ys f →
 (∀ m k, Z0 m k → Vw Z F none lo r rt m k) → (∀ k, Z0 1 k → Vw Z F none lo r rt 2 k) → (∀ m k, k ∈ f → Vw Z F none lo r rt m k) → (own = true → ∀ m k, Z0 m k → Z m k) → matsV own r rt sub ds s = some (vs, s') →
 ∃ hd', Tk cx s'.tb hd' E Z F none lo I w ∧ Ext hd hd' ∧ Keeps s s' ∧ s'.bx = s.bx ∧ All2 (CRf hd' E) vs ys
 | [], ds, s, hd, ys, vs, f, s', h, hR, h1, h2, h3, h4, hm => by
   cases hR
   simp only [matsV, Option.some.injEq, Prod.mk.injEq] at hm
   obtain ⟨rfl, rfl⟩ := hm
   exact ⟨hd, h, Ext.refl _, Keeps.refl _, rfl, .nil⟩
 | t :: ts, ds, s, hd, ys, vs, f, s', h, hR, h1, h2, h3, h4, hm => by
   cases hR with
   | @cons _ _ d0 ds v0 vs0 f0 fs r1 r2 =>
     simp only [matsV] at hm
     have h3' : ∀ m k, k ∈ fs → Vw Z F none lo r rt m k := fun m k hk => h3 m k (List.mem_append_right _ hk)
     split at hm
     ·rename_i k x
      split at hm
      ·rename_i hk
       simp only [Bool.and_eq_true] at hk
       cases hm2 : matsV own r rt ts ds s with
       | none => rw [hm2] at hm; cases hm
       | some y =>
         obtain ⟨as, s1⟩ := y
         rw [hm2] at hm
         simp only [Option.some.injEq, Prod.mk.injEq] at hm
         obtain ⟨rfl, rfl⟩ := hm
         obtain ⟨hd1, k1, k2, k3, k4, k5⟩ := matsV_ok ts ds s hd vs0 as fs s1 h r2 h1 h2 h3' h4 hm2
         cases r1
         exact ⟨hd1, k1, k2, k3, k4, .cons (CRf.plain (flat_plain hk.1 hk.2)) k5⟩
      ·cases hm
     ·rename_i md e sub es
      split at hm
      ·rename_i hmd
       have hF : F s.tb.length = [] := h.f0 _ (Nat.le_refl _)
       have hy := r1.slice
       have hte : TeOk w Z (hd ++ [v0]) E F none lo s.tb.length v0 (if own && md == 1 then .row md e sub es else .view r rt e (Shp.rds 2 sub) es) := by
        split
        ·rename_i ho
         simp only [Bool.and_eq_true, beq_iff_eq] at ho
         obtain ⟨ho, rfl⟩ := ho
         have hn := r1.tree_nil (by decide)
         subst hn
         show Rep w Z (.l 1 e sub) (.l es) v0 (F s.tb.length)
         rw [hF]
         exact r1.kept (fun _ _ _ _ => rfl) (h4 ho) fun _ h => by cases h
        ·have hR1 := Rep.rd (md := 2) (.inr rfl) h1 h2 r1 fun m k hk => h3 m k (List.mem_append_left _ hk)
         have hsh : (Shp.l md e sub).rd 2 = .l 2 e (Shp.rds 2 sub) := by
          simp only [Shp.rd]
          congr 1
          by_cases h0 : md = 0
          ·simp [h0]
          ·by_cases h1 : md = 1
           ·simp [h1]
           ·have : md = 2 := by omega
            simp [this]
         rw [hsh] at hR1
         exact ⟨hF, hR1⟩
       generalize (if own && md == 1 then Te.row md e sub es else .view r rt e (Shp.rds 2 sub) es) = te at hm hte
       cases hm2 : matsV own r rt ts ds (s.addT te) with
       | none => rw [hm2] at hm; cases hm
       | some y =>
         obtain ⟨as, s1⟩ := y
         rw [hm2] at hm
         simp only [Option.some.injEq, Prod.mk.injEq] at hm
         obtain ⟨rfl, rfl⟩ := hm
         have hadd := Tk.add (f := []) h (v := v0) (t := te) (c := s.ctr) (by rw [upd_nil hF]; exact hte)
         rw [upd_nil hF] at hadd
         obtain ⟨hd1, k1, k2, k3, k4, k5⟩ := matsV_ok ts ds (s.addT te) (hd ++ [v0]) vs0 as fs s1 hadd r2 h1 h2 h3' h4 hm2
         exact ⟨hd1, k1, (Ext.app _ _).trans k2, (Keeps.addT _ _).trans k3, k4, .cons ((slV_cr h.hl hy).mono k2 fun _ _ h => h) k5⟩
      ·cases hm
     ·cases hm
theorem crf_nil {n c : Nat} {y : Value} (h : CRf hd E (.slice none n c) y) : y = .slice none n c := h.2.2
theorem rdo_of {s : Shp} {d : D} {v : Value} {f : List Nat} {s' : Shp} {Z0 : Nat → Nat → Prop} {Q : Nat → Prop} (h : Rep w Z0 s d v f) (hle : s.le s' = true) (hr : s'.rdo = true) (hn : f.Nodup) (h1 : ∀ m k, Z0 m k → Q k) (h2 : ∀ k ∈ f, Q k)
 {Z' : Nat → Nat → Prop} (hz : ∀ k, Q k → Z' 2 k) : Rep w Z' s' d v [] := by
 obtain ⟨f', hw⟩ := Rep.le h hle
 have := hw.go hn (fun _ k => Q k) h1 (fun k hk => h1 1 k hk) (fun m k hk _ => h2 k hk)
 obtain rfl := Rep.bor this (rdo_bor hr)
 exact Rep.only hz this hr
mutual
theorem toD_ok : ∀ (sh : Shp) (v y : Value) (s : DS) (d : D), Tk cx s.tb hd E Z F none lo I w → Bw s.bx hd E E0 I w → CRf hd E v y → toD s sh v = some d → Rep w (Zr Z F I) sh d y []
 | .v k, v, y, s, d, h, hb, hv, ht => by
   simp only [toD] at ht
   split at ht
   ·rename_i hk
    simp only [Bool.and_eq_true] at hk
    obtain rfl := Option.some.inj ht
    obtain rfl := hv.of_plain (flat_plain hk.1 hk.2)
    exact .v hk.1 hk.2
   ·cases ht
 | .l md e sub, v, y, s, d, h, hb, hv, ht => by
   simp only [toD] at ht
   split at ht
   ·split at ht
    ·rename_i hmd
     obtain rfl : md = 2 := by simpa using hmd
     obtain rfl := Option.some.inj ht
     obtain rfl := crf_nil hv
     exact .tree (es := []) (css := []) (by decide) (Nat.zero_le _) (Nat.zero_le _) (fun h => absurd rfl h) .nil
    ·cases ht
   ·rename_i p _ _
    split at ht
    ·rename_i hmd
     simp only [Bool.and_eq_true, beq_iff_eq] at hmd
     obtain ⟨_, rfl⟩ := hmd
     obtain ⟨_, _, hy⟩ := hv
     split at ht
     ·rename_i md' e' sub' es htb
      split at ht
      ·rename_i hle
       obtain rfl := Option.some.inj ht
       obtain ⟨c, v', h1, h2, h3⟩ := h.at htb (by simp)
       rw [hy] at h2
       obtain rfl := Option.some.inj h2
       exact Rep.leR (fun m k hk => .inl hk) (fun m k hk => .inl (h.sp.z2 m k hk)) h3 hle (fun k hk => .inr ⟨rfl, .inl ⟨_, hk⟩⟩)
      ·cases ht
     ·rename_i r0 rt e' sub' es htb
      split at ht
      ·rename_i hle
       simp only [Bool.and_eq_true] at hle
       obtain rfl := Option.some.inj ht
       obtain ⟨c, v', h1, h2, h3⟩ := h.at htb (by simp)
       rw [hy] at h2
       obtain rfl := Option.some.inj h2
       refine rdo_of (Q := fun k => Zr Z F I 2 k) h3.2 hle.1 (by simp only [Shp.rdo, hle.2]; rfl) .nil (fun m k hk => ?_) (fun _ h => by cases h) fun k hk => hk
       rcases hk with hk | ⟨_, hk⟩ | hk | ⟨hk, _⟩
       ·exact .inl (h.sp.z2 m k hk)
       ·exact .inr ⟨rfl, .inl ⟨_, hk⟩⟩
       ·exact .inr ⟨rfl, .inl ⟨_, List.mem_of_mem_tail hk⟩⟩
       ·cases hk
      ·cases ht
     ·cases ht
    ·cases ht
   ·cases ht
 | .p md t sub, v, y, s, d, h, hb, hv, ht => by
   simp only [toD] at ht
   split at ht
   ·rename_i p
    split at ht
    ·rename_i hp
     obtain rfl := hp.2
     split at ht
     ·rename_i hev
      split at ht
      ·rename_i md' t' cs htb
       split at ht
       ·rename_i hmd
        cases hds : toDs s sub cs with
        | none => rw [hds] at ht; cases ht
        | some ds =>
          rw [hds] at ht
          obtain rfl := Option.some.inj ht
          obtain ⟨c, v', h1, h2, cs', h3, h4⟩ := h.at htb (by simp)
          rcases hv with ⟨_, _, _, hy⟩ | ⟨hv, _⟩
          ·rw [hy] at h2
           obtain rfl := Option.some.inj h2
           have hRs := toDs_ok sub cs cs' s ds h hb h3 hds
           rcases h4 with ⟨_, b, rfl, hF, hB⟩ | ⟨h0, q, rfl, hF, hC⟩
           ·refine .ptr (by decide) (fun hne => ⟨_, rfl, .inr ⟨rfl, .inl ⟨_, by rw [hF]; simp⟩⟩, fun j u hj => ?_⟩) hRs
            rw [add_none, Nat.zero_add]
            exact hB.cell hj
           ·exact .ptr (by decide) (hC.kept (fun _ _ _ => rfl) fun k hk => .inl (h.sp.z2 _ k hk)) hRs
          ·rw [hv] at hev; cases hev
       ·cases ht
      ·cases ht
     ·rename_i hev
      split at ht
      ·rename_i b htb
       split at ht
       ·rename_i hc
        simp only [Bool.and_eq_true, Bool.not_eq_true', List.isEmpty_eq_false_iff, beq_iff_eq] at hc
        cases hds : toDs s sub (b.cs.map (·.1)) with
        | none => rw [hds] at ht; cases ht
        | some ds =>
          rw [hds] at ht
          obtain rfl := Option.some.inj ht
          rcases hv with ⟨hv, _⟩ | ⟨_, g, hE, rfl⟩
          ·exact absurd hv hev
          ·obtain ⟨cs', h3, hB⟩ := hb.ats _ _ _ htb hc.2 hE
           have hI := hb.bi _ _ _ htb hc.2 (hb.sub _ _ hE)
           have hRs := toDs_ok sub _ cs' s ds h hb h3 hds
           rw [hp.1]
           refine .ptr (by decide) (fun hne => ⟨_, rfl, .inr ⟨rfl, .inr hI⟩, fun j u hj => ?_⟩) hRs
           rw [add_none, Nat.zero_add]
           exact hB.cell hj
       ·cases ht
      ·cases ht
    ·cases ht
   ·cases ht
 | .f g sub, v, y, s, d, h, hb, hv, ht => by
   simp only [toD] at ht
   split at ht
   ·rename_i g' fst cap
    split at ht
    ·split at ht
     ·rename_i hg
      cases hds : toDs s sub cap.toList with
      | none => rw [hds] at ht; cases ht
      | some ds =>
        rw [hds] at ht
        obtain rfl := Option.some.inj ht
        obtain ⟨g2, cs, h1, h2, rfl, h4⟩ := hv
        simp only [Fn.func.injEq] at h1
        subst h1
        have := beq_iff_eq.1 hg
        subst this
        exact .fn (toDs_ok sub _ cs s ds h hb (crl_crf h4) hds)
     ·cases ht
    ·cases ht
   ·cases ht
theorem toDs_ok : ∀ (sh : List Shp) (v y : List Value) (s : DS) (d : List D), Tk cx s.tb hd E Z F none lo I w → Bw s.bx hd E E0 I w → All2 (CRf hd E) v y → toDs s sh v = some d → Reps w (Zr Z F I) sh d y []
 | [], v, y, s, d, h, hb, hv, ht => by
   simp only [toDs] at ht
   split at ht
   ·obtain rfl := Option.some.inj ht
    cases hv
    exact .nil
   ·cases ht
 | t :: ts, v, y, s, d, h, hb, hv, ht => by
   simp only [toDs] at ht
   split at ht
   ·rename_i a as
    split at ht
    ·rename_i d1 ds h1 h2
     obtain rfl := Option.some.inj ht
     cases hv with
     | cons v1 v2 =>
       exact .cons (f := []) (fs := []) (toD_ok t a _ s d1 h hb v1 h1) (toDs_ok ts as _ s ds h hb v2 h2)
    ·cases ht
   ·cases ht
end
end
end Go.Dw
end
section
namespace Go.Dw
open Go Go.Cw
set_option linter.unusedVariables false
section
variable {cx : Cx} {hd : List Value} {E E0 : Nat → Nat → Prop} {Z : Nat → Nat → Prop} {F : Nat → List Nat} {lt : Option Nat} {lo : List Nat} {I : Nat → Prop} {w : World}
theorem set_get {α : Type} {l : List α} {r q : Nat} {a b : α} (h : (l.set r a)[q]? = some b) : (q = r ∧ b = a ∧ q < l.length) ∨ (q ≠ r ∧ l[q]? = some b) := by
 rw [List.getElem?_set] at h
 split at h
 ·rename_i hq
  split at h
  ·rename_i hlt
   exact .inl ⟨hq.symm, (Option.some.inj h).symm, hq ▸ hlt⟩
  ·cases h
 ·rename_i hq
  exact .inr ⟨fun e => hq e.symm, h⟩
theorem Tk.out {s : DS} {r : Nat} {x : Te × Nat} {f' : List Nat} {t : Te} {v : Value} (h : Tk cx s.tb hd E Z F lt lo I w) (hr : s.tb[r]? = some x) (hv : hd[r]? = some v) (hf : ∀ k ∈ f', k ∈ F r) (hn : f'.Nodup)
 (ht : TeOk w (fun m k => Z m k ∨ (k ∈ F r ∧ ¬ k ∈ f')) hd E (upd F r []) lt (f' ++ lo) r v t) (hnv : ∀ rt e sub es, t ≠ .view r rt e sub es) :
 Tk cx ((s.setT r t).kill r false).tb hd E (fun m k => Z m k ∨ (k ∈ F r ∧ ¬ k ∈ f')) (upd F r []) lt (f' ++ lo) I w := by
 have hsp : Sp (upd F r []) (f' ++ lo) I (fun m k => Z m k ∨ (k ∈ F r ∧ ¬ k ∈ f')) w.heap.size (fun k => 0 < k ∧ (cx.w0.heap.size ≤ k ∨ cx.M k)) := by
  refine h.sp.gen (Nat.le_refl _) .nil ?_ (fun k hk => by cases hk) ?_ ?_ ?_ (.inl rfl)
  ·rw [List.nodup_append]
   exact ⟨hn, h.sp.ln, fun a ha b hb hab => h.sp.lf r a (hab ▸ hb) (hf a ha)⟩
  ·intro k hk
   rcases hk with hk | hk
   ·cases hk
   ·rcases List.mem_append.1 hk with hk | hk
    ·exact .inl (hf k hk)
    ·exact .inr (.inl hk)
  ·intro m k hk
   rcases hk with hk | ⟨hk, hk'⟩
   ·exact .inl hk
   ·refine .inr ⟨.inl hk, by simp, fun hm => ?_⟩
    rcases List.mem_append.1 hm with hm | hm
    ·exact hk' hm
    ·exact h.sp.lf r k hm hk
  ·intro m k hk
   rcases hk with hk | hk
   ·exact .inl (h.sp.z2 m k hk)
   ·exact .inr hk
 refine ⟨by simp [DS.setT, DS.kill, h.hl], fun q t' c' hq => ?_, fun q hq => ?_, hsp, h.n0, h.np⟩
 ·simp only [DS.kill, DS.setT, List.getElem?_map] at hq
  cases hq2 : (s.tb.set r (t, s.ctr))[q]? with
  | none => rw [hq2] at hq; cases hq
  | some y =>
    rw [hq2] at hq
    have hq := Option.some.inj hq
    rcases set_get hq2 with ⟨rfl, rfl, _⟩ | ⟨hne, hq3⟩
    ·refine ⟨v, hv, ?_⟩
     have hk : killE q false (s.ctr + 1) (t, s.ctr) = (t, s.ctr) := by
      unfold killE
      split
      ·rename_i r' rt e sub es vv heq
       obtain ⟨rfl, rfl⟩ := Prod.mk.inj heq
       split
       ·rename_i h0
        exact absurd (h0 ▸ rfl) (hnv rt e sub es)
       ·rfl
      ·rfl
     rw [hk] at hq
     obtain ⟨rfl, rfl⟩ := Prod.mk.inj hq
     exact ht
    ·obtain ⟨y1, y2⟩ := y
     obtain ⟨v', h1, h2⟩ := h.te q y1 y2 hq3
     refine ⟨v', h1, ?_⟩
     have hkd := killE_cases r false (s.ctr + 1) (y1, y2)
     have hFq : ∀ k ∈ F q, k < w.heap.size := fun k hk => (h.sp.fm q k hk).1
     by_cases hvr : ∃ rt e sub es, y1 = .view r rt e sub es
     ·obtain ⟨rt, e, sub, es, rfl⟩ := hvr
      simp only [killE, if_true, Bool.false_and, Bool.false_eq_true, if_false] at hq
      obtain ⟨rfl, rfl⟩ := Prod.mk.inj hq
      show upd F r [] q = []
      rw [upd_ne _ _ hne]
      exact h2.1
     ·have hk : killE r false (s.ctr + 1) (y1, y2) = (y1, y2) := by
       unfold killE
       split
       ·rename_i r' rt e sub es vv heq
        obtain ⟨rfl, rfl⟩ := Prod.mk.inj heq
        split
        ·rename_i h0
         exact absurd ⟨rt, e, sub, es, by rw [h0]⟩ hvr
        ·rfl
       ·rfl
      rw [hk] at hq
      obtain ⟨rfl, rfl⟩ := Prod.mk.inj hq
      refine h2.mono (fun _ _ _ => rfl) (fun _ _ h => .inl h) (Ext.refl _) (fun _ _ h => h) (upd_ne _ _ hne) (fun r0 rt e sub es he m k hk => ?_) hFq
      have hne0 : r0 ≠ r := fun e0 => hvr ⟨rt, e, sub, es, by rw [he, e0]⟩
      rcases hk with hk | ⟨hp, hk⟩ | hk | ⟨hl, hk⟩
      ·exact .inl (.inl hk)
      ·exact .inr (.inl ⟨hp, by rw [upd_ne _ _ hne0]; exact hk⟩)
      ·exact .inr (.inr (.inl (by rw [upd_ne _ _ hne0]; exact hk)))
      ·exact .inr (.inr (.inr ⟨hl, List.mem_append_right _ hk⟩))
 ·simp only [DS.kill, DS.setT, List.length_map, List.length_set] at hq
  have hlt := get_lt hr
  rw [upd_ne _ _ (by omega)]
  exact h.f0 q hq
theorem Tk.freeze {s : DS} {r : Nat} {x : Te × Nat} {t : Te} {v : Value} (h : Tk cx s.tb hd E Z F lt lo I w) (hr : s.tb[r]? = some x) (hv : hd[r]? = some v)
 (ht : TeOk w (fun m k => Z m k ∨ k ∈ F r) hd E (upd F r []) lt lo r v t) : Tk cx (s.setT r t).tb hd E (fun m k => Z m k ∨ k ∈ F r) (upd F r []) lt lo I w := by
 have hsp : Sp (upd F r []) lo I (fun m k => Z m k ∨ k ∈ F r) w.heap.size (fun k => 0 < k ∧ (cx.w0.heap.size ≤ k ∨ cx.M k)) := by
  refine h.sp.gen (Nat.le_refl _) .nil h.sp.ln (fun k hk => by cases hk) (fun k hk => ?_) (fun m k hk => ?_) (fun m k hk => ?_) (.inl rfl)
  ·rcases hk with hk | hk
   ·cases hk
   ·exact .inr (.inl hk)
  ·rcases hk with hk | hk
   ·exact .inl hk
   ·exact .inr ⟨.inl hk, by simp, fun hm => h.sp.lf r k hm hk⟩
  ·rcases hk with hk | hk
   ·exact .inl (h.sp.z2 m k hk)
   ·exact .inr hk
 refine ⟨by simp [DS.setT, h.hl], fun q t' c' hq => ?_, fun q hq => ?_, hsp, h.n0, h.np⟩
 ·simp only [DS.setT] at hq
  rcases set_get hq with ⟨rfl, hq, _⟩ | ⟨hne, hq3⟩
  ·obtain ⟨rfl, rfl⟩ := Prod.mk.inj hq
   exact ⟨v, hv, ht⟩
  ·obtain ⟨v', h1, h2⟩ := h.te q t' c' hq3
   refine ⟨v', h1, h2.mono (fun _ _ _ => rfl) (fun _ _ h => .inl h) (Ext.refl _) (fun _ _ h => h) (upd_ne _ _ hne) (fun r0 rt e sub es he m k hk => ?_) fun k hk => (h.sp.fm q k hk).1⟩
   by_cases h0 : r0 = r
   ·subst h0
    rcases hk with hk | ⟨hp, hk⟩ | hk | ⟨hl, hk⟩
    ·exact .inl (.inl hk)
    ·exact .inl (.inr hk)
    ·exact .inl (.inr (List.mem_of_mem_tail hk))
    ·exact .inr (.inr (.inr ⟨hl, hk⟩))
   ·rcases hk with hk | ⟨hp, hk⟩ | hk | hk
    ·exact .inl (.inl hk)
    ·exact .inr (.inl ⟨hp, by rw [upd_ne _ _ h0]; exact hk⟩)
    ·exact .inr (.inr (.inl (by rw [upd_ne _ _ h0]; exact hk)))
    ·exact .inr (.inr (.inr hk))
 ·simp only [DS.setT, List.length_set] at hq
  have hlt := get_lt hr
  rw [upd_ne _ _ (by omega)]
  exact h.f0 q hq
structure Tkn (cx : Cx) (s s' : DS) (hd : List Value) (E E0 : Nat → Nat → Prop) (Z Z' : Nat → Nat → Prop) (F F' : Nat → List Nat) (lt : Option Nat) (lo : List Nat) (I I' : Nat → Prop) (w : World) (f : List Nat) : Prop where
 tk : Tk cx s'.tb hd E Z' F' lt (f ++ lo) I' w
 bw : lt = none → Bw s'.bx hd E E0 I' w
 z : ∀ m k, Z m k → Z' m k
 i : ∀ k, I' k → I k
 keeps : Keeps s s'
 tl : s'.tb.length = s.tb.length
 bl : s'.bx.length = s.bx.length
 bx : ∀ (k : Nat) (b : DB), s'.bx[k]? = some b → ∃ b', s.bx[k]? = some b' ∧ b.ty = b'.ty ∧ (b.cs = b'.cs ∨ b.cs = [])
 own : ∀ k, k ∈ f → (∃ r, k ∈ F r) ∨ ∃ q, E q k
 zn : ∀ m k, Z' m k → Z m k ∨ ∃ r, k ∈ F r
 ii : lt.isSome = true → (∀ k, I k → I' k) ∧ s'.bx = s.bx
 kr : ∀ r0, lt = some r0 → ∀ e sub es c, s'.tb[r0]? = some (.row 0 e sub es, c) → s.tb[r0]? = some (.row 0 e sub es, c)
def TakeOk (cx : Cx) (s s' : DS) (hd : List Value) (E E0 : Nat → Nat → Prop) (Z : Nat → Nat → Prop) (F : Nat → List Nat) (lt : Option Nat) (lo : List Nat) (I : Nat → Prop) (w : World) (P : (Nat → Nat → Prop) → List Nat → Prop) : Prop :=
 ∃ f Z' F' I', Tkn cx s s' hd E E0 Z Z' F F' lt lo I I' w f ∧ (∀ r k, k ∈ F' r → k ∈ F r) ∧ P Z' f
theorem Tkn.none {s : DS} (h : Tk cx s.tb hd E Z F lt lo I w) (hb : lt = none → Bw s.bx hd E E0 I w) : Tkn cx s s hd E E0 Z Z F F lt lo I I w [] where
 tk := h
 bw := hb
 z := fun _ _ h => h
 i := fun _ h => h
 keeps := Keeps.refl s
 tl := rfl
 bl := rfl
 bx := fun k b h => ⟨b, h, rfl, .inl rfl⟩
 own := fun _ h => by cases h
 zn := fun _ _ h => .inl h
 ii := fun _ => ⟨fun _ h => h, rfl⟩
 kr := fun _ _ _ _ _ _ h => h
theorem upd_sub {r : Nat} : ∀ q k, k ∈ upd F r [] q → k ∈ F q := by
 intro q k hk
 unfold upd at hk
 split at hk
 ·cases hk
 ·exact hk
theorem kr2 {s : DS} {q r0 : Nat} {t : Te} {e : TypeId} {sub : List Shp} {es : List (List D)} {c : Nat} (ht : ∀ e sub es, t ≠ .row 0 e sub es) (h : (s.setT q t).tb[r0]? = some (.row 0 e sub es, c)) : s.tb[r0]? = some (.row 0 e sub es, c) := by
 simp only [DS.setT] at h
 rcases set_get h with ⟨rfl, h, _⟩ | ⟨_, h⟩
 ·exact absurd (Prod.mk.inj h).1.symm (ht e sub es)
 ·exact h
theorem kr3 {s : DS} {q r0 : Nat} {rt : Bool} {e : TypeId} {sub : List Shp} {es : List (List D)} {c : Nat} (h : (s.kill q rt).tb[r0]? = some (.row 0 e sub es, c)) : s.tb[r0]? = some (.row 0 e sub es, c) := by
 simp only [DS.kill, List.getElem?_map] at h
 cases hq : s.tb[r0]? with
 | none => rw [hq] at h; cases h
 | some y =>
   rw [hq] at h
   have h := Option.some.inj h
   rcases killE_cases q rt s.ctr y with k | k
   ·rw [k] at h; rw [h]
   ·rw [k] at h; cases h
theorem kr1 {s : DS} {q r0 : Nat} {rt : Bool} {t : Te} {e : TypeId} {sub : List Shp} {es : List (List D)} {c : Nat} (ht : ∀ e sub es, t ≠ .row 0 e sub es) (h : ((s.setT q t).kill q rt).tb[r0]? = some (.row 0 e sub es, c)) : s.tb[r0]? = some (.row 0 e sub es, c) := kr2 ht (kr3 h)
mutual
theorem take_ok : ∀ (lt : Option Nat) (sh : Shp) (v y : Value) (s s' : DS) (d : D) (Z : Nat → Nat → Prop) (F : Nat → List Nat) (lo : List Nat) (I : Nat → Prop), Tk cx s.tb hd E Z F lt lo I w → (lt = none → Bw s.bx hd E E0 I w) → CRf hd E v y → take lt sh v s = some (d, s') →
 TakeOk cx s s' hd E E0 Z F lt lo I w fun Z' f => Rep w Z' sh d y f
 | lt, .v k, v, y, s, s', d, Z, F, lo, I, h, hb, hv, ht => by
   simp only [take] at ht
   split at ht
   ·rename_i hk
    simp only [Bool.and_eq_true] at hk
    simp only [Option.some.injEq, Prod.mk.injEq] at ht
    obtain ⟨rfl, rfl⟩ := ht
    obtain rfl := hv.of_plain (flat_plain hk.1 hk.2)
    exact ⟨[], Z, F, I, Tkn.none h hb, fun _ _ h => h, .v hk.1 hk.2⟩
   ·cases ht
 | lt, .l md e sub, v, y, s, s', d, Z, F, lo, I, h, hb, hv, ht => by
   simp only [take] at ht
   split at ht
   ·simp only [Option.some.injEq, Prod.mk.injEq] at ht
    obtain ⟨rfl, rfl⟩ := ht
    obtain rfl := crf_nil hv
    refine ⟨[], Z, F, I, Tkn.none h hb, fun _ _ h => h, ?_⟩
    by_cases h0 : md = 0
    ·subst h0; exact .nil
    ·exact .tree (es := []) (css := []) h0 (Nat.zero_le _) (Nat.zero_le _) (fun h => absurd rfl h) .nil
   ·rename_i p _ _
    split at ht
    ·obtain ⟨_, _, hy⟩ := hv
     split at ht
     ·rename_i md' e' sub' es htb
      split at ht
      ·rename_i hle
       obtain ⟨c, hrow⟩ := tbAt_some htb (by simp)
       obtain ⟨v', h2, h3⟩ := h.te _ _ _ hrow
       rw [hy] at h2
       obtain rfl := Option.some.inj h2
       have hrep : Rep w Z (.l md' e' sub') (.l es) y (F (p.block / 2)) := h3
       obtain ⟨f', hw⟩ := Rep.le hrep hle
       have hnd := h.sp.fd (p.block / 2)
       split at ht
       ·-- one's own
        have hZ := hw.go hnd (fun m k => Z m k ∨ (k ∈ F (p.block / 2) ∧ ¬ k ∈ f')) (fun _ _ h => .inl h) (fun k hk => .inl (h.sp.z2 _ k hk)) fun m k h1 h2 => .inr ⟨h1, h2⟩
        have fin : ∀ t : Te, TeOk w (fun m k => Z m k ∨ (k ∈ F (p.block / 2) ∧ ¬ k ∈ f')) hd E (upd F (p.block / 2) []) lt (f' ++ lo) (p.block / 2) y t → (∀ rt e sub es, t ≠ .view (p.block / 2) rt e sub es) → (∀ e sub es, t ≠ .row 0 e sub es) →
         TakeOk cx s ((s.setT (p.block / 2) t).kill (p.block / 2) false) hd E E0 Z F lt lo I w fun Z' f => Rep w Z' (.l 0 e sub) (.l es) y f := by
         intro t hte hnv hnr
         refine ⟨f', _, upd F (p.block / 2) [], I, ⟨h.out hrow hy hw.sub (hw.nd hnd) hte hnv, hb, fun _ _ h => .inl h, fun _ h => h, (Keeps.setT _ _ _).trans (Keeps.kill _ _ _), by simp [DS.setT, DS.kill], rfl, fun k b h => ⟨b, h, rfl, .inl rfl⟩, fun k hk => .inl ⟨_, hw.sub k hk⟩, fun m k hk => ?_, fun _ => ⟨fun _ h => h, rfl⟩, fun r0 _ e sub es c hh => kr1 hnr hh⟩, upd_sub, hZ⟩
         rcases hk with hk | ⟨hk, _⟩
         ·exact .inl hk
         ·exact .inr ⟨_, hk⟩
        split at ht
        ·rename_i r0
         split at ht
         ·cases ht
         ·rename_i hr0
          simp only [Option.some.injEq, Prod.mk.injEq] at ht
          obtain ⟨rfl, rfl⟩ := ht
          refine fin _ ⟨upd_same _ _ _, ?_⟩ (fun rt e sub es heq => hr0 (by cases heq; rfl)) (by intros; simp)
          have hmd : md' = 0 := by
           simp only [Shp.le, mdLe, Bool.and_eq_true, Bool.or_eq_true, beq_iff_eq] at hle
           omega
          subst hmd
          have := Rep.rd (md := 2) (Z' := Vw (fun m k => Z m k ∨ (k ∈ F (p.block / 2) ∧ ¬ k ∈ f')) (upd F (p.block / 2) []) (some r0) (f' ++ lo) r0 false) (.inr rfl) (fun m k hk => .inl (.inl hk)) (fun k hk => .inl (.inl (h.sp.z2 _ k hk))) hrep fun m k hk => by
           by_cases hkf : k ∈ f'
           ·exact .inr (.inr (.inr ⟨rfl, List.mem_append_left _ hkf⟩))
           ·exact .inl (.inr ⟨hk, hkf⟩)
          exact this
        ·simp only [Option.some.injEq, Prod.mk.injEq] at ht
         obtain ⟨rfl, rfl⟩ := ht
         exact fin .dead (upd_same _ _ _) (fun _ _ _ _ h => by cases h) (by intros; simp)
       ·-- for good
        rename_i md
        split at ht
        ·rename_i hmd1
         have hmd2 : md + 1 = 1 ∨ md + 1 = 2 := by omega
         by_cases hz : md' = 0
         ·subst hz
          simp only [beq_self_eq_true, if_true, Option.some.injEq, Prod.mk.injEq] at ht
          obtain ⟨rfl, rfl⟩ := ht
          have hZ := hw.go hnd (fun m k => Z m k ∨ k ∈ F (p.block / 2)) (fun _ _ h => .inl h) (fun k hk => .inl (h.sp.z2 _ k hk)) fun m k h1 h2 => .inr h1
          have hf' : f' = [] := by
           refine Rep.bor hZ ?_
           simp only [Shp.le, Bool.and_eq_true, Bool.or_eq_true, beq_iff_eq] at hle
           simp only [Shp.bor, Bool.and_eq_true, bne_iff_ne]
           exact ⟨by omega, hle.2.resolve_left (by omega)⟩
          subst hf'
          have hfr := h.freeze (t := .row (md + 1) e' (Shp.rds (md + 1) sub') es) hrow hy (by
           show Rep w _ _ _ _ (upd F (p.block / 2) [] (p.block / 2))
           rw [upd_same]
           exact Rep.rd hmd2 (fun _ _ h => .inl h) (fun k hk => .inl (h.sp.z2 _ k hk)) hrep fun m k hk => .inr hk)
          refine ⟨[], _, _, I, ⟨hfr, hb, fun _ _ h => .inl h, fun _ h => h, Keeps.setT _ _ _, by simp [DS.setT], rfl, fun k b h => ⟨b, h, rfl, .inl rfl⟩, (fun _ h => by cases h), fun m k hk => ?_, fun _ => ⟨fun _ h => h, rfl⟩, fun r0 _ e sub es c hh => kr2 (by intros; simp) hh⟩, upd_sub, hZ⟩
          rcases hk with hk | hk
          ·exact .inl hk
          ·exact .inr ⟨_, hk⟩
         ·have hz' : (md' == 0) = false := by simpa using hz
          simp only [hz', Bool.false_eq_true, if_false, Option.some.injEq, Prod.mk.injEq] at ht
          obtain ⟨rfl, rfl⟩ := ht
          have hF : F (p.block / 2) = [] := hrep.tree_nil hz
          rw [hF] at hw
          have hf' : f' = [] := List.eq_nil_iff_forall_not_mem.2 fun k hk => by cases hw.sub k hk
          subst hf'
          exact ⟨[], Z, F, I, Tkn.none h hb, fun _ _ h => h, hw.go .nil Z (fun _ _ h => h) (fun k hk => h.sp.z2 _ k hk) fun _ _ h => by cases h⟩
        ·cases ht
      ·cases ht
     ·cases ht
    ·cases ht
   ·cases ht
 | lt, .p md t sub, v, y, s, s', d, Z, F, lo, I, h, hb, hv, ht => by
   simp only [take] at ht
   split at ht
   ·rename_i p
    split at ht
    ·rename_i hp
     split at ht
     ·rename_i hev
      split at ht
      ·rename_i md' t' cs htb
       split at ht
       ·rename_i hc
        simp only [Bool.and_eq_true, Bool.or_eq_true, beq_iff_eq] at hc
        obtain ⟨⟨hle, rfl⟩, hbor⟩ := hc
        obtain ⟨c, hrow⟩ := tbAt_some htb (by simp)
        obtain ⟨v', h2, cs', h3, h4⟩ := h.te _ _ _ hrow
        rcases hv with ⟨_, _, _, hy⟩ | ⟨hv, _⟩
        ·rw [hy] at h2
         obtain rfl := Option.some.inj h2
         cases htk : takes lt sub cs (if (md == 0) = true then (s.setT (p.block / 2) .dead).kill (p.block / 2) false else if (md' == 0) = true then s.setT (p.block / 2) (.pbx md t cs) else s) with
         | none => rw [htk] at ht; cases ht
         | some x =>
           obtain ⟨ds, s2⟩ := x
           rw [htk] at ht
           simp only [Option.some.injEq, Prod.mk.injEq] at ht
           obtain ⟨rfl, rfl⟩ := ht
           by_cases h0 : md = 0
           ·subst h0
            simp only [beq_self_eq_true, if_true] at htk
            have hmd : md' = 0 := by
             simp only [mdLe, Bool.and_eq_true, Bool.or_eq_true, beq_iff_eq] at hle
             omega
            subst hmd
            rcases h4 with ⟨_, b, rfl, hF, hB⟩ | ⟨h0, _⟩
            ·have ho := h.out (f' := [b]) (t := .dead) hrow hy (fun k hk => by rw [hF]; exact hk) (by simp) (upd_same _ _ _) (fun _ _ _ _ h => by cases h)
             obtain ⟨f, Z', F', I', hT, hFs, hR⟩ := takes_ok lt sub cs cs' _ s2 ds _ _ ([b] ++ lo) I ho hb h3 htk
             have hzz : ∀ m k, Z m k → Z' m k := fun m k hk => hT.z m k (.inl hk)
             refine ⟨b :: f, Z', F', I', ⟨hT.tk.perm (fun k => by simp only [List.mem_append, List.mem_cons, List.not_mem_nil, or_false]; exact ⟨fun h => h.elim (fun h => .inl (.inr h)) (fun h => h.elim (fun h => .inl (.inl h)) .inr), fun h => h.elim (fun h => h.elim (fun h => .inr (.inl h)) .inl) (fun h => .inr (.inr h))⟩) ?_, hT.bw, hzz, hT.i, ((Keeps.setT _ _ _).trans (Keeps.kill _ _ _)).trans hT.keeps, by rw [hT.tl]; simp [DS.setT, DS.kill], hT.bl, hT.bx, fun k hk => ?_, fun m k hk => ?_, hT.ii, fun r0 h0 e sub es c hh => kr1 (by intros; simp) (hT.kr r0 h0 e sub es c hh)⟩, fun r k hk => upd_sub r k (hFs r k hk), ?_⟩
             ·have := hT.tk.sp.ln
              refine (List.Perm.nodup_iff ?_).1 this
              show List.Perm (f ++ ([b] ++ lo)) ([b] ++ f ++ lo)
              rw [← List.append_assoc]
              exact List.Perm.append_right lo List.perm_append_comm
             ·rcases List.mem_cons.1 hk with rfl | hk
              ·exact .inl ⟨_, by rw [hF]; simp⟩
              ·rcases hT.own k hk with ⟨r, hr⟩ | hi
               ·exact .inl ⟨r, upd_sub r k hr⟩
               ·exact .inr hi
             ·rcases hT.zn m k hk with hk | ⟨r, hk⟩
              ·rcases hk with hk | ⟨hk, _⟩
               ·exact .inl hk
               ·exact .inr ⟨_, hk⟩
              ·exact .inr ⟨r, upd_sub r k hk⟩
             ·exact .box hB hR
            ·exact absurd rfl h0
           ·have hmz : (md == 0) = false := by simpa using h0
            simp only [hmz, Bool.false_eq_true, if_false] at htk
            have hbor := hbor.resolve_left h0
            by_cases hz : md' = 0
            ·subst hz
             simp only [beq_self_eq_true, if_true] at htk
             rcases h4 with ⟨_, b, rfl, hF, hB⟩ | ⟨h0', _⟩
             ·have hC : CatZ w (fun k => Z md k ∨ k ∈ F (p.block / 2)) (some ⟨b, 0, none⟩) cs' := fun hne => ⟨_, rfl, .inr (by rw [hF]; simp), fun j u hj => by
               rw [add_none, Nat.zero_add]
               exact hB.cell hj⟩
              have ho := h.freeze (t := .pbx md t cs) hrow hy ⟨cs', h3, .inr ⟨h0, _, rfl, upd_same _ _ _, hC⟩⟩
              obtain ⟨f, Z', F', I', hT, hFs, hR⟩ := takes_ok lt sub cs cs' _ s2 ds _ _ lo I ho hb h3 htk
              obtain rfl := Reps.bor hR hbor
              refine ⟨[], Z', F', I', ⟨hT.tk, hT.bw, fun m k hk => hT.z m k (.inl hk), hT.i, (Keeps.setT _ _ _).trans hT.keeps, by rw [hT.tl]; simp [DS.setT], hT.bl, hT.bx, (fun _ h => by cases h), fun m k hk => ?_, hT.ii, fun r0 h0 e sub es c hh => kr2 (by intros; simp) (hT.kr r0 h0 e sub es c hh)⟩, fun r k hk => upd_sub r k (hFs r k hk), ?_⟩
              ·rcases hT.zn m k hk with hk | ⟨r, hk⟩
               ·rcases hk with hk | hk
                ·exact .inl hk
                ·exact .inr ⟨_, hk⟩
               ·exact .inr ⟨r, upd_sub r k hk⟩
              ·exact .ptr h0 (hC.kept (fun _ _ _ => rfl) fun k hk => hT.z md k hk) hR
             ·exact absurd rfl h0'
            ·have hz' : (md' == 0) = false := by simpa using hz
             simp only [hz', Bool.false_eq_true, if_false] at htk
             obtain ⟨f, Z', F', I', hT, hFs, hR⟩ := takes_ok lt sub cs cs' _ s2 ds _ _ lo I h hb h3 htk
             obtain rfl := Reps.bor hR hbor
             rcases h4 with ⟨h0', _⟩ | ⟨_, q, rfl, hF, hC⟩
             ·exact absurd h0' hz
             ·obtain ⟨_, hm⟩ := mdLe_z (Z := Z) (Z' := Z') hle hz hT.z (fun k hk => hT.z 2 k (h.sp.z2 1 k hk))
              exact ⟨[], Z', F', I', hT, hFs, .ptr h0 (hC.kept (fun _ _ _ => rfl) hm) hR⟩
        ·rw [hv] at hev; cases hev
       ·cases ht
      ·cases ht
     ·rename_i hev
      split at ht
      ·rename_i b htb
       split at ht
       ·rename_i hc
        simp only [Bool.and_eq_true, Bool.not_eq_true', List.isEmpty_eq_false_iff, beq_iff_eq] at hc
        obtain ⟨⟨rfl, rfl⟩, hne⟩ := hc
        rcases hv with ⟨hv, _⟩ | ⟨_, g, hE, rfl⟩
        ·exact absurd hv hev
        ·obtain ⟨cs', h3, hB⟩ := (hb rfl).ats _ _ _ htb hne hE
         have hI := (hb rfl).bi _ _ _ htb hne ((hb rfl).sub _ _ hE)
         cases htk : takes none sub (b.cs.map (·.1)) { s with bx := s.bx.modify (p.block / 2) fun b => { b with cs := [] } } with
         | none => rw [htk] at ht; cases ht
         | some x =>
           obtain ⟨ds, s2⟩ := x
           rw [htk] at ht
           simp only [Option.some.injEq, Prod.mk.injEq] at ht
           obtain ⟨rfl, rfl⟩ := ht
           have hsp := h.sp.box hI hB.lt
           have ho : Tk cx s.tb hd E Z F none (g :: lo) (fun k => I k ∧ k ≠ g) w := by
            refine ⟨h.hl, fun r t c hr => ?_, h.f0, hsp, h.n0, h.np⟩
            obtain ⟨v', k1, k2⟩ := h.te r t c hr
            refine ⟨v', k1, k2.mono (fun _ _ _ => rfl) (fun _ _ h => h) (Ext.refl _) (fun _ _ h => h) rfl (fun r0 rt e sub es _ m k hk => ?_) fun k hk => (h.sp.fm r k hk).1⟩
            rcases hk with hk | hk | hk | ⟨hk, _⟩
            ·exact .inl hk
            ·exact .inr (.inl hk)
            ·exact .inr (.inr (.inl hk))
            ·cases hk
           have hb' : Bw (s.bx.modify (p.block / 2) fun b => { b with cs := [] }) hd E E0 (fun k => I k ∧ k ≠ g) w := by
            have old : ∀ k x, (s.bx.modify (p.block / 2) fun b => { b with cs := [] })[k]? = some x → x.cs ≠ [] → p.block / 2 ≠ k ∧ s.bx[k]? = some x := by
             intro k x hk hx
             rw [List.getElem?_modify] at hk
             cases hk2 : s.bx[k]? with
             | none => rw [hk2] at hk; cases hk
             | some z =>
               rw [hk2] at hk
               have hk := Option.some.inj hk
               dsimp only at hk
               by_cases hpk : p.block / 2 = k
               ·rw [if_pos hpk] at hk
                rw [← hk] at hx
                exact absurd rfl hx
               ·rw [if_neg hpk] at hk
                exact ⟨hpk, by rw [← hk]⟩
            refine ⟨(hb rfl).inj, (hb rfl).sub, fun k x b' hk hx hE' => ?_, fun k x b' hk hx hE' => ?_⟩
            ·obtain ⟨h1, h2⟩ := old k x hk hx
             exact ⟨(hb rfl).bi k x b' h2 hx hE', fun e => h1 ((hb rfl).inj _ _ _ (e ▸ (hb rfl).sub _ _ hE) hE')⟩
            ·exact (hb rfl).ats k x b' (old k x hk hx).2 hx hE'
           obtain ⟨f, Z', F', I', hT, hFs, hR⟩ := takes_ok none sub _ cs' { s with bx := s.bx.modify (p.block / 2) fun b => { b with cs := [] } } s2 ds Z F (g :: lo) (fun k => I k ∧ k ≠ g) ho (fun _ => hb') h3 htk
           refine ⟨g :: f, Z', F', I', ⟨hT.tk.perm (fun k => by simp only [List.mem_append, List.mem_cons]; exact ⟨fun h => h.elim (fun h => .inl (.inr h)) (fun h => h.elim (fun h => .inl (.inl h)) .inr), fun h => h.elim (fun h => h.elim (fun h => .inr (.inl h)) .inl) (fun h => .inr (.inr h))⟩) ?_, hT.bw, hT.z, fun k hk => (hT.i k hk).1, (Keeps.mark _ _).trans hT.keeps, hT.tl, by rw [hT.bl]; simp, fun k x hk => ?_, fun k hk => ?_, hT.zn, fun h => (by cases h), fun _ h => (by cases h)⟩, hFs, ?_⟩
           ·have := hT.tk.sp.ln
            refine (List.Perm.nodup_iff ?_).1 this
            show List.Perm (f ++ ([g] ++ lo)) ([g] ++ f ++ lo)
            rw [← List.append_assoc]
            exact List.Perm.append_right lo List.perm_append_comm
           ·obtain ⟨x', k1, k2, k3⟩ := hT.bx k x hk
            rw [List.getElem?_modify] at k1
            cases hk2 : s.bx[k]? with
            | none => rw [hk2] at k1; cases k1
            | some z =>
              rw [hk2] at k1
              have k1 := Option.some.inj k1
              dsimp only at k1
              refine ⟨z, rfl, ?_⟩
              by_cases hpk : p.block / 2 = k
              ·rw [if_pos hpk] at k1
               rw [← k1] at k2 k3
               exact ⟨k2, .inr (k3.elim id id)⟩
              ·rw [if_neg hpk] at k1
               obtain rfl : z = x' := k1
               exact ⟨k2, k3⟩
           ·rcases List.mem_cons.1 hk with rfl | hk
            ·exact .inr ⟨_, hE⟩
            ·exact hT.own k hk
           ·rw [hp]
            exact .box hB hR
       ·cases ht
      ·cases ht
    ·cases ht
   ·cases ht
 | lt, .f g sub, v, y, s, s', d, Z, F, lo, I, h, hb, hv, ht => by
   simp only [take] at ht
   split at ht
   ·rename_i g' fst cap
    split at ht
    ·split at ht
     ·rename_i hg
      cases hds : takes lt sub cap.toList s with
      | none => rw [hds] at ht; cases ht
      | some x =>
        obtain ⟨ds, s2⟩ := x
        rw [hds] at ht
        simp only [Option.some.injEq, Prod.mk.injEq] at ht
        obtain ⟨rfl, rfl⟩ := ht
        obtain ⟨g2, cs, h1, h2, rfl, h4⟩ := hv
        simp only [Fn.func.injEq] at h1
        subst h1
        have := beq_iff_eq.1 hg
        subst this
        obtain ⟨f, Z', F', I', hT, hFs, hR⟩ := takes_ok lt sub _ cs s s2 ds Z F lo I h hb (crl_crf h4) hds
        exact ⟨f, Z', F', I', hT, hFs, .fn hR⟩
     ·cases ht
    ·cases ht
   ·cases ht
theorem takes_ok : ∀ (lt : Option Nat) (sh : List Shp) (v y : List Value) (s s' : DS) (d : List D) (Z : Nat → Nat → Prop) (F : Nat → List Nat) (lo : List Nat) (I : Nat → Prop), Tk cx s.tb hd E Z F lt lo I w → (lt = none → Bw s.bx hd E E0 I w) → All2 (CRf hd E) v y → takes lt sh v s = some (d, s') →
 TakeOk cx s s' hd E E0 Z F lt lo I w fun Z' f => Reps w Z' sh d y f
 | lt, [], v, y, s, s', d, Z, F, lo, I, h, hb, hv, ht => by
   simp only [takes] at ht
   split at ht
   ·simp only [Option.some.injEq, Prod.mk.injEq] at ht
    obtain ⟨rfl, rfl⟩ := ht
    cases hv
    exact ⟨[], Z, F, I, Tkn.none h hb, fun _ _ h => h, .nil⟩
   ·cases ht
 | lt, t :: ts, v, y, s, s', d, Z, F, lo, I, h, hb, hv, ht => by
   simp only [takes] at ht
   split at ht
   ·rename_i a as
    cases h1 : take lt t a s with
    | none => rw [h1] at ht; cases ht
    | some x =>
      obtain ⟨d1, s1⟩ := x
      rw [h1] at ht
      simp only at ht
      cases h2 : takes lt ts as s1 with
      | none => rw [h2] at ht; cases ht
      | some x =>
        obtain ⟨ds, s2⟩ := x
        rw [h2] at ht
        simp only [Option.some.injEq, Prod.mk.injEq] at ht
        obtain ⟨rfl, rfl⟩ := ht
        cases hv with
        | cons v1 v2 =>
          obtain ⟨f1, Z1, F1, I1, T1, S1, R1⟩ := take_ok lt t a _ s s1 d1 Z F lo I h hb v1 h1
          obtain ⟨f2, Z2, F2, I2, T2, S2, R2⟩ := takes_ok lt ts as _ s1 s2 ds Z1 F1 (f1 ++ lo) I1 T1.tk T1.bw v2 h2
          refine ⟨f1 ++ f2, Z2, F2, I2, ⟨T2.tk.perm (fun k => by simp only [List.mem_append]; exact ⟨fun h => h.elim (fun h => .inl (.inr h)) (fun h => h.elim (fun h => .inl (.inl h)) .inr), fun h => h.elim (fun h => h.elim (fun h => .inr (.inl h)) .inl) (fun h => .inr (.inr h))⟩) ?_, T2.bw, fun m k hk => T2.z m k (T1.z m k hk), fun k hk => T1.i k (T2.i k hk), T1.keeps.trans T2.keeps, T2.tl.trans T1.tl, T2.bl.trans T1.bl, fun k x hk => ?_, fun k hk => ?_, fun m k hk => ?_, fun hh => ⟨fun k hk => (T2.ii hh).1 k ((T1.ii hh).1 k hk), (T2.ii hh).2.trans (T1.ii hh).2⟩, fun r0 h0 e sub es c hh => T1.kr r0 h0 e sub es c (T2.kr r0 h0 e sub es c hh)⟩, fun r k hk => S1 r k (S2 r k hk), .cons (Rep.kept (fun _ _ _ _ => rfl) T2.z R1 fun _ _ => rfl) R2⟩
          ·have := T2.tk.sp.ln
           refine (List.Perm.nodup_iff ?_).1 this
           rw [← List.append_assoc]
           exact List.Perm.append_right lo List.perm_append_comm
          ·obtain ⟨x1, a1, a2, a3⟩ := T2.bx k x hk
           obtain ⟨x2, b1, b2, b3⟩ := T1.bx k x1 a1
           refine ⟨x2, b1, a2.trans b2, ?_⟩
           rcases a3 with a3 | a3
           ·rcases b3 with b3 | b3
            ·exact .inl (a3.trans b3)
            ·exact .inr (a3.trans b3)
           ·exact .inr a3
          ·rcases List.mem_append.1 hk with hk | hk
           ·exact T1.own k hk
           ·rcases T2.own k hk with ⟨r, hr⟩ | hi
            ·exact .inl ⟨r, S1 r k hr⟩
            ·exact .inr hi
          ·rcases T2.zn m k hk with hk | ⟨r, hr⟩
           ·exact T1.zn m k hk
           ·exact .inr ⟨r, S1 r k hr⟩
   ·cases ht
end
end
end Go.Dw
end
section
namespace Go.Dw
open Go Go.Cw
set_option linter.unusedVariables false
def baseOf : Value → Option Addr
 | .slice A _ _ => A
 | .pointer A => A
 | _ => none
def BxE (st : St) (k b : Nat) : Prop := ∃ x, st.bx[k]? = some x ∧ x.id = b ∧ x.esc = true
def CvR (hd : List Value) (st : St) : DC → CV → Prop
 | .v x, cv => ∃ y, CR hd (BxE st) x y ∧ (cv = .v y ∨ (cv = .o y ∧ ∃ g a b, x = .func g a b))
 | .bp k off, cv => cv = .bp k off ∧ k < st.bx.length
 | .er r i sz off, cv => ∃ v, hd[r]? = some v ∧ cv = .ep (baseOf v) (i * sz + off) ∧ (sz = 0 → v = .pointer (baseOf v))
structure Ek (P : Program) (s : DS) (hd : List Value) (st : St) : Prop where
 el : st.env.length = s.env.length
 env : ∀ (t : Nat) (e : DE), s.env[t]? = some (some e) → ∃ e', st.env[t]? = some (some e') ∧ e'.tg = e.tg ∧ CvR hd st e.cv e'.cv
 bl : st.bx.length = s.bx.length
 bx : ∀ (k : Nat) (b : DB), s.bx[k]? = some b → ∃ b', st.bx[k]? = some b' ∧ b'.ty = b.ty ∧ (b.cs ≠ [] → All2 (CRf hd (BxE st)) (b.cs.map (·.1)) (b'.cs.map (·.1)))
 bf : ∀ b ∈ st.bx, ∃ h, Cw.shOf P b.ty = some h ∧ h.ks.length = b.cs.length
 pins : ∀ q ∈ st.pins, ∃ r ∈ s.pins, ∃ v, hd[r]? = some v ∧ q = blkOf (baseOf v)
 nd : st.ids.Nodup
structure Lk (cx : Cx) (Z0 : Nat → Nat → Prop) (s : DS) (hd : List Value) (Z : Nat → Nat → Prop) (F : Nat → List Nat) (st : St) (w : World) : Prop where
 ek : Ek cx.P s hd st
 tk : Tk cx s.tb hd (BxE st) Z F none [] (· ∈ st.ids) w
 fr : Fr cx.M cx.w0 w
 z0 : ∀ m k, Z0 m k → Z m k
 zg : ∀ m k, Z m k → Z0 m k ∨ cx.w0.heap.size ≤ k ∨ cx.M k
/-! ### Marks -/
theorem esc1_mono (st : St) (cv : CV) {k b : Nat} (h : BxE st k b) : BxE (st.esc1 cv) k b := by
 obtain ⟨x, h1, h2, h3⟩ := h
 cases cv with
 | bp q off =>
   by_cases hq : q = k
   ·subst hq
    exact ⟨x.mark, by simp [St.esc1, h1], h2, rfl⟩
   ·exact ⟨x, by simp [St.esc1, h1, hq], h2, h3⟩
 | _ => exact ⟨x, h1, h2, h3⟩
theorem escs_mono (T : List (Nat × Bool)) : ∀ (xs : List Operand) (st : St) {k b : Nat}, BxE st k b → BxE (st.escs T xs) k b
 | [], st, k, b, h => h
 | x :: r, st, k, b, h => by
   simp only [St.escs]
   split
   ·exact escs_mono T r _ (esc1_mono st _ h)
   ·exact escs_mono T r _ h
theorem esc1_hit (st : St) {k off : Nat} (h : k < st.bx.length) : BxE (st.esc1 (.bp k off)) k (st.idAt k) := by
 refine ⟨(st.bx[k]).mark, by simp [St.esc1, List.getElem?_eq_getElem h], ?_, rfl⟩
 simp [St.idAt, List.getElem?_eq_getElem h, Bx.mark]
theorem esc1_len (st : St) (cv : CV) : (st.esc1 cv).bx.length = st.bx.length := (esc1_bx st cv).length
theorem rd_esc1 (st : St) (cv : CV) (T : List (Nat × Bool)) (x : Operand) : (st.esc1 cv).rd T x = st.rd T x := by
 cases x <;> simp only [St.rd, esc1_env]
theorem escs_hit (T : List (Nat × Bool)) : ∀ (xs : List Operand) (st : St) {x : Operand} {k off : Nat}, x ∈ xs → st.rd T x = some (.bp k off) → k < st.bx.length → BxE (st.escs T xs) k (st.idAt k)
 | [], st, x, k, off, h, _, _ => by cases h
 | y :: r, st, x, k, off, h, hx, hk => by
   simp only [St.escs]
   have hid : ∀ cv, (st.esc1 cv).idAt k = st.idAt k := fun cv => by rw [idAt_eq, idAt_eq, (esc1_bx st cv).ids]
   rcases List.mem_cons.1 h with rfl | h
   ·rw [hx]
    exact escs_mono T r _ (esc1_hit st hk)
   ·split
    ·rename_i cv _
     have := escs_hit T r (st.esc1 cv) h (by rw [rd_esc1]; exact hx) (by rw [esc1_len]; exact hk)
     rwa [hid] at this
    ·exact escs_hit T r st h hx hk
section
variable {P : Program} {s : DS} {hd hd' : List Value} {st st' : St} {cx : Cx} {Z0 Z : Nat → Nat → Prop} {F : Nat → List Nat} {w : World} {T : List (Nat × Bool)}
theorem CvR.mono {cv : DC} {cv' : CV} (h : CvR hd st cv cv') (hh : Ext hd hd') (he : ∀ k b, BxE st k b → BxE st' k b) (hl : st.bx.length ≤ st'.bx.length) : CvR hd' st' cv cv' := by
 cases cv with
 | v x => obtain ⟨y, h1, h2⟩ := h; exact ⟨y, h1.mono hh he, h2⟩
 | bp k off => exact ⟨h.1, Nat.lt_of_lt_of_le h.2 hl⟩
 | er r i sz off => obtain ⟨v, h1, h2, h3⟩ := h; exact ⟨v, hh _ _ h1, h2, h3⟩
theorem Ek.like (h : Ek P s hd st) (l : Like st st') (he : ∀ k b, BxE st k b → BxE st' k b) : Ek P s hd st' where
 el := by rw [l.env]; exact h.el
 env := fun t e ht => by
  obtain ⟨e', h1, h2, h3⟩ := h.env t e ht
  exact ⟨e', by rw [l.env]; exact h1, h2, h3.mono (Ext.refl _) he (Nat.le_of_eq l.bx.length.symm)⟩
 bl := by rw [l.bx.length]; exact h.bl
 bx := fun k b hb => by
  obtain ⟨b', h1, h2, h3⟩ := h.bx k b hb
  have hm := congrArg (·[k]?) l.bx
  simp only [List.getElem?_map, h1, Option.map_some] at hm
  cases hb2 : st'.bx[k]? with
  | none => rw [hb2] at hm; cases hm
  | some b2 =>
    rw [hb2] at hm
    simp only [Option.map_some, Option.some.injEq, Prod.mk.injEq] at hm
    exact ⟨b2, rfl, by rw [hm.2.2]; exact h2, fun hn => by rw [hm.2.1]; exact (h3 hn).mono fun _ _ h => h.mono (Ext.refl _) he⟩
 bf := fun b hb => by
  have : (b.id, b.cs, b.ty) ∈ st'.bx.map (fun b => (b.id, b.cs, b.ty)) := List.mem_map.2 ⟨b, hb, rfl⟩
  rw [l.bx] at this
  obtain ⟨b', hb', hm⟩ := List.mem_map.1 this
  simp only [Prod.mk.injEq] at hm
  rw [← hm.2.2, ← hm.2.1]
  exact h.bf b' hb'
 pins := by rw [l.pins]; exact h.pins
 nd := by unfold St.ids; rw [l.bx.ids]; exact h.nd
theorem Lk.like (h : Lk cx Z0 s hd Z F st w) (l : Like st st') (he : ∀ k b, BxE st k b → BxE st' k b) : Lk cx Z0 s hd Z F st' w := by
 have hi : st'.ids = st.ids := l.bx.ids
 refine ⟨h.ek.like l he, ?_, h.fr, h.z0, h.zg⟩
 rw [hi]
 exact h.tk.ext he
theorem Ek.ext (h : Ek P s hd st) (hh : Ext hd hd') {s' : DS} (e1 : s'.env = s.env) (e2 : s'.bx = s.bx) (e3 : s'.pins = s.pins) : Ek P s' hd' st where
 el := by rw [e1]; exact h.el
 env := fun t e ht => by
  rw [e1] at ht
  obtain ⟨e', h1, h2, h3⟩ := h.env t e ht
  exact ⟨e', h1, h2, h3.mono hh (fun _ _ h => h) (Nat.le_refl _)⟩
 bl := by rw [e2]; exact h.bl
 bx := fun k b hb => by
  rw [e2] at hb
  obtain ⟨b', h1, h2, h3⟩ := h.bx k b hb
  exact ⟨b', h1, h2, fun hn => (h3 hn).mono fun _ _ h => h.mono hh (fun _ _ h => h)⟩
 bf := h.bf
 pins := fun q hq => by
  obtain ⟨r, h1, v, h2, h3⟩ := h.pins q hq
  exact ⟨r, by rw [e3]; exact h1, v, hh _ _ h2, h3⟩
 nd := h.nd
theorem rd_ok (h : Ek P s hd st) {x : Operand} {cv : DC} (hx : s.rd T x = some cv) : ∃ cv', st.rd T x = some cv' ∧ CvR hd st cv cv' := by
 cases x with
 | tmp t =>
   simp only [DS.rd] at hx
   split at hx
   ·rename_i e he
    split at hx
    ·rename_i hg
     obtain rfl := Option.some.inj hx
     obtain ⟨e', h1, h2, h3⟩ := h.env t e he
     exact ⟨e'.cv, by simp [St.rd, h1, h2, hg], h3⟩
    ·cases hx
   ·cases hx
 | const v =>
   simp only [DS.rd] at hx
   split at hx
   ·rename_i hc
    obtain rfl := Option.some.inj hx
    exact ⟨_, rfl, v, CR.const hc, .inl rfl⟩
   ·cases hx
 | func f =>
   simp only [DS.rd] at hx
   split at hx
   ·rename_i hf
    obtain rfl := Option.some.inj hx
    refine ⟨_, rfl, _, ⟨f, [], rfl, rfl, ?_, .nil⟩, .inl rfl⟩
    simp [fnV, fnOf, nfOf, Nat.mod_eq_of_lt hf]
   ·cases hx
 | global g => cases hx
theorem cvR_plain {x : Value} {cv : CV} (h : CvR hd st (.v x) cv) (hp : plainV x = true) : cv = .v x := by
 obtain ⟨y, h1, h2⟩ := h
 obtain rfl := h1.of_plain hp
 rcases h2 with h2 | ⟨_, g, a, b, rfl⟩
 ·exact h2
 ·simp [plainV] at hp
theorem cvR_v {x : Value} {cv : CV} (h : CvR hd st (.v x) cv) (hn : ∀ g a b, x ≠ .func g a b) : ∃ y, CR hd (BxE st) x y ∧ cv = .v y := by
 obtain ⟨y, h1, h2⟩ := h
 rcases h2 with h2 | ⟨_, g, a, b, he⟩
 ·exact ⟨y, h1, h2⟩
 ·exact absurd he (hn g a b)
theorem rd_plain (h : Ek P s hd st) {x : Operand} {v : Value} (hx : s.rd T x = some (.v v)) (hp : plainV v = true) : st.rd T x = some (.v v) := by
 obtain ⟨cv, h1, h2⟩ := rd_ok h hx
 rw [h1, cvR_plain h2 hp]
theorem offA_zero (A : Option Addr) : offA A 0 = A := by
 cases A <;> simp [offA, Addr.add]
theorem er_val {E : Nat → Nat → Prop} {r : Nat} {u : Value} (hu : hd[r]? = some u) (hz : u = .pointer (baseOf u)) : CRl hd E (ptV r) (st.den (.ep (baseOf u) (0 * 0 + 0))) := by
 show CRl hd E (ptV r) (Value.pointer (offA (baseOf u) 0))
 rw [offA_zero, ← hz]
 refine .inl ⟨by simp [evenB], rfl, ⟨_, hz⟩, ?_⟩
 rw [show 2 * r / 2 = r by omega]
 exact hu
theorem val_ok (h : Ek P s hd st) {x : Operand} {cv : DC} {v : Value} {E : Nat → Nat → Prop} (hx : s.rd T x = some cv) (hv : cv.val = some v) (he : ∀ k b, BxE st k b → E k b) (hb : ∀ k off, st.rd T x = some (.bp k off) → k < st.bx.length → E k (st.idAt k)) :
 (st.rd T x).isSome = true ∧ CR hd E v (st.rho T x) := by
 obtain ⟨cv', h1, h2⟩ := rd_ok h hx
 refine ⟨by rw [h1]; rfl, ?_⟩
 rw [rho_of h1]
 cases cv with
 | v y =>
   obtain rfl := Option.some.inj hv
   obtain ⟨z, h3, h4⟩ := h2
   rcases h4 with rfl | ⟨rfl, _⟩ <;> exact h3.mono (Ext.refl _) he
 | bp k off =>
   obtain rfl := Option.some.inj hv
   obtain ⟨rfl, hk⟩ := h2
   refine .inr ⟨by simp [evenB], st.idAt k, ?_, rfl⟩
   show E ((2 * k + 1) / 2) _
   rw [show (2 * k + 1) / 2 = k by omega]
   exact hb k off h1 hk
 | er r i sz off =>
   simp only [DC.val] at hv
   split at hv
   ·rename_i hc
    obtain ⟨rfl, rfl, rfl⟩ := hc
    obtain rfl := Option.some.inj hv
    obtain ⟨u, hu, rfl, hz⟩ := h2
    refine er_val hu (hz rfl)
   ·cases hv
theorem vals_ok (h : Ek P s hd st) {E : Nat → Nat → Prop} (he : ∀ k b, BxE st k b → E k b) : ∀ (xs : List Operand) (vs : List Value), (∀ x ∈ xs, ∀ k off, st.rd T x = some (.bp k off) → k < st.bx.length → E k (st.idAt k)) → s.vals T xs = some vs →
 st.can T xs = true ∧ All2 (CR hd E) vs (xs.map (st.rho T))
 | [], vs, _, hv => by
   obtain rfl := Option.some.inj hv
   exact ⟨rfl, .nil⟩
 | x :: r, vs, hb, hv => by
   simp only [DS.vals] at hv
   split at hv
   ·rename_i cv hx
    split at hv
    ·rename_i v vs' h1 h2
     obtain rfl := Option.some.inj hv
     obtain ⟨k1, k2⟩ := val_ok h hx h1 he (hb x (List.mem_cons_self ..))
     obtain ⟨k3, k4⟩ := vals_ok h he r vs' (fun y hy => hb y (List.mem_cons_of_mem _ hy)) h2
     exact ⟨by simp only [St.can, List.all_cons, k1, Bool.true_and]; exact k3, .cons k2 k4⟩
    ·cases hv
   ·cases hv
theorem recs_ok (h : Tk cx s.tb hd (BxE st) Z F none [] (· ∈ st.ids) w) {v y : Value} {r : Nat} {e : TypeId} {sub : List Shp} {es : List (List D)} (hv : CRl hd (BxE st) v y) (hr : s.recs v = some (r, e, sub, es)) :
 ∃ A c, y = .slice A es.length c ∧ es.length ≤ c ∧ hd[r]? = some y ∧ (0 < es.length → 0 < sub.length → A.isSome = true) ∧ es.length ≤ maxLen := by
 unfold DS.recs at hr
 split at hr
 ·rename_i p _ _
  obtain ⟨_, _, hy⟩ := hv
  have key : ∀ md Z' f, Rep w Z' (.l md e sub) (.l es) y f → ∃ A c, y = .slice A es.length c ∧ es.length ≤ c ∧ (0 < es.length → 0 < sub.length → A.isSome = true) ∧ es.length ≤ maxLen := by
   intro md Z' f hR
   cases hR with
   | tree h1 h2 hc h3 h4 =>
     refine ⟨_, _, rfl, hc, fun k1 k2 => ?_, h2⟩
     have hs := h4.size
     obtain ⟨q, hq, _⟩ := h3 (fun h0 => by
      rw [h0, List.length_nil] at hs
      exact absurd hs (Nat.ne_of_lt (Nat.mul_pos k1 k2)))
     rw [hq]; rfl
   | nil => exact ⟨none, 0, rfl, Nat.le_refl _, fun k1 => by simp at k1, Nat.zero_le _⟩
   | own h1 h2 h3 h4 h5 => exact ⟨_, _, rfl, h3, fun _ _ => rfl, Nat.le_trans h3 h4⟩
  by_cases hev : evenB p = true
  ·rw [if_pos hev] at hr
   split at hr
   ·rename_i md e' sub' es' htb
    simp only [Option.some.injEq, Prod.mk.injEq] at hr
    obtain ⟨rfl, rfl, rfl, rfl⟩ := hr
    obtain ⟨c, v', _, h2, h3⟩ := h.at htb (by simp)
    rw [hy] at h2
    obtain rfl := Option.some.inj h2
    obtain ⟨A, c', k1, k2, k3, k4⟩ := key _ _ _ h3
    exact ⟨A, c', k1, k2, hy, k3, k4⟩
   ·rename_i r0 rt e' sub' es' htb
    simp only [Option.some.injEq, Prod.mk.injEq] at hr
    obtain ⟨rfl, rfl, rfl, rfl⟩ := hr
    obtain ⟨c, v', _, h2, h3⟩ := h.at htb (by simp)
    rw [hy] at h2
    obtain rfl := Option.some.inj h2
    obtain ⟨A, c', k1, k2, k3, k4⟩ := key _ _ _ h3.2
    exact ⟨A, c', k1, k2, hy, k3, k4⟩
   ·cases hr
  ·rw [if_neg hev] at hr; cases hr
 ·cases hr
end
end Go.Dw
end
section
namespace Go.Dw
open Go Go.Cw
set_option linter.unusedVariables false
theorem drop_flatten {css : List (List Value)} {sz : Nat} (h : ∀ cs ∈ css, cs.length = sz) (l : Nat) : (css.drop l).flatten = css.flatten.drop (l * sz) := by
 induction css generalizing l with
 | nil => simp
 | cons c r ih =>
   cases l with
   | zero => simp
   | succ l =>
     have hc := h c (List.mem_cons_self ..)
     rw [List.drop_succ_cons, List.flatten_cons, ih (fun cs hc => h cs (List.mem_cons_of_mem _ hc)), Nat.add_mul, Nat.one_mul, Nat.add_comm (l * sz), ← hc, ← List.drop_drop, List.drop_left]
theorem take_flatten_get {css : List (List Value)} (n : Nat) {j : Nat} {v : Value} (h : (css.take n).flatten[j]? = some v) : css.flatten[j]? = some v := by
 have : css.flatten = (css.take n).flatten ++ (css.drop n).flatten := by rw [← List.flatten_append, List.take_append_drop]
 rw [this]
 exact app_get h
section
variable {w : World} {Z : Nat → Nat → Prop}
theorem Rep.piece {md : Nat} {e : TypeId} {sub : List Shp} {es : List (List D)} {A : Option Addr} {n c : Nat} (h : Rep w Z (.l md e sub) (.l es) (.slice A n c) []) (h0 : md ≠ 0) {l hi : Nat} (h1 : l ≤ hi) (h2 : hi ≤ es.length) (hs : 0 < sub.length) :
 Rep w Z (.l md e sub) (.l ((es.take hi).drop l)) (.slice (reA A c l sub.length) (hi - l) (c - l)) [] := by
 cases h with
 | nil => exact absurd rfl h0
 | tree k1 k2 kc k3 k4 =>
   rename_i css
   have hlen : ((es.take hi).drop l).length = hi - l := by simp; omega
   obtain ⟨f1, f2, hf, r1, _⟩ := k4.cut hi
   obtain ⟨rfl, rfl⟩ : f1 = [] ∧ f2 = [] := by simpa using hf.symm
   obtain ⟨f1, f2, hf, _, r2⟩ := r1.cut l
   obtain ⟨rfl, rfl⟩ : f1 = [] ∧ f2 = [] := by simpa using hf.symm
   rw [← hlen]
   refine .tree k1 (by omega) (by omega) (fun hne => ?_) r2
   have hl2 : l < hi := by
    by_cases hlt : l < hi
    ·exact hlt
    ·exfalso
     apply hne
     have : (css.take hi).drop l = [] := List.drop_eq_nil_of_le (by simp; omega)
     rw [this]; rfl
   have hne2 : css.flatten ≠ [] := by
    intro h0'
    have := k4.size
    rw [h0', List.length_nil] at this
    have h3 : 0 < es.length * sub.length := Nat.mul_pos (by omega) hs
    omega
   obtain ⟨p, rfl, hz, hc⟩ := k3 hne2
   refine ⟨p.add (l * sub.length), ?_, by rw [add_block]; exact hz, fun j v hj => ?_⟩
   ·unfold reA
    rw [if_neg (by omega)]
    rfl
   ·rw [Cw.add_add]
    refine hc _ _ ?_
    rw [List.drop_take] at hj
    have := take_flatten_get _ hj
    rw [drop_flatten k4.sizes, List.getElem?_drop] at this
    exact this
theorem Rep.recap {md : Nat} {e : TypeId} {sub : List Shp} {es : List (List D)} {A : Option Addr} {n c m : Nat} (h : Rep w Z (.l md e sub) (.l es) (.slice A n c) []) (h0 : md ≠ 0) (hm : m ≤ es.length) : Rep w Z (.l md e sub) (.l (es.take m)) (.slice A m m) [] := by
 cases h with
 | nil => exact absurd rfl h0
 | tree k1 k2 kc k3 k4 =>
   rename_i css
   have hlen : (es.take m).length = m := by simp; omega
   obtain ⟨f1, f2, hf, r1, _⟩ := k4.cut m
   obtain ⟨rfl, rfl⟩ : f1 = [] ∧ f2 = [] := by simpa using hf.symm
   have := Rep.tree (w := w) (Z := Z) (md := md) (e := e) (A := A) (c := m) (es := es.take m) k1 (by omega) (by omega) (fun hne => by
    have hne2 : css.flatten ≠ [] := fun h0' => by
     have h3 : css.flatten = (css.take m).flatten ++ (css.drop m).flatten := by rw [← List.flatten_append, List.take_append_drop]
     rw [h0'] at h3
     exact hne (List.append_eq_nil_iff.1 h3.symm).1
    obtain ⟨p, rfl, hz, hc⟩ := k3 hne2
    exact ⟨p, rfl, hz, fun j v hj => hc _ _ (take_flatten_get _ hj)⟩) r1
   rwa [hlen] at this
end
section
variable {P : Program} {ops : Array Oper} {st : St} {T : List (Nat × Bool)} {o : Oper}
def quietGen (P : Program) (st : St) (T : List (Nat × Bool)) (o : Oper) : Option (Option Prop × CV × St) :=
 match nilCmp P st T o with
 | some b => some (none, .v (.bool b), st)
 | none =>
   let xs := semOpnds o
   if isPureAt st T o && st.can T xs then
    match semOf (st.rho T) o with
    | some s =>
      match pureOf P s with
      | some v => some (none, .v v, st.escs T xs)
      | none => none
    | none => none
   else none
theorem quiet_generic (hp : isPure o = true) (hb : ∀ t x y u, o.op ≠ .binOp .shl t x y u ∧ o.op ≠ .binOp .shr t x y u ∧ o.op ≠ .binOp .quo t x y u ∧ o.op ≠ .binOp .rem t x y u) : quietOp P ops st T o = quietGen P st T o := by
 obtain ⟨dst, op, type, pos, after, guard⟩ := o
 cases op <;> simp only [isPure, Bool.false_eq_true] at hp <;> try rfl
 rename_i bop t x y u
 have := hb t x y u
 cases bop <;> first | rfl | (exfalso; simp at this; done)
theorem opRel_nil {o : Oper} (h : ∀ b t x y u, o.op ≠ .binOp b t x y u) : nilCmp P st T o = none := by
 unfold nilCmp
 split
 ·rename_i hop; exact absurd hop (h _ _ _ _ _)
 ·rename_i hop; exact absurd hop (h _ _ _ _ _)
 ·rfl
end
section
variable {hd : List Value} {E : Nat → Nat → Prop}
theorem CR.cells {v y : Value} (h : CR hd E v y) (ht : notTup v = true) : All2 (CRf hd E) v.cells.toList y.cells.toList := by
 have := h.lvs (fun xs he => by subst he; simp [notTup] at ht)
 have e : v.cells.toList = Dw.lvs v := by cases v <;> rfl
 rw [e]; exact this
theorem parts_ok {sizes : List Nat} : ∀ {ids : List Nat} {vs ys : List Value}, All2 (CR hd E) vs ys → vs.all notTup = true → partsOk sizes (ids.zip vs) = true → partsOk sizes (ids.zip ys) = true
 | [], _, _, _, _, _ => by simp [partsOk]
 | i :: ids, _, _, .nil, _, _ => by simp [partsOk]
 | i :: ids, _, _, .cons (a := a) (b := b) h1 h2, ht, hp => by
   simp only [List.all_cons, Bool.and_eq_true] at ht
   simp only [List.zip_cons_cons, partsOk] at hp ⊢
   split at hp
   ·simp only [Bool.and_eq_true, beq_iff_eq] at hp ⊢
    exact ⟨by rw [hp.1]; exact (h1.cells ht.1).len.symm, parts_ok h2 ht.2 hp.2⟩
   ·cases hp
theorem fill_ok {offs : List Nat} : ∀ {ids : List Nat} {vs ys cs cs' r : List Value}, All2 (CR hd E) vs ys → vs.all notTup = true → All2 (CRf hd E) cs cs' → fillL offs cs (ids.zip vs) = some r → ∃ r', fillL offs cs' (ids.zip ys) = some r' ∧ All2 (CRf hd E) r r'
 | [], _, _, cs, cs', r, _, _, hc, hf => by
   simp only [List.zip_nil_left, fillL, Option.some.injEq] at hf ⊢
   subst hf
   exact ⟨_, rfl, hc⟩
 | i :: ids, _, _, cs, cs', r, .nil, _, hc, hf => by
   simp only [List.zip_nil_right, fillL, Option.some.injEq] at hf ⊢
   subst hf
   exact ⟨_, rfl, hc⟩
 | i :: ids, _, _, cs, cs', r, .cons (a := a) (b := b) h1 h2, ht, hc, hf => by
   simp only [List.all_cons, Bool.and_eq_true] at ht
   simp only [List.zip_cons_cons, fillL] at hf ⊢
   have hl := h1.cells ht.1
   split at hf
   ·rename_i off hoff
    split at hf
    ·rename_i hle
     rw [if_pos (by rw [hl.len, hc.len]; exact hle)]
     refine fill_ok h2 ht.2 ?_ hf
     rw [hl.len]
     exact ((hc.take _).append hl).append (hc.drop _)
    ·cases hf
   ·cases hf
theorem const_cells {z : Array Value} (h : constV (.agg z) = true) : All2 (CRf hd E) z.toList z.toList := by
 obtain ⟨ys, h1, h2⟩ := CR.const (hd := hd) (E := E) h
 cases h1
 simpa using h2
theorem eqFs_plain {P : Program} : ∀ (xs ys : List Value), xs.all plainV = true → All2 (CRf hd E) xs ys → ys = xs
 | [], _, _, .nil => rfl
 | x :: xs, _, hp, .cons h1 h2 => by
   simp only [List.all_cons, Bool.and_eq_true] at hp
   rw [h1.of_plain hp.1, eqFs_plain (P := P) xs _ hp.2 h2]
end
section
variable {cx : Cx} {ops : Array Oper} {s s' : DS} {T : List (Nat × Bool)} {o : Oper} {p : Option Prop} {cv : DC} {hd : List Value} {Z0 Z : Nat → Nat → Prop} {F : Nat → List Nat} {st : St} {w : World}
theorem CRa.cr {hd : List Value} {E : Nat → Nat → Prop} {x y : Value} (h : CRa hd E x y) : CR hd E x y := by
 cases x <;> first | exact h | (have := h.1; simp [constV] at this; done)
theorem rds_len (md : Nat) : ∀ s : List Shp, (Shp.rds md s).length = s.length
 | [] => rfl
 | _ :: r => by simp [Shp.rds, rds_len md r]
theorem len_pure {P : Program} {t e ty : TypeId} (hu : P.underlying t = some (.slice e)) {A : Option Addr} {n c : Nat} : pureOf P (Builtin.len_ #[t] ty #[.slice A n c]) = some (.int .i64 (n : Int)) := by
 show pureOf P ((match P.underlying t with | some d => (pure d : Sem TypeDesc) | none => stuck "no such type") >>= fun d => _) = _
 rw [hu]
 rfl
theorem pureOf_und {α : Type} {P : Program} {t : TypeId} {d : TypeDesc} (hu : P.underlying t = some d) (k : TypeDesc → Sem α) : pureOf P (underlying t >>= k) = pureOf P (k d) := by
 show pureOf P ((match P.underlying t with | some d => (pure d : Sem TypeDesc) | none => stuck "no such type") >>= k) = _
 rw [hu]
 rfl
theorem lens_pure {P : Program} {t ty : TypeId} (hu : P.underlying t = some .string) {b : ByteArray} : pureOf P (Builtin.len_ #[t] ty #[.string b]) = some (.int .i64 (b.size : Int)) := by
 show pureOf P ((match P.underlying t with | some d => (pure d : Sem TypeDesc) | none => stuck "no such type") >>= fun d => _) = _
 rw [hu]
 rfl
theorem conv_pure {P : Program} {s d e : TypeId} (hs : P.underlying s = some (.slice e)) (hd : P.underlying d = some .string) (he : P.underlying e = some (.int .u8)) {A : Option Addr} {c : Nat} :
 pureOf P (convert s d (.slice A 0 c)) = some (.string .empty) ∧ ∀ p n, pureOf P (convert s d (.slice (some p) (n + 1) c)) = none := by
 refine ⟨?_, fun p n => ?_⟩
 ·unfold convert
  rw [pureOf_und hs, pureOf_und hd]
  cases A with
  | none => 
    show pureOf P (underlying e >>= _) = _
    rw [pureOf_und he]; rfl
  | some p => 
    show pureOf P (underlying e >>= _) = _
    rw [pureOf_und he]; rfl
 ·unfold convert
  rw [pureOf_und hs, pureOf_und hd]
  show pureOf P (underlying e >>= _) = _
  rw [pureOf_und he]
  rfl
theorem nil_none {P : Program} {st : St} {T : List (Nat × Bool)} {o : Oper} (h : ∀ x ∈ semOpnds o, ∃ v, st.rd T x = some (.v v) ∧ plainV v = true) : nilCmp P st T o = none := by
 have key : ∀ (x : Operand), (∃ v, st.rd T x = some (.v v) ∧ plainV v = true) → isAggCv (st.rd T x) = false := by
  rintro x ⟨v, h1, h2⟩
  rw [h1]
  cases v <;> first | rfl | (simp [plainV] at h2)
 have nb : ∀ (t : TypeId) (x : Operand) (v : Value), (∃ u, st.rd T (.const v) = some (.v u) ∧ plainV u = true) → isNilB P st T t x v = none := by
  rintro t x v ⟨u, h1, h2⟩
  cases h1
  cases v <;> first | rfl | (simp [plainV] at h2)
 unfold nilCmp
 split
 ·rename_i t x y u hop
  have hx := h x (by simp [semOpnds, hop])
  have hy := h y (by simp [semOpnds, hop])
  rw [key x hx]
  split
  ·rename_i hh; cases hh
  ·split
   ·exact nb _ _ _ hy
   ·rfl
 ·rename_i t x y u hop
  have hx := h x (by simp [semOpnds, hop])
  have hy := h y (by simp [semOpnds, hop])
  rw [key x hx]
  split
  ·rename_i hh; cases hh
  ·split
   ·rw [nb _ _ _ hy]
   ·rfl
 ·rfl
theorem aggCmp1_ok {cx : Cx} {s : DS} {T : List (Nat × Bool)} {hd : List Value} {st : St} {t : TypeId} {x y : Operand} {b : Bool} (h : Ek cx.P s hd st) (hq : aggCmp1 cx.P s T t x y = some b) : isAggCv (st.rd T x) = true ∧ aggEq cx.P st T t x y = some b := by
 unfold aggCmp1 at hq
 split at hq
 ·rename_i fs xs ys hu hx hy
  split at hq
  ·rename_i hc
   simp only [Bool.and_eq_true] at hc
   obtain ⟨⟨hp, px⟩, py⟩ := hc
   have key : ∀ (x : Operand) (xs : Array Value), s.rd T x = some (.v (.agg xs)) → xs.toList.all plainV = true → st.rd T x = some (.v (.agg xs)) := by
    intro x xs hx px
    obtain ⟨cv', h1, h2⟩ := rd_ok h hx
    obtain ⟨z, hz, rfl⟩ := cvR_v h2 (by intros; simp)
    obtain ⟨zs, rfl, hall⟩ := hz
    have := eqFs_plain (P := cx.P) _ _ px hall
    rw [h1, this]
   have k1 := key x xs hx px
   have k2 := key y ys hy py
   refine ⟨by rw [k1]; rfl, ?_⟩
   unfold aggEq
   simp only [hu, k1, k2, hp]
   exact hq
  ·cases hq
 ·cases hq
def QOk (cx : Cx) (ops : Array Oper) (T : List (Nat × Bool)) (o : Oper) (hd : List Value) (Z0 Z : Nat → Nat → Prop) (F : Nat → List Nat) (st : St) (w : World) (s s' : DS) (p : Option Prop) (cv : DC) : Prop :=
 ∃ p' cv' st' hd', quietOp cx.P ops st T o = some (p', cv', st') ∧ ((∀ q, p = some q → q) → ∀ q, p' = some q → q) ∧ Like st st' ∧ (∀ k b, BxE st k b → BxE st' k b) ∧ Ext hd hd' ∧ CvR hd' st' cv cv' ∧ Lk cx Z0 s' hd' Z F st' w ∧ Keeps s s'
theorem QOk.same (h : Lk cx Z0 s hd Z F st w) {p' : Option Prop} {cv' : CV} (hq : quietOp cx.P ops st T o = some (p', cv', st)) (hp : (∀ q, p = some q → q) → ∀ q, p' = some q → q) (hc : CvR hd st cv cv') : QOk cx ops T o hd Z0 Z F st w s s p cv :=
 ⟨p', cv', st, hd, hq, hp, Like.refl _, fun _ _ h => h, Ext.refl _, hc, h, Keeps.refl _⟩
theorem QOk.escs (h : Lk cx Z0 s hd Z F st w) {p' : Option Prop} {cv' : CV} {xs : List Operand} (hq : quietOp cx.P ops st T o = some (p', cv', st.escs T xs)) (hp : (∀ q, p = some q → q) → ∀ q, p' = some q → q) (hc : CvR hd (st.escs T xs) cv cv') : QOk cx ops T o hd Z0 Z F st w s s p cv :=
 ⟨p', cv', st.escs T xs, hd, hq, hp, Like.escs _ _ _, fun _ _ h => escs_mono T xs st h, Ext.refl _, hc, h.like (Like.escs _ _ _) (fun _ _ h => escs_mono T xs st h), Keeps.refl _⟩
theorem can_plain (h : Ek cx.P s hd st) {xs : List Operand} (hp : s.plain T xs = true) : st.can T xs = true ∧ ∀ x ∈ xs, st.rho T x = s.rho T x := by
 have : ∀ x ∈ xs, ∃ v, s.rd T x = some (.v v) ∧ plainV v = true := by
  intro x hx
  have := List.all_eq_true.1 hp x hx
  split at this
  ·rename_i v hv; exact ⟨v, hv, this⟩
  ·cases this
 refine ⟨List.all_eq_true.2 fun x hx => ?_, fun x hx => ?_⟩
 ·obtain ⟨v, h1, h2⟩ := this x hx
  rw [rd_plain h h1 h2]; rfl
 ·obtain ⟨v, h1, h2⟩ := this x hx
  rw [rho_of (rd_plain h h1 h2)]
  simp [St.den, DS.rho, h1]
theorem semOf_congr {r r' : Operand → Value} {o : Oper} (hp : isPure o = true) (h : ∀ x ∈ semOpnds o, r x = r' x) : semOf r o = semOf r' o := by
 obtain ⟨dst, op, type, pos, after, guard⟩ := o
 cases op <;> simp only [isPure, Bool.false_eq_true] at hp <;> simp only [semOpnds, List.mem_cons, List.not_mem_nil, or_false, forall_eq_or_imp, forall_eq, List.mem_append] at h <;> simp only [semOf]
 case binOp => rw [h.1, h.2]
 case unOp => rw [h]
 case convert => rw [h]
 case extract => rw [h]
 case makeFunc fn a b =>
  have e1 : a.toList.map r = a.toList.map r' := List.map_congr_left fun x hx => h x (.inl hx)
  have e2 : b.toList.map r = b.toList.map r' := List.map_congr_left fun x hx => h x (.inr hx)
  rw [e1, e2]
 case field => rw [h]
 case makeInterface => rw [h]
 case call c =>
  obtain ⟨callee, args, argTypes⟩ := c
  have e1 : args.toList.map r = args.toList.map r' := List.map_congr_left fun x hx => h x hx
  cases callee with
  | builtin b => cases b <;> first | rfl | simp only [e1]
  | value f => rfl
  | invoke a b => rfl
theorem pure_at (hp : isPure o = true) (h1 : ∀ t i, o.op = .extract t i → ∃ v, st.rd T t = some (.v v)) (h2 : ∀ x ∈ semOpnds o, ∀ r, st.rd T x ≠ some (.v (.map r))) : isPureAt st T o = true := by
 unfold isPureAt
 split
 ·rename_i t i hop
  obtain ⟨v, hv⟩ := h1 t i hop
  rw [hv]
 ·rename_i args at_ hop
  refine List.all_eq_true.2 fun x hx => ?_
  have := h2 x (by simp only [semOpnds, hop]; exact hx)
  split
  ·rename_i r hr; exact absurd hr (this r)
  ·rfl
 ·exact hp
theorem dq_ok (h : Lk cx Z0 s hd Z F st w) (hq : dq cx.P ops s T o = some (p, cv, s')) (hT : (T = [] ∨ firm o = true) → ∀ q, p = some q → q) : QOk cx ops T o hd Z0 Z F st w s s' p cv := by
 have mv : ∀ x, (o.op = .move x ∨ o.op = .assign x) → (s.rd T x).map (fun cv => ((none : Option Prop), cv, s)) = some (p, cv, s') → QOk cx ops T o hd Z0 Z F st w s s' p cv := by
  intro x hop hq
  cases hx : s.rd T x with
  | none => rw [hx] at hq; cases hq
  | some c =>
    rw [hx] at hq
    simp only [Option.map_some, Option.some.injEq, Prod.mk.injEq] at hq
    obtain ⟨rfl, rfl, rfl⟩ := hq
    obtain ⟨cv', h1, h2⟩ := rd_ok h.ek hx
    refine .same h (p' := none) (cv' := cv') ?_ (fun h => h) h2
    rcases hop with hop | hop <;> simp only [quietOp, hop, h1, Option.map_some]
 unfold dq at hq
 split at hq
 ·rename_i x hop; exact mv x (.inl hop) hq
 ·rename_i x hop; exact mv x (.inr hop) hq
 ·rename_i c a b hop
  split at hq
  ·rename_i d
   split at hq
   ·rename_i j cb hj hc
    have hc' := rd_plain h.ek hc rfl
    split at hq
    ·rename_i x y hx hy
     have hx' := rd_plain h.ek hx rfl
     have hy' := rd_plain h.ek hy rfl
     simp only [Option.some.injEq, Prod.mk.injEq] at hq
     obtain ⟨rfl, rfl, rfl⟩ := hq
     exact .same h (p' := none) (by simp only [quietOp, hop, hj, hc', hx', hy']) (fun h => h) ⟨_, CR.plain rfl, .inl rfl⟩
    ·rename_i k x k' y hx hy
     have hx' := rd_plain h.ek hx rfl
     have hy' := rd_plain h.ek hy rfl
     split at hq
     ·rename_i hk
      subst hk
      simp only [Option.some.injEq, Prod.mk.injEq] at hq
      obtain ⟨rfl, rfl, rfl⟩ := hq
      exact .same h (p' := none) (by simp only [quietOp, hop, hj, hc', hx', hy', if_true]) (fun h => h) ⟨_, CR.plain rfl, .inl rfl⟩
     ·cases hq
    ·cases hq
   ·cases hq
  ·cases hq
 ·rename_i x hop
  split at hq
  ·rename_i k off hx
   simp only [Option.some.injEq, Prod.mk.injEq] at hq
   obtain ⟨rfl, rfl, rfl⟩ := hq
   obtain ⟨cv', h1, h2⟩ := rd_ok h.ek hx
   obtain ⟨rfl, hk⟩ := h2
   exact .same h (p' := none) (by simp only [quietOp, hop, h1]) (fun h => h) ⟨rfl, hk⟩
  ·rename_i r i sz off hx
   simp only [Option.some.injEq, Prod.mk.injEq] at hq
   obtain ⟨rfl, rfl, rfl⟩ := hq
   obtain ⟨cv', h1, h2⟩ := rd_ok h.ek hx
   have h2' := h2
   obtain ⟨v, hv, rfl, hz⟩ := h2
   exact .same h (p' := none) (by simp only [quietOp, hop, h1]) (fun h => h) h2'
  ·rename_i q hx
   split at hq
   ·rename_i hc
    obtain ⟨cv', h1, h2⟩ := rd_ok h.ek hx
    obtain ⟨y, hy, rfl⟩ := cvR_v h2 (by intros; simp)
    split at hq
    ·rename_i md t cs htb
     simp only [Option.some.injEq, Prod.mk.injEq] at hq
     obtain ⟨rfl, rfl, rfl⟩ := hq
     obtain ⟨c, v, _, k2, cs', k3, k4⟩ := h.tk.at htb (by simp)
     rcases (show CRl hd (BxE st) (.pointer (some q)) y from hy) with ⟨_, _, _, hy⟩ | ⟨hv, _⟩
     ·rw [hy] at k2
      obtain rfl := Option.some.inj k2
      have : ∃ q, y = .pointer (some q) := by
       rcases k4 with ⟨_, b, k4, _⟩ | ⟨_, q, k4, _⟩ <;> exact ⟨_, k4⟩
      obtain ⟨q', rfl⟩ := this
      exact .same h (p' := some ((some q').isSome = true)) (cv' := .ep (some q') 0) (by simp only [quietOp, hop, h1]) (fun _ q h => by obtain rfl := Option.some.inj h; rfl) ⟨_, hy, by simp [baseOf], fun _ => by simp [baseOf]⟩
     ·rw [hc.2] at hv; cases hv
    ·cases hq
   ·cases hq
  ·cases hq
 ·rename_i sx x f hop
  split at hq
  ·rename_i off k off0 hf hx
   simp only [Option.some.injEq, Prod.mk.injEq] at hq
   obtain ⟨rfl, rfl, rfl⟩ := hq
   obtain ⟨cv', h1, rfl, hk⟩ := rd_ok h.ek hx
   exact .same h (p' := none) (by simp only [quietOp, hop, hf, h1]) (fun h => h) ⟨rfl, hk⟩
  ·rename_i off r i sz off0 hf hx
   simp only [Option.some.injEq, Prod.mk.injEq] at hq
   obtain ⟨rfl, rfl, rfl⟩ := hq
   obtain ⟨cv', h1, v, hv, rfl, hz⟩ := rd_ok h.ek hx
   exact .same h (p' := none) (cv' := .ep (baseOf v) (i * sz + off0 + off)) (by simp only [quietOp, hop, hf, h1]) (fun h => h) ⟨v, hv, by rw [Nat.add_assoc], hz⟩
  ·cases hq
 ·rename_i t x hop
  split at hq
  ·rename_i k off hx
   obtain ⟨cv', h1, rfl, hk⟩ := rd_ok h.ek hx
   split at hq
   ·rename_i b d hb hdd
    obtain ⟨b', g1, g2, g3⟩ := h.ek.bx k b hb
    simp only at hq
    split at hq
    ·rename_i hn
     have hne : b.cs ≠ [] := by
      intro h0
      rw [h0] at hn
      simp at hn
      omega
     have hall := ((g3 hne).drop off).take (cx.P.cellsOf t)
     rw [← List.map_drop, ← List.map_take, ← List.map_drop, ← List.map_take] at hall
     have hlen := hall.len
     split at hq
     ·rename_i hag
      simp only [Option.some.injEq, Prod.mk.injEq] at hq
      obtain ⟨rfl, rfl, rfl⟩ := hq
      exact .same h (p' := none) (cv' := .v (.agg ((List.map (fun x => x.1) (List.take (cx.P.cellsOf t) (List.drop off b'.cs))).toArray))) (by
       simp only [quietOp, hop, h1, g1, hdd]
       rw [if_pos (hlen.trans hn.1), if_pos hag]) (fun h => h) ⟨_, ⟨_, rfl, by simpa using hall⟩, .inl rfl⟩
     ·rename_i hag
      split at hq
      ·rename_i x' k' hvs hsh
       split at hq
       ·rename_i hka
        simp only [Option.some.injEq, Prod.mk.injEq] at hq
        obtain ⟨rfl, rfl, rfl⟩ := hq
        rw [hvs] at hall hn hlen
        obtain ⟨y, hy⟩ : ∃ y, List.map (fun x => x.1) (List.take (cx.P.cellsOf t) (List.drop off b'.cs)) = [y] := by
         cases hl2 : List.map (fun x => x.1) (List.take (cx.P.cellsOf t) (List.drop off b'.cs)) with
         | nil => rw [hl2] at hlen; simp at hlen
         | cons a l =>
           rw [hl2] at hlen
           obtain rfl : l = [] := by simpa using hlen
           exact ⟨a, rfl⟩
        rw [hy] at hall
        have hxy : CRf hd (BxE st) x' y := by cases hall; assumption
        have hxy' : CR hd (BxE st) x' y := by
         cases x' <;> first | exact hxy | (have := hxy.1; simp [constV] at this; done) | exact absurd rfl (hxy.2.1 _)
        refine .same h (p' := none) (cv' := k'.cv y) (by
         simp only [quietOp, hop, h1, g1, hdd, hy]
         rw [if_pos (by rw [← hn.1]; rfl), if_neg hag, hsh]) (fun h => h) ⟨y, hxy', ?_⟩
        cases k' <;> first | exact .inl rfl | (cases x' <;> first | (simp [kAny] at hka; done) | exact .inr ⟨rfl, _, _, _, rfl⟩)
       ·cases hq
      ·cases hq
    ·cases hq
   ·cases hq
  ·cases hq
 ·rename_i t x i hop
  split at hq
  ·rename_i e v k ii he hx hi
   split at hq
   ·rename_i r e' sub es hrec
    split at hq
    ·rename_i hc
     obtain ⟨rfl, hsz, hpos⟩ := hc
     simp only [Option.some.injEq, Prod.mk.injEq] at hq
     obtain ⟨rfl, rfl, rfl⟩ := hq
     obtain ⟨cv', h1, h2⟩ := rd_ok h.ek hx
     have hi' := rd_plain h.ek hi rfl
     have hvf : ∃ q n c, v = .slice (some q) n c := by
      unfold DS.recs at hrec
      split at hrec
      ·exact ⟨_, _, _, rfl⟩
      ·cases hrec
     obtain ⟨q, n, c, rfl⟩ := hvf
     obtain ⟨y, hy, rfl⟩ := cvR_v h2 (by intros; simp)
     obtain ⟨A, c', rfl, hlc, hhd, hsome, hmax⟩ := recs_ok h.tk (v := .slice (some q) n c) hy hrec
     refine .same h (p' := some (0 ≤ ii ∧ ii < (es.length : Int) ∧ A.isSome = true)) (cv' := .ep A (ii.toNat * cx.P.cellsOf e)) (by simp only [quietOp, hop, he, h1, hi']) (fun hp q hq => ?_) ⟨_, hhd, by rw [hsz]; rfl, fun h0 => by omega⟩
     obtain rfl := Option.some.inj hq
     obtain ⟨a, b⟩ := hp _ rfl
     exact ⟨a, b, hsome (by omega) hpos⟩
    ·cases hq
   ·cases hq
  ·cases hq
 ·rename_i t x y u hop
  split at hq
  ·rename_i k a k' b hx hy
   have hx' := rd_plain h.ek hx rfl
   have hy' := rd_plain h.ek hy rfl
   simp only at hq
   split at hq
   ·rename_i k2 c
    split at hq
    ·rename_i hc
     simp only [Option.some.injEq, Prod.mk.injEq] at hq
     obtain ⟨rfl, rfl, rfl⟩ := hq
     exact .same h (p' := none) (by simp only [quietOp, hop, hx', hy', if_pos hc]) (fun h => h) ⟨_, CR.plain rfl, .inl rfl⟩
    ·cases hq
   ·rename_i hnc
    simp only [Option.some.injEq, Prod.mk.injEq] at hq
    obtain ⟨rfl, rfl, rfl⟩ := hq
    refine .same h (p' := some (0 ≤ b)) (cv' := .v (.int k (k.wrap (a * 2 ^ (min b.toNat k.bits))))) ?_ (fun h => h) ⟨_, CR.plain rfl, .inl rfl⟩
    simp only [quietOp, hop, hx', hy']
  ·cases hq
 ·rename_i t x y u hop
  split at hq
  ·rename_i k a k' b hx hy
   have hx' := rd_plain h.ek hx rfl
   have hy' := rd_plain h.ek hy rfl
   simp only at hq
   split at hq
   ·rename_i k2 c
    split at hq
    ·rename_i hc
     simp only [Option.some.injEq, Prod.mk.injEq] at hq
     obtain ⟨rfl, rfl, rfl⟩ := hq
     exact .same h (p' := none) (by simp only [quietOp, hop, hx', hy', if_pos hc]) (fun h => h) ⟨_, CR.plain rfl, .inl rfl⟩
    ·cases hq
   ·rename_i hnc
    simp only [Option.some.injEq, Prod.mk.injEq] at hq
    obtain ⟨rfl, rfl, rfl⟩ := hq
    refine .same h (p' := some (0 ≤ b)) (cv' := .v (.int k (a.fdiv (2 ^ (min b.toNat k.bits))))) ?_ (fun h => h) ⟨_, CR.plain rfl, .inl rfl⟩
    simp only [quietOp, hop, hx', hy']
  ·cases hq
 ·rename_i t x y u hop
  split at hq
  ·rename_i k a k' b hx hy
   have hx' := rd_plain h.ek hx rfl
   have hy' := rd_plain h.ek hy rfl
   split at hq
   ·rename_i hk
    subst hk
    simp only at hq
    split at hq
    ·rename_i k2 c
     split at hq
     ·cases hq
     ·rename_i hc
      simp only [Option.some.injEq, Prod.mk.injEq] at hq
      obtain ⟨rfl, rfl, rfl⟩ := hq
      exact .same h (p' := none) (by simp only [quietOp, hop, hx', hy', if_neg hc, if_true]) (fun h => h) ⟨_, CR.plain rfl, .inl rfl⟩
    ·rename_i hnc
     simp only [Option.some.injEq, Prod.mk.injEq] at hq
     obtain ⟨rfl, rfl, rfl⟩ := hq
     refine .same h (p' := some (b ≠ 0)) (cv' := .v (.int k (k.wrap (a.tdiv b)))) ?_ (fun h => h) ⟨_, CR.plain rfl, .inl rfl⟩
     simp only [quietOp, hop, hx', hy', if_true]
   ·cases hq
  ·cases hq
 ·rename_i t x y u hop
  split at hq
  ·rename_i k a k' b hx hy
   have hx' := rd_plain h.ek hx rfl
   have hy' := rd_plain h.ek hy rfl
   split at hq
   ·rename_i hk
    subst hk
    simp only at hq
    split at hq
    ·rename_i k2 c
     split at hq
     ·cases hq
     ·rename_i hc
      simp only [Option.some.injEq, Prod.mk.injEq] at hq
      obtain ⟨rfl, rfl, rfl⟩ := hq
      exact .same h (p' := none) (by simp only [quietOp, hop, hx', hy', if_neg hc, if_true]) (fun h => h) ⟨_, CR.plain rfl, .inl rfl⟩
    ·rename_i hnc
     simp only [Option.some.injEq, Prod.mk.injEq] at hq
     obtain ⟨rfl, rfl, rfl⟩ := hq
     refine .same h (p' := some (b ≠ 0)) (cv' := .v (.int k (a.tmod b))) ?_ (fun h => h) ⟨_, CR.plain rfl, .inl rfl⟩
     simp only [quietOp, hop, hx', hy', if_true]
   ·cases hq
  ·cases hq
 ·-- a struct's literal
  rename_i t parts hop
  split at hq
  ·rename_i fs z vs hu hz hvs
   simp only at hq
   split at hq
   ·rename_i hc
    simp only [Bool.and_eq_true] at hc
    obtain ⟨⟨⟨hcz, hnt⟩, hinf⟩, hpo⟩ := hc
    split at hq
    ·rename_i cs hfill
     simp only [Option.some.injEq, Prod.mk.injEq] at hq
     obtain ⟨rfl, rfl, rfl⟩ := hq
     obtain ⟨k1, k2⟩ := vals_ok (E := BxE (st.escs T (parts.toList.map (·.2)))) h.ek (fun _ _ h => escs_mono _ _ _ h) _ _ (fun x hx k off h1 h2 => escs_hit T _ st hx h1 h2) hvs
     have hzip : parts.toList.map (fun p => (p.1, st.rho T p.2)) = (parts.toList.map (·.1)).zip ((parts.toList.map (·.2)).map (st.rho T)) := by
      rw [List.map_map]
      induction parts.toList with
      | nil => rfl
      | cons a l ih => simp [ih]
     obtain ⟨cs', hf', hcs⟩ := fill_ok k2 hnt (const_cells hcz) hfill
     have hpo' := parts_ok k2 hnt hpo
     refine .escs h (p' := none) (cv' := .v (.agg cs'.toArray)) (xs := parts.toList.map (·.2)) ?_ (fun h => h) ⟨_, ⟨cs', rfl, by simpa using hcs⟩, .inl rfl⟩
     simp only [quietOp, hop, hu, hz, k1]
     rw [hzip]
     rw [if_pos (by rw [hinf, hpo']; rfl), hf']
    ·cases hq
   ·cases hq
  ·cases hq
 ·-- a piece
  rename_i t x lo hi hop
  split at hq
  ·rename_i e v hh ll he hx hhi hlo
   split at hq
   ·rename_i r e' sub es hrec
    split at hq
    ·rename_i hc
     obtain ⟨rfl, hsz, hpos⟩ := hc
     simp only [Option.some.injEq, Prod.mk.injEq] at hq
     obtain ⟨rfl, rfl, rfl⟩ := hq
     have hp := hT (.inr (by simp only [firm, hop]))
     obtain ⟨cv', h1, h2⟩ := rd_ok h.ek hx
     have ends : ∀ (b : Option Operand) (r : Option Int), sEnd s T b = some r → sliceEnd st T b = some r := by
      intro b r hb
      cases b with
      | none => exact hb
      | some b =>
        simp only [sEnd] at hb
        split at hb
        ·rename_i k i hi'
         obtain rfl := Option.some.inj hb
         simp only [sliceEnd, rd_plain h.ek hi' rfl]
        ·cases hb
     have hhi' := ends _ _ hhi
     have hlo' := ends _ _ hlo
     have hrec' := hrec
     unfold DS.recs at hrec'
     split at hrec'
     ·rename_i q n0 c0
      by_cases hev : evenB q = true
      ·rw [if_pos hev] at hrec'
       obtain ⟨y, hy, rfl⟩ := cvR_v h2 (by intros; simp)
       obtain ⟨A, c', rfl, hlc, hhd, hsome, hmax⟩ := recs_ok h.tk (v := .slice (some q) n0 c0) hy hrec
       -- the bounds
       have hb : boundN 0 ll ≤ boundN es.length hh ∧ boundN es.length hh ≤ es.length := by
        cases hh with
        | none =>
          cases ll with
          | none => exact ⟨Nat.zero_le _, Nat.le_refl _⟩
          | some l =>
            have := hp _ rfl
            simp only [boundN] at this ⊢
            exact ⟨by omega, Nat.le_refl _⟩
        | some hv =>
          cases ll with
          | none =>
            have := hp _ rfl
            simp only [boundN] at this ⊢
            omega
          | some l =>
            have := hp _ rfl
            simp only [boundN] at this ⊢
            omega
       have hy2 : ∃ A' n' c2, (Value.slice (reA A c' (boundN 0 ll) (cx.P.cellsOf e)) (boundN es.length hh - boundN 0 ll) (c' - boundN 0 ll)) = .slice A' n' c2 := ⟨_, _, _, rfl⟩
       have hF : F s.tb.length = [] := h.tk.f0 _ (Nat.le_refl _)
       -- the new entry
       have hte : TeOk w Z (hd ++ [Value.slice (reA A c' (boundN 0 ll) (cx.P.cellsOf e)) (boundN es.length hh - boundN 0 ll) (c' - boundN 0 ll)]) (BxE st) (upd F s.tb.length []) none [] s.tb.length (Value.slice (reA A c' (boundN 0 ll) (cx.P.cellsOf e)) (boundN es.length hh - boundN 0 ll) (c' - boundN 0 ll)) (piece r ((es.take (boundN es.length hh)).drop (boundN 0 ll)) (s.tbAt r)) := by
        rw [upd_nil hF, hsz]
        split at hrec'
        ·rename_i md e2 sub2 es2 htb
         simp only [Option.some.injEq, Prod.mk.injEq] at hrec'
         obtain ⟨rfl, rfl, rfl, rfl⟩ := hrec'
         rw [htb]
         obtain ⟨c, v', _, k2, k3⟩ := h.tk.at htb (by simp)
         rw [hhd] at k2
         obtain rfl := Option.some.inj k2
         have k3' : Rep w Z (.l md e2 sub2) (.l es2) (.slice A es2.length c') (F (q.block / 2)) := k3
         cases md with
         | zero =>
           have := Rep.rd (md := 2) (Z' := Vw Z F none [] (q.block / 2) true) (.inr rfl) (fun m k hk => .inl hk) (fun k hk => .inl (h.tk.sp.z2 _ k hk)) k3' fun m k hk => .inr (.inl ⟨rfl, hk⟩)
           refine ⟨hF, ?_⟩
           have hl : (Shp.rds 2 sub2).length = sub2.length := rds_len 2 sub2
           have := Rep.piece (sub := Shp.rds 2 sub2) this (by decide) hb.1 hb.2 (by rw [hl]; exact hpos)
           rwa [hl] at this
         | succ md =>
           show Rep w Z _ _ _ (F s.tb.length)
           rw [hF]
           have hf0 := k3'.tree_nil (by omega)
           rw [hf0] at k3'
           exact Rep.piece k3' (by omega) hb.1 hb.2 hpos
        ·rename_i r0 rt e2 sub2 es2 htb
         simp only [Option.some.injEq, Prod.mk.injEq] at hrec'
         obtain ⟨rfl, rfl, rfl, rfl⟩ := hrec'
         rw [htb]
         obtain ⟨c, v', _, k2, k3⟩ := h.tk.at htb (by simp)
         rw [hhd] at k2
         obtain rfl := Option.some.inj k2
         exact ⟨hF, Rep.piece k3.2 (by decide) hb.1 hb.2 hpos⟩
        ·cases hrec'
       have hadd := Tk.add (f := []) (c := s.ctr) h.tk hte
       rw [upd_nil hF] at hadd
       refine ⟨boundP (c' : Int) hh (boundN es.length hh : Nat) ll, .v (Value.slice (reA A c' (boundN 0 ll) (cx.P.cellsOf e)) (boundN es.length hh - boundN 0 ll) (c' - boundN 0 ll)), st, hd ++ [Value.slice (reA A c' (boundN 0 ll) (cx.P.cellsOf e)) (boundN es.length hh - boundN 0 ll) (c' - boundN 0 ll)], ?_, ?_, Like.refl _, fun _ _ h => h, Ext.app _ _, ⟨_, slV_cr (E := BxE st) h.tk.hl hy2, .inl rfl⟩, ⟨h.ek.ext (Ext.app _ _) rfl rfl rfl, hadd, h.fr, h.z0, h.zg⟩, Keeps.addT _ _⟩
       ·simp only [quietOp, hop, he, h1, hhi', hlo']
       ·intro hp q' hq'
        cases hh with
        | none =>
          cases ll with
          | none => cases hq'
          | some l =>
            obtain rfl := Option.some.inj hq'
            exact hp _ rfl
        | some hv =>
          cases ll with
          | none =>
            obtain rfl := Option.some.inj hq'
            have := hp _ rfl
            exact ⟨this.1, by have := this.2; omega⟩
          | some l =>
            obtain rfl := Option.some.inj hq'
            have := hp _ rfl
            exact ⟨⟨this.1.1, by have := this.1.2; omega⟩, this.2⟩
      ·rw [if_neg hev] at hrec'; cases hrec'
     ·cases hrec'
    ·cases hq
   ·cases hq
  ·rename_i b hh ll he hx hhi hlo
   split at hq
   ·rename_i hu
    simp only [Option.some.injEq, Prod.mk.injEq] at hq
    obtain ⟨rfl, rfl, rfl⟩ := hq
    have ends : ∀ (b : Option Operand) (r : Option Int), sEnd s T b = some r → sliceEnd st T b = some r := by
     intro b r hb
     cases b with
     | none => exact hb
     | some b =>
       simp only [sEnd] at hb
       split at hb
       ·rename_i k i hi'
        obtain rfl := Option.some.inj hb
        simp only [sliceEnd, rd_plain h.ek hi' rfl]
       ·cases hb
    have hhi' := ends _ _ hhi
    have hlo' := ends _ _ hlo
    have h1 := rd_plain h.ek hx rfl
    exact .same h (p' := boundP (b.size : Int) hh (boundN b.size hh : Nat) ll) (cv' := .v (.string (b.extract (boundN 0 ll) (boundN b.size hh)))) (by simp only [quietOp, hop, he, h1, hhi', hlo', hu]) (fun h => h) ⟨_, CR.plain rfl, .inl rfl⟩
   ·cases hq
  ·cases hq
 ·-- a string's byte
  rename_i t x i hop
  split at hq
  ·rename_i b k i' hu hx hi
   simp only [Option.some.injEq, Prod.mk.injEq] at hq
   obtain ⟨rfl, rfl, rfl⟩ := hq
   have h1 := rd_plain h.ek hx rfl
   have h2 := rd_plain h.ek hi rfl
   exact .same h (p' := some (0 ≤ i' ∧ i' < (b.size : Int))) (cv' := .v (.int .u8 (strAt b i'.toNat))) (by simp only [quietOp, hop, h1, h2, hu]) (fun h => h) ⟨_, CR.plain rfl, .inl rfl⟩
  ·cases hq
 ·-- a piece that is told with its capacity
  rename_i t x lo hi mx hop
  split at hq
  ·rename_i e v kh hh ll km mm he hx hhi hlo hmx
   split at hq
   ·rename_i r e' sub es hrec
    split at hq
    ·rename_i hc
     obtain ⟨rfl, hsz, hpos⟩ := hc
     simp only [Option.some.injEq, Prod.mk.injEq] at hq
     obtain ⟨rfl, rfl, rfl⟩ := hq
     obtain ⟨⟨hm1, hm2⟩, ⟨hh1, hh2⟩, hl1⟩ := hT (.inr (by simp only [firm, hop])) _ rfl
     obtain ⟨cv', h1, h2⟩ := rd_ok h.ek hx
     have hhi' := rd_plain h.ek hhi rfl
     have hmx' := rd_plain h.ek hmx rfl
     have hlo' : sliceEnd st T lo = some ll := by
      cases lo with
      | none => exact hlo
      | some b =>
        simp only [sEnd] at hlo
        split at hlo
        ·rename_i k i hi'
         obtain rfl := Option.some.inj hlo
         simp only [sliceEnd, rd_plain h.ek hi' rfl]
        ·cases hlo
     have hrec' := hrec
     unfold DS.recs at hrec'
     split at hrec'
     ·rename_i q n0 c0
      by_cases hev : evenB q = true
      ·rw [if_pos hev] at hrec'
       obtain ⟨y, hy, rfl⟩ := cvR_v h2 (by intros; simp)
       obtain ⟨A, c', rfl, hlc, hhd, hsome, hmax⟩ := recs_ok h.tk (v := .slice (some q) n0 c0) hy hrec
       have hb1 : boundN 0 ll ≤ hh.toNat := by
        cases ll with
        | none => exact Nat.zero_le _
        | some l => simp only [lowP] at hl1; simp only [boundN]; omega
       have hb2 : hh.toNat ≤ mm.toNat := by omega
       have hb3 : mm.toNat ≤ es.length := by omega
       have htt : (es.take mm.toNat).take hh.toNat = es.take hh.toNat := by rw [List.take_take, Nat.min_eq_left hb2]
       have hb4 : hh.toNat ≤ (es.take mm.toNat).length := by simp; omega
       have hy2 : ∃ A' n' c2, (Value.slice (reA A mm.toNat (boundN 0 ll) (cx.P.cellsOf e)) (hh.toNat - boundN 0 ll) (mm.toNat - boundN 0 ll)) = .slice A' n' c2 := ⟨_, _, _, rfl⟩
       have hF : F s.tb.length = [] := h.tk.f0 _ (Nat.le_refl _)
       have hte : TeOk w Z (hd ++ [Value.slice (reA A mm.toNat (boundN 0 ll) (cx.P.cellsOf e)) (hh.toNat - boundN 0 ll) (mm.toNat - boundN 0 ll)]) (BxE st) (upd F s.tb.length []) none [] s.tb.length (Value.slice (reA A mm.toNat (boundN 0 ll) (cx.P.cellsOf e)) (hh.toNat - boundN 0 ll) (mm.toNat - boundN 0 ll)) (piece r ((es.take hh.toNat).drop (boundN 0 ll)) (s.tbAt r)) := by
        rw [upd_nil hF, hsz]
        split at hrec'
        ·rename_i md e2 sub2 es2 htb
         simp only [Option.some.injEq, Prod.mk.injEq] at hrec'
         obtain ⟨rfl, rfl, rfl, rfl⟩ := hrec'
         rw [htb]
         obtain ⟨c, v', _, k2, k3⟩ := h.tk.at htb (by simp)
         rw [hhd] at k2
         obtain rfl := Option.some.inj k2
         have k3' : Rep w Z (.l md e2 sub2) (.l es2) (.slice A es2.length c') (F (q.block / 2)) := k3
         cases md with
         | zero =>
           have := Rep.rd (md := 2) (Z' := Vw Z F none [] (q.block / 2) true) (.inr rfl) (fun m k hk => .inl hk) (fun k hk => .inl (h.tk.sp.z2 _ k hk)) k3' fun m k hk => .inr (.inl ⟨rfl, hk⟩)
           refine ⟨hF, ?_⟩
           have hl : (Shp.rds 2 sub2).length = sub2.length := rds_len 2 sub2
           have := Rep.piece (sub := Shp.rds 2 sub2) (Rep.recap this (by decide) hb3) (by decide) hb1 hb4 (by rw [hl]; exact hpos)
           rwa [hl, htt] at this
         | succ md =>
           show Rep w Z _ _ _ (F s.tb.length)
           rw [hF]
           have hf0 := k3'.tree_nil (by omega)
           rw [hf0] at k3'
           have := Rep.piece (Rep.recap k3' (by omega) hb3) (by omega) hb1 hb4 hpos
           rwa [htt] at this
        ·rename_i r0 rt e2 sub2 es2 htb
         simp only [Option.some.injEq, Prod.mk.injEq] at hrec'
         obtain ⟨rfl, rfl, rfl, rfl⟩ := hrec'
         rw [htb]
         obtain ⟨c, v', _, k2, k3⟩ := h.tk.at htb (by simp)
         rw [hhd] at k2
         obtain rfl := Option.some.inj k2
         have := Rep.piece (Rep.recap k3.2 (by decide) hb3) (by decide) hb1 hb4 hpos
         rw [htt] at this
         exact ⟨hF, this⟩
        ·cases hrec'
       have hadd := Tk.add (f := []) (c := s.ctr) h.tk hte
       rw [upd_nil hF] at hadd
       refine ⟨some ((0 ≤ mm ∧ mm ≤ (c' : Int)) ∧ (0 ≤ hh ∧ hh ≤ mm) ∧ lowP hh ll), .v (Value.slice (reA A mm.toNat (boundN 0 ll) (cx.P.cellsOf e)) (hh.toNat - boundN 0 ll) (mm.toNat - boundN 0 ll)), st, hd ++ [Value.slice (reA A mm.toNat (boundN 0 ll) (cx.P.cellsOf e)) (hh.toNat - boundN 0 ll) (mm.toNat - boundN 0 ll)], ?_, ?_, Like.refl _, fun _ _ h => h, Ext.app _ _, ⟨_, slV_cr (E := BxE st) h.tk.hl hy2, .inl rfl⟩, ⟨h.ek.ext (Ext.app _ _) rfl rfl rfl, hadd, h.fr, h.z0, h.zg⟩, Keeps.addT _ _⟩
       ·simp only [quietOp, hop, he, h1, hhi', hlo', hmx']
       ·intro hp q' hq'
        obtain rfl := Option.some.inj hq'
        exact ⟨⟨hm1, by omega⟩, ⟨hh1, hh2⟩, hl1⟩
      ·rw [if_neg hev] at hrec'; cases hrec'
     ·cases hrec'
    ·cases hq
   ·cases hq
  ·cases hq
 ·-- a tuple's part
  rename_i t i hop
  split at hq
  ·rename_i xs hx
   cases hxi : xs[i]? with
   | none => rw [hxi] at hq; cases hq
   | some v =>
     rw [hxi] at hq
     simp only [Option.map_some, Option.some.injEq, Prod.mk.injEq] at hq
     obtain ⟨rfl, rfl, rfl⟩ := hq
     obtain ⟨cv', h1, h2⟩ := rd_ok h.ek hx
     obtain ⟨y, hy, rfl⟩ := cvR_v h2 (by intros; simp)
     obtain ⟨ys, rfl, hall⟩ := hy
     rw [← Array.getElem?_toList] at hxi
     obtain ⟨b, hb1, hb2⟩ := hall.get hxi
     have hop' : isPure o = true := by simp [isPure, hop]
     have hcan : st.can T (semOpnds o) = true := by simp [semOpnds, hop, St.can, h1]
     refine .escs h (p' := none) (cv' := .v b) (xs := semOpnds o) ?_ (fun h => h) ⟨b, (CRa.cr hb2).mono (Ext.refl _) (fun _ _ h => escs_mono _ _ _ h), .inl rfl⟩
     rw [quiet_generic hop' (by intro t x y u; simp [hop]), quietGen, opRel_nil (by simp [hop])]
     simp only [pure_at hop' (fun t' i' ho => by rw [hop] at ho; cases ho; exact ⟨_, h1⟩) (fun x hx r hr => by
      simp only [semOpnds, hop, List.mem_singleton] at hx
      subst hx
      rw [h1] at hr
      cases hr), hcan, Bool.and_self, if_true]
     simp only [semOf, hop, St.rho, h1, St.den, Instr.extract]
     rw [show (ys.toArray)[i]? = some b by simpa using hb1]
     rfl
  ·cases hq
 ·-- a function value
  rename_i g fst cap hop
  split at hq
  ·rename_i vs hvs
   split at hq
   ·rename_i hnf0
    obtain ⟨hg6, hnf⟩ := hnf0
    simp only [Option.some.injEq, Prod.mk.injEq] at hq
    obtain ⟨rfl, rfl, rfl⟩ := hq
    have hxs : semOpnds o = fst.toList ++ cap.toList := by simp [semOpnds, hop]
    obtain ⟨k1, k2⟩ := vals_ok (E := BxE (st.escs T (semOpnds o))) h.ek (fun _ _ h => escs_mono _ _ _ h) _ _ (fun x hx k off h1 h2 => escs_hit T _ st (hxs ▸ hx) h1 h2) hvs
    have hop' : isPure o = true := by simp [isPure, hop]
    have hall : All2 (CRl hd (BxE (st.escs T (semOpnds o)))) vs ((fst.toList ++ cap.toList).map (st.rho T)) := by
     clear hvs mv
     generalize (fst.toList ++ cap.toList).map (st.rho T) = ys at k2
     induction k2 with
     | nil => exact .nil
     | @cons a b l m h1 _ ih =>
       simp only [List.all_cons, Bool.and_eq_true] at hnf
       refine .cons ?_ (ih hnf.2)
       have hn := hnf.1
       cases a <;> first | exact h1 | (simp [notFn, notTup] at hn)
    refine .escs h (p' := none) (cv' := .v (.func (.func g) (fst.toList.map (st.rho T)).toArray (cap.toList.map (st.rho T)).toArray)) (xs := semOpnds o) ?_ (fun h => h) ⟨_, ⟨_, _, rfl, rfl, rfl, by simpa using hall⟩, .inl ?_⟩
    rw [quiet_generic hop' (by intro t x y u; simp [hop]), quietGen, opRel_nil (by simp [hop])]
    have hat : isPureAt st T o = true := by simp [isPureAt, isPure, hop]
    simp only [hat, hxs, k1, Bool.and_self, if_true]
    simp only [semOf, hop]
    rfl
    ·obtain ⟨e1, e2⟩ := fn_code g fst.toList.length hg6
     unfold fnV
     rw [e1, e2]
     rw [List.take_left' (by simp), List.drop_left' (by simp)]
   ·cases hq
  ·cases hq
 ·-- a length
  rename_i args argTypes hop
  split at hq
  ·rename_i x t ha hat
   split at hq
   ·rename_i e v he hx
    split at hq
    ·rename_i r e' sub es hrec
     simp only [Option.some.injEq, Prod.mk.injEq] at hq
     obtain ⟨rfl, rfl, rfl⟩ := hq
     obtain ⟨cv', h1, h2⟩ := rd_ok h.ek hx
     have hvf : ∃ q n c, v = .slice (some q) n c := by
      unfold DS.recs at hrec
      split at hrec
      ·exact ⟨_, _, _, rfl⟩
      ·cases hrec
     obtain ⟨q, n, c, rfl⟩ := hvf
     obtain ⟨y, hy, rfl⟩ := cvR_v h2 (by intros; simp)
     obtain ⟨A, c', rfl, hlc, hhd, hsome, hmax⟩ := recs_ok h.tk (v := .slice (some q) n c) hy hrec
     have hop' : isPure o = true := by simp [isPure, hop]
     have hxs : semOpnds o = [x] := by simp [semOpnds, hop, ha]
     have hat' : argTypes = #[t] := by
      rw [← Array.toList_inj]; simpa using hat
     refine .escs h (p' := none) (cv' := .v (.int .i64 (es.length : Int))) (xs := semOpnds o) ?_ (fun h => h) ⟨_, CR.plain rfl, .inl rfl⟩
     rw [quiet_generic hop' (by intro t x y u; simp [hop]), quietGen, opRel_nil (by simp [hop])]
     simp only [pure_at hop' (fun t' i' ho => by rw [hop] at ho; cases ho) (fun x' hx' r hr => by
      rw [hxs, List.mem_singleton] at hx'
      subst hx'
      rw [h1] at hr
      cases hr), show st.can T (semOpnds o) = true by rw [hxs]; simp [St.can, h1], Bool.and_self, if_true]
     obtain ⟨hu, inf, hinf, _⟩ := sliceElem_spec he
     simp only [semOf, hop, ha, List.map_cons, List.map_nil, St.rho, h1, St.den, hat']
     rw [len_pure hu]
    ·cases hq
   ·rename_i b he hx
    split at hq
    ·rename_i hu
     simp only [Option.some.injEq, Prod.mk.injEq] at hq
     obtain ⟨rfl, rfl, rfl⟩ := hq
     have h1 := rd_plain h.ek hx rfl
     have hop' : isPure o = true := by simp [isPure, hop]
     have hxs : semOpnds o = [x] := by simp [semOpnds, hop, ha]
     have hat' : argTypes = #[t] := by
      rw [← Array.toList_inj]; simpa using hat
     refine .escs h (p' := none) (cv' := .v (.int .i64 (b.size : Int))) (xs := semOpnds o) ?_ (fun h => h) ⟨_, CR.plain rfl, .inl rfl⟩
     rw [quiet_generic hop' (by intro t x y u; simp [hop]), quietGen, opRel_nil (by simp [hop])]
     simp only [pure_at hop' (fun t' i' ho => by rw [hop] at ho; cases ho) (fun x' hx' r hr => by
      rw [hxs, List.mem_singleton] at hx'
      subst hx'
      rw [h1] at hr
      cases hr), show st.can T (semOpnds o) = true by rw [hxs]; simp [St.can, h1], Bool.and_self, if_true]
     simp only [semOf, hop, ha, List.map_cons, List.map_nil, St.rho, h1, St.den, hat']
     rw [lens_pure hu]
    ·cases hq
   ·cases hq
  ·cases hq
 ·-- all else
  split at hq
  ·rename_i b hb
   simp only [Option.some.injEq, Prod.mk.injEq] at hq
   obtain ⟨rfl, rfl, rfl⟩ := hq
   have hgen : isPure o = true ∧ nilCmp cx.P st T o = some b := by
    unfold aggCmp at hb
    split at hb
    ·rename_i t x y u hop
     obtain ⟨h1, h2⟩ := aggCmp1_ok h.ek hb
     refine ⟨by simp [isPure, hop], ?_⟩
     unfold nilCmp
     simp only [hop, h1]
     exact h2
    ·rename_i t x y u hop
     cases hb2 : aggCmp1 cx.P s T t x y with
     | none => rw [hb2] at hb; cases hb
     | some b2 =>
       rw [hb2] at hb
       obtain rfl := Option.some.inj hb
       obtain ⟨h1, h2⟩ := aggCmp1_ok h.ek hb2
       refine ⟨by simp [isPure, hop], ?_⟩
       unfold nilCmp
       simp only [hop, h1, h2]
    ·cases hb
   refine .same h (p' := none) (cv' := .v (.bool b)) ?_ (fun h => h) ⟨_, CR.plain rfl, .inl rfl⟩
   rw [quiet_generic hgen.1 (fun t x y u => ⟨‹∀ t x y u, o.op = .binOp .shl t x y u → False› t x y u, ‹∀ t x y u, o.op = .binOp .shr t x y u → False› t x y u, ‹∀ t x y u, o.op = .binOp .quo t x y u → False› t x y u, ‹∀ t x y u, o.op = .binOp .rem t x y u → False› t x y u⟩), quietGen, hgen.2]
  ·split at hq
   ·rename_i hc
    simp only [Bool.and_eq_true] at hc
    split at hq
    ·rename_i m hm
     split at hq
     ·rename_i v hv
      split at hq
      ·rename_i hpl
       simp only [Option.some.injEq, Prod.mk.injEq] at hq
       obtain ⟨rfl, rfl, rfl⟩ := hq
       have hpls : ∀ x ∈ semOpnds o, ∃ v, st.rd T x = some (.v v) ∧ plainV v = true := by
        intro x hx
        have := List.all_eq_true.1 hc.2 x hx
        split at this
        ·rename_i v hv; exact ⟨v, rd_plain h.ek hv this, this⟩
        ·cases this
       obtain ⟨k1, k2⟩ := can_plain h.ek hc.2
       refine .escs h (p' := none) (cv' := .v v) (xs := semOpnds o) ?_ (fun h => h) ⟨_, CR.plain hpl, .inl rfl⟩
       rw [quiet_generic hc.1 (fun t x y u => ⟨‹∀ t x y u, o.op = .binOp .shl t x y u → False› t x y u, ‹∀ t x y u, o.op = .binOp .shr t x y u → False› t x y u, ‹∀ t x y u, o.op = .binOp .quo t x y u → False› t x y u, ‹∀ t x y u, o.op = .binOp .rem t x y u → False› t x y u⟩), quietGen, nil_none hpls]
       simp only [pure_at hc.1 (fun t i hop => by
        obtain ⟨v, h1, _⟩ := hpls t (by simp [semOpnds, hop])
        exact ⟨v, h1⟩) (fun x hx r hr => by
        obtain ⟨v, h1, h2⟩ := hpls x hx
        rw [h1] at hr
        cases hr
        simp [plainV] at h2), k1, Bool.and_self, if_true, semOf_congr hc.1 k2, hm, hv]
      ·cases hq
     ·cases hq
    ·cases hq
   ·cases hq
end
end Go.Dw
end
section
namespace Go.Dw
open Go Go.Cw
set_option linter.unusedVariables false
section
variable {cx : Cx} {ops : Array Oper} {s s' : DS} {T : List (Nat × Bool)} {o : Oper} {hd hd' : List Value} {Z0 Z : Nat → Nat → Prop} {F : Nat → List Nat} {st : St} {w w' : World}
def Nx (cx : Cx) (Z0 : Nat → Nat → Prop) (s : DS) (hd : List Value) (k : DS → Prop) (st' : St) (w' : World) : Prop :=
 ∃ s' hd' Z' F', Lk cx Z0 s' hd' Z' F' st' w' ∧ DAgr s s' ∧ Ext hd hd' ∧ k s'
theorem DAgr.put (s : DS) (d : Option Tmp) (cv : DC) (T : List (Nat × Bool)) : DAgr s (s.put d cv T) := by
 cases d with
 | none => exact DAgr.refl s
 | some d =>
   refine ⟨Nat.le_succ _, by simp [DS.put], fun t e he hv => ?_, fun _ b h => ⟨b, h, rfl, fun _ _ h _ => h⟩, Nat.le_refl _, fun _ _ h _ _ => h⟩
   simp only [DS.put] at he
   rcases set_get he with ⟨_, he, _⟩ | ⟨_, he⟩
   ·obtain rfl := Option.some.inj he
    exact absurd hv (Nat.lt_irrefl _)
   ·exact he
theorem Ek.put (h : Ek cx.P s hd st) {d : Option Tmp} {cv : DC} {cv' : CV} (hc : CvR hd st cv cv') : Ek cx.P (s.put d cv T) hd (st.put d cv' T) := by
 cases d with
 | none => exact h
 | some d =>
   refine ⟨by simp [DS.put, St.put, h.el], fun t e he => ?_, h.bl, h.bx, h.bf, h.pins, h.nd⟩
   simp only [DS.put] at he
   rcases set_get he with ⟨rfl, he, hlt⟩ | ⟨hne, he⟩
   ·obtain rfl := Option.some.inj he
    refine ⟨⟨cv', T, st.ctr⟩, ?_, rfl, hc⟩
    simp only [St.put]
    rw [List.getElem?_set_self (by rw [h.el]; exact hlt)]
   ·obtain ⟨e', h1, h2, h3⟩ := h.env t e he
    refine ⟨e', ?_, h2, h3⟩
    simp only [St.put]
    rw [List.getElem?_set_ne (fun e => hne e.symm)]
    exact h1
theorem Lk.put (h : Lk cx Z0 s hd Z F st w) {d : Option Tmp} {cv : DC} {cv' : CV} (hc : CvR hd st cv cv') : Lk cx Z0 (s.put d cv T) hd Z F (st.put d cv' T) w := by
 refine ⟨h.ek.put hc, ?_, h.fr, h.z0, h.zg⟩
 have e1 : (s.put d cv T).tb = s.tb := by cases d <;> rfl
 have e2 : (st.put d cv' T).ids = st.ids := by cases d <;> rfl
 have e3 : BxE (st.put d cv' T) = BxE st := by cases d <;> rfl
 rw [e1, e2, e3]
 exact h.tk
theorem Lk.world (h : Lk cx Z0 s hd Z F st w) (hc : Chg st.ids w w') (hf : Fr cx.M cx.w0 w') : Lk cx Z0 s hd Z F st w' :=
 ⟨h.ek, h.tk.world hc.size fun k hk hk2 => hc.block k hk fun hm => by
  rcases hk2 with ⟨m, hz⟩ | ⟨q, hq⟩ | hl
  ·exact (h.tk.sp.z m k hz).2.1 hm
  ·exact (h.tk.sp.il k hm).2 q hq
  ·simp at hl, hf, h.z0, h.zg⟩
theorem flush_of {k : World → Prop} (h : Lk cx Z0 s hd Z F st w) (hk : ∀ w1, Lk cx Z0 s hd Z F st w1 → k w1) : flush cx st w k := by
 unfold flush
 split
 ·intro w1 hc hf
  exact hk w1 (h.world hc hf)
 ·exact hk w h
theorem Lk.clean (h : Lk cx Z0 s hd Z F st w) : Lk cx Z0 s hd Z F st.clean w := ⟨⟨h.ek.el, h.ek.env, h.ek.bl, h.ek.bx, h.ek.bf, h.ek.pins, h.ek.nd⟩, h.tk, h.fr, h.z0, h.zg⟩
theorem Lk.pin (h : Lk cx Z0 s hd Z F st w) (dr : Bool) {r : Nat} {v : Value} (hv : hd[r]? = some v) : Lk cx Z0 (s.pin dr r) hd Z F (st.clean.pin dr (baseOf v)) w := by
 cases dr with
 | false => exact h.clean
 | true =>
   refine ⟨⟨h.ek.el, h.ek.env, h.ek.bl, h.ek.bx, h.ek.bf, fun q hq => ?_, h.ek.nd⟩, h.tk, h.fr, h.z0, h.zg⟩
   rcases List.mem_cons.1 hq with rfl | hq
   ·exact ⟨r, List.mem_cons_self .., v, hv, rfl⟩
   ·obtain ⟨r', h1, h2⟩ := h.ek.pins q hq
    exact ⟨r', List.mem_cons_of_mem _ h1, h2⟩
theorem DAgr.pin (s : DS) (dr : Bool) (r : Nat) : DAgr s (s.pin dr r) := by
 cases dr
 ·exact DAgr.refl s
 ·exact ⟨Nat.le_refl _, rfl, fun _ _ h _ => h, fun _ b h => ⟨b, h, rfl, fun _ _ h _ => h⟩, Nat.le_refl _, fun _ _ h _ _ => h⟩
theorem exK_of {k : Ck} {K : Value → Prop} {v : Value} (hv : k.fits v = true) (h : K v) : exK k K := by
 cases k <;> cases v <;> simp only [Ck.fits] at hv <;> simp only [exK]
 case int.int => obtain rfl := of_decide_eq_true hv; exact ⟨_, h⟩
 case sl.slice => exact ⟨_, _, _, h⟩
 all_goals first | exact ⟨_, h⟩ | cases hv
theorem exKs_of : ∀ {ks : List Ck} {K : List Value → Prop} {vs : List Value}, Fits ks vs → K vs → exKs ks K
 | [], K, [], _, h => h
 | k :: ks, K, v :: vs, hf, h => exK_of hf.1 (exKs_of (K := fun vs => K (v :: vs)) hf.2 h)
 | [], _, _ :: _, hf, _ => hf.elim
 | _ :: _, _, [], hf, _ => hf.elim
theorem kinds_fits {E : Nat → Nat → Prop} : ∀ {ks : List Ck} {vs ys : List Value}, kindsOk ks vs = true → All2 (CRf hd E) vs ys → Fits ks ys
 | [], [], _, _, .nil => trivial
 | k :: ks, v :: vs, _, h, .cons h1 h2 => by
   simp only [kindsOk, Bool.and_eq_true] at h
   exact ⟨h1.fits h.1, kinds_fits h.2 h2⟩
 | [], _ :: _, _, h, _ => by simp [kindsOk] at h
 | _ :: _, [], _, h, _ => by simp [kindsOk] at h
theorem Rep.fits {Z : Nat → Nat → Prop} {sh : Shp} {c : Ck} {d : D} {y : Value} {f : List Nat} (h : Rep w Z sh d y f) (hk : shKind sh c = true) : c.fits y = true := by
 cases h with
 | v h1 h2 =>
   simp only [shKind] at hk
   obtain rfl := kEq_eq hk
   exact h2
 | fn h1 => cases c <;> simp [shKind] at hk; rfl
 | tree => cases c <;> simp [shKind] at hk; rfl
 | nil => cases c <;> simp [shKind] at hk; rfl
 | own => cases c <;> simp [shKind] at hk; rfl
 | ptr => cases c <;> simp [shKind] at hk; rfl
 | box => cases c <;> simp [shKind] at hk; rfl
theorem Reps.fits {Z : Nat → Nat → Prop} : ∀ {sh : List Shp} {ks : List Ck} {d : List D} {y : List Value} {f : List Nat}, Reps w Z sh d y f → shKinds sh ks = true → Fits ks y
 | _, [], _, _, _, .nil, _ => trivial
 | _, k :: ks, _, _, _, .cons h1 h2, hk => by
   simp only [shKinds, Bool.and_eq_true] at hk
   exact ⟨h1.fits hk.1, h2.fits hk.2⟩
 | _, _ :: _, _, _, _, .nil, hk => by simp [shKinds] at hk
 | _, [], _, _, _, .cons _ _, hk => by simp [shKinds] at hk
theorem fits_length : ∀ {ks : List Ck} {vs : List Value}, Fits ks vs → vs.length = ks.length
 | [], [], _ => rfl
 | _ :: _, _ :: _, h => by simp [fits_length h.2]
 | [], _ :: _, h => h.elim
 | _ :: _, [], h => h.elim
theorem shCv_ok {sh : Sh} {vs ys : List Value} (hall : All2 (CRf hd (BxE st)) vs ys) (hl : sh.agg = true ∨ ∃ c v, sh.ks = [c] ∧ vs = [v] ∧ kAny c v = true) : CvR hd st (.v (valOf sh.agg vs)) (shCv sh ys) := by
 unfold valOf shCv
 rcases hl with ha | ⟨c, v, hk, rfl, hka⟩
 ·rw [if_pos ha, if_pos ha]
  exact ⟨_, ⟨ys, rfl, by simpa using hall⟩, .inl rfl⟩
 ·by_cases ha : sh.agg = true
  ·rw [if_pos ha, if_pos ha]
   exact ⟨_, ⟨ys, rfl, by simpa using hall⟩, .inl rfl⟩
  ·rw [if_neg ha, if_neg ha, hk]
   cases hall with
   | @cons _ y _ _ h1 h2 =>
     cases h2
     have hxy : CR hd (BxE st) v y := by
      cases v <;> first | exact h1 | (have := h1.1; simp [constV] at this; done) | exact absurd rfl (h1.2.1 _)
     refine ⟨y, hxy, ?_⟩
     cases c <;> first | exact .inl rfl | (cases v <;> first | (simp [kAny] at hka; done) | exact .inr ⟨rfl, _, _, _, rfl⟩)
theorem cells_box {b j n : Nat} {cs : List Value} {t : TypeId} (h : Box w b cs t) (hl : ((cs.drop j).take n).length = n) : Cells w (some ⟨b, 0, none⟩) j ((cs.drop j).take n) :=
 h.cells j _ fun m hm => by
  rw [List.getElem?_take, if_pos (by omega), List.getElem?_drop]
theorem cells_cat {Q : Nat → Prop} {A : Option Addr} {cs vs : List Value} {j : Nat} (h : CatZ w Q A cs) (hp : 0 < vs.length) (hv : ∀ m, m < vs.length → cs[j + m]? = vs[m]?) : Cells w A j vs := by
 have hne : cs ≠ [] := by
  rintro rfl
  have := hv 0 hp
  rw [List.getElem?_eq_getElem hp] at this
  cases this
 obtain ⟨p, rfl, _, hc⟩ := h hne
 refine ⟨p, rfl, fun m hm => ?_⟩
 rw [Cw.add_add]
 have := hv m hm
 rw [List.getElem?_eq_getElem hm] at this ⊢
 exact hc _ _ this
theorem Rep.rec_at {Z : Nat → Nat → Prop} {md : Nat} {e : TypeId} {sub : List Shp} {es : List (List D)} {y : Value} {f : List Nat} (h : Rep w Z (.l md e sub) (.l es) y f) {i : Nat} {ds : List D} (hi : es[i]? = some ds) :
 ∃ cs f', Reps w Z sub ds cs f' ∧ (∀ k ∈ f', k ∈ f.tail) ∧ (md ≠ 0 → f' = []) ∧ ∀ off n, 0 < n → ((cs.drop off).take n).length = n → Cells w (baseOf y) (i * sub.length + off) ((cs.drop off).take n) := by
 have key : ∀ (css : List (List Value)) (fs : List Nat) (A : Option Addr) (Q : Nat → Prop), Recs w Z sub es css fs → CatZ w Q A css.flatten → ∃ cs f', Reps w Z sub ds cs f' ∧ (∀ k ∈ f', k ∈ fs) ∧ ∀ off n, 0 < n → ((cs.drop off).take n).length = n → Cells w A (i * sub.length + off) ((cs.drop off).take n) := by
  intro css fs A Q hR hC
  obtain ⟨a, f', b, cs, rfl, hcs, hRs, _⟩ := hR.split hi
  refine ⟨cs, f', hRs, fun k hk => by simp [hk], fun off n hn hl => cells_cat hC (by omega) fun m hm => ?_⟩
  have hl2 : cs.length = sub.length := hRs.len.2
  have hb : off + m < cs.length := by
   have : ((cs.drop off).take n).length ≤ cs.length - off := by simp; omega
   omega
  rw [Nat.add_assoc, flatten_get hR.sizes hcs (by omega), List.getElem?_take, if_pos (by omega), List.getElem?_drop]
 cases h with
 | tree h1 h2 hc h3 h4 =>
   obtain ⟨cs, f', k1, k2, k3⟩ := key _ _ _ _ h4 h3
   have : f' = [] := List.eq_nil_iff_forall_not_mem.2 fun k hk => by cases k2 k hk
   subst this
   exact ⟨cs, [], k1, fun _ h => (by cases h), fun _ => rfl, k3⟩
 | nil => cases hi
 | own h1 h2 h3 h4 h5 =>
   obtain ⟨cs, f', k1, k2, k3⟩ := key _ _ (some ⟨_, 0, none⟩) (fun _ => True) h5 (fun _ => ⟨_, rfl, trivial, fun j v hj => by
    rw [add_none, Nat.zero_add]
    exact h1.cell (app_get hj)⟩)
   exact ⟨cs, f', k1, k2, fun h => absurd rfl h, k3⟩
theorem dgx1_ok (h : Ek cx.P s hd st) {j : Nat} {b g : Bool} (hg : dgx1 s ops j b = some g) : gx1 st ops j b = some g := by
 unfold dgx1 at hg
 unfold gx1
 split at hg
 ·rename_i d hd'
  try rw [hd']
  try simp only at hg ⊢
  split at hg
  ·rename_i c tg vr he
   obtain ⟨e', h1, h2, h3⟩ := h.env _ _ he
   have := cvR_plain h3 rfl
   obtain ⟨cv', tg', vr'⟩ := e'
   simp only at this
   subst this
   rw [h1]
   exact hg
  ·cases hg
 ·cases hg
theorem dgx_ok (h : Ek cx.P s hd st) : ∀ {T : List (Nat × Bool)} {g : Bool}, dgx s ops T = some g → gx st ops T = some g
 | [], g, hg => hg
 | [(j, b)], g, hg => dgx1_ok h hg
 | (j, b) :: y :: r, g, hg => by
   simp only [dgx] at hg
   split at hg
   ·rename_i c d h1 h2
    simp only [gx, dgx1_ok h h1, dgx_ok h h2]
    exact hg
   ·cases hg
theorem dImp_ok (h : Ek cx.P s hd st) {p q : Prop} (hpq : p → q) (hi : dImp s ops T p) : gImp st ops T q := by
 cases T with
 | nil => exact hpq hi
 | cons a r =>
   simp only [dImp] at hi
   simp only [gImp]
   cases hg : dgx s ops (a :: r) with
   | none => rw [hg] at hi; exact hi.elim
   | some g =>
     rw [hg] at hi
     rw [dgx_ok h hg]
     exact fun hh => hpq (hi hh)
def dFit : Shp → D → Prop
 | .v k, d => ∃ x, d = .v x ∧ k.fits x = true
 | _, _ => True
mutual
theorem exS_ex : ∀ {sh : Shp} {K : D → Prop}, exS sh K → ∃ d, dFit sh d ∧ K d
 | .v k, K, h => by
   simp only [exS] at h
   obtain ⟨v, h1, h2⟩ := exK_ex h
   exact ⟨.v v, ⟨v, rfl, h1⟩, h2⟩
 | .l md e sub, K, h => by
   simp only [exS] at h
   obtain ⟨es, h⟩ := h
   exact ⟨_, trivial, h⟩
 | .p md t sub, K, h => by
   simp only [exS] at h
   obtain ⟨ds, _, h⟩ := exSs_ex h
   exact ⟨_, trivial, h⟩
 | .f g sub, K, h => by
   simp only [exS] at h
   obtain ⟨ds, _, h⟩ := exSs_ex h
   exact ⟨_, trivial, h⟩
theorem exSs_ex : ∀ {sh : List Shp} {K : List D → Prop}, exSs sh K → ∃ d, All2 dFit sh d ∧ K d
 | [], K, h => ⟨[], .nil, h⟩
 | s :: ss, K, h => by
   simp only [exSs] at h
   obtain ⟨d, h1, h2⟩ := exS_ex h
   obtain ⟨ds, h3, h4⟩ := exSs_ex h2
   exact ⟨d :: ds, .cons h1 h3, h4⟩
end
theorem mats_scalars {s : DS} : ∀ {sh : List Shp} {d : List D} {vs : List Value} {s' : DS}, scalars sh = true → mats sh d s = some (vs, s') → s' = s ∧ d = vs.map D.v ∧ All2 (fun sh v => ∃ k, sh = Shp.v k ∧ flatK k = true ∧ k.fits v = true) sh vs
 | [], d, vs, s', _, h => by
   simp only [mats] at h
   split at h
   ·simp only [Option.some.injEq, Prod.mk.injEq] at h
    obtain ⟨rfl, rfl⟩ := h
    exact ⟨rfl, rfl, .nil⟩
   ·cases h
 | t :: ts, d, vs, s', hs, h => by
   simp only [scalars, List.all_cons, Bool.and_eq_true] at hs
   simp only [mats] at h
   split at h
   ·rename_i d0 ds
    split at hs
    ·rename_i k
     cases h1 : mat (.v k) d0 s with
     | none => rw [h1] at h; cases h
     | some x =>
       obtain ⟨v, s1⟩ := x
       rw [h1] at h
       simp only at h
       cases h2 : mats ts ds s1 with
       | none => rw [h2] at h; cases h
       | some x =>
         obtain ⟨vs', s2⟩ := x
         rw [h2] at h
         simp only [Option.some.injEq, Prod.mk.injEq] at h
         obtain ⟨rfl, rfl⟩ := h
         simp only [mat] at h1
         split at h1
         ·split at h1
          ·rename_i hk
           simp only [Bool.and_eq_true] at hk
           simp only [Option.some.injEq, Prod.mk.injEq] at h1
           obtain ⟨rfl, rfl⟩ := h1
           obtain ⟨e1, e2, e3⟩ := mats_scalars hs.2 h2
           exact ⟨e1, by simp [e2], .cons ⟨k, rfl, hk.1, hk.2⟩ e3⟩
          ·cases h1
         ·cases h1
    ·simp at hs
   ·cases h
theorem anyOk_of {sh : Sh} {vs : List Value} (h : anyOk sh vs = true) : sh.agg = true ∨ ∃ c v, sh.ks = [c] ∧ vs = [v] ∧ kAny c v = true := by
 unfold anyOk at h
 simp only [Bool.or_eq_true] at h
 rcases h with h | h
 ·exact .inl h
 ·split at h
  ·rename_i c v hk
   exact .inr ⟨c, v, hk, rfl, h⟩
  ·cases h
theorem Reps.part {Z : Nat → Nat → Prop} {sub : List Shp} {ds : List D} {cs : List Value} {f : List Nat} (h : Reps w Z sub ds cs f) (off n : Nat) :
 ∃ f', (∀ k ∈ f', k ∈ f) ∧ Reps w Z ((sub.drop off).take n) ((ds.drop off).take n) ((cs.drop off).take n) f' := by
 obtain ⟨f1, f2, rfl, _, h2⟩ := h.cut off
 obtain ⟨f3, f4, rfl, h3, _⟩ := h2.cut n
 exact ⟨f3, fun k hk => by simp [hk], h3⟩
theorem zeroable_reps {Z : Nat → Nat → Prop} : ∀ {sub : List Shp}, zeroable sub = true → ∃ vs, Reps w Z sub (sub.map zeroD) vs []
 | [], _ => ⟨[], .nil⟩
 | s :: ss, h => by
   simp only [zeroable, List.all_cons, Bool.and_eq_true] at h
   obtain ⟨vs, hs⟩ := zeroable_reps (Z := Z) (sub := ss) h.2
   have h1 := h.1
   split at h1
   ·exact ⟨_, .cons (f := []) (fs := []) (.v (x := .int _ 0) rfl (by simp [Ck.fits])) hs⟩
   ·exact ⟨_, .cons (f := []) (fs := []) (.v (k := .bool) (x := .bool false) rfl rfl) hs⟩
   ·rename_i md e sub
    by_cases h0 : md = 0
    ·subst h0
     exact ⟨_, .cons (f := []) (fs := []) .nil hs⟩
    ·exact ⟨_, .cons (f := []) (fs := []) (.tree (A := none) (c := 0) (css := []) h0 (Nat.zero_le _) (Nat.zero_le _) (fun h => absurd rfl h) .nil) hs⟩
   ·cases h1
theorem get_ok (hk : Ek cx.P s hd st) {md : Nat} {e : TypeId} {sub : List Shp} {es : List (List D)} {y : Value} {f : List Nat} {i off n : Nat} {ds : List D} {ks : List Ck} (hrep : Rep w Z (.l md e sub) (.l es) y f) (hg : dGet s ops T sub es[i]? ds)
 (hz : (T.isEmpty || zeroable ((sub.drop off).take n)) = true) (hn : 0 < n) (hks : shKinds ((sub.drop off).take n) ks = true) (hkn : ks.length = n) :
 ∃ ys f2, Reps w Z ((sub.drop off).take n) ((ds.drop off).take n) ys f2 ∧ (∀ k ∈ f2, k ∈ f.tail) ∧ (md ≠ 0 → f2 = []) ∧ gImp st ops T (Cells w (baseOf y) (i * sub.length + off) ys) := by
 have yes : es[i]? = some ds → ∃ ys f2, Reps w Z ((sub.drop off).take n) ((ds.drop off).take n) ys f2 ∧ (∀ k ∈ f2, k ∈ f.tail) ∧ (md ≠ 0 → f2 = []) ∧ Cells w (baseOf y) (i * sub.length + off) ys := by
  intro hi'
  obtain ⟨cs, f1, hR, hf1, hf2, hC⟩ := hrep.rec_at hi'
  obtain ⟨f2, hf3, hRp⟩ := hR.part off n
  have hlen := fits_length (hRp.fits hks)
  exact ⟨_, f2, hRp, fun k hk => hf1 k (hf3 k hk), (fun h0 => List.eq_nil_iff_forall_not_mem.2 fun k hk => (by have := hf3 k hk; rw [hf2 h0] at this; cases this)), hC off n hn (hlen.trans hkn)⟩
 cases T with
 | nil => exact yes hg
 | cons a r =>
   simp only [dGet] at hg
   cases hgx : dgx s ops (a :: r) with
   | none => rw [hgx] at hg; exact hg.elim
   | some g =>
     rw [hgx] at hg
     simp only at hg
     cases g with
     | true =>
       obtain ⟨ys, f2, a1, a2, a3, a4⟩ := yes (hg.1 rfl)
       refine ⟨ys, f2, a1, a2, a3, ?_⟩
       simp only [gImp, dgx_ok hk hgx]
       exact fun _ => a4
     | false =>
       obtain rfl := hg.2 rfl
       simp only [List.isEmpty_cons, Bool.false_or] at hz
       obtain ⟨vs, hv⟩ := zeroable_reps (w := w) (Z := Z) hz
       rw [List.map_take, List.map_drop] at hv
       refine ⟨vs, [], hv, (fun _ h => by cases h), fun _ => rfl, ?_⟩
       simp only [gImp, dgx_ok hk hgx]
       exact fun h => by cases h
theorem load_ok (h : Lk cx Z0 s hd Z F st w) {t : TypeId} {x : Operand} {r i sz off : Nat} {dr : Bool} {k : DS → Prop} (hop : o.op = .load t x) (hx : s.rd T x = some (.er r i sz off)) (hl : dLoad cx.P ops dr s T t r i sz off o.dst k) :
 effOp cx ops dr st T o w (Nx cx Z0 s hd k) := by
 obtain ⟨cv', h1, v, hv, rfl, _⟩ := rd_ok h.ek hx
 unfold dLoad at hl
 split at hl
 ·rename_i sh hsh
  simp only at hl
  unfold effOp
  simp only [hop, h1, hsh]
  refine flush_of h fun w1 h' => ?_
  have fin : ∀ (s1 : DS) (hd1 : List Value) (F1 : Nat → List Nat) (vs ys : List Value), Lk cx Z0 s1 hd1 Z F1 (st.clean.pin dr (baseOf v)) w1 → DAgr s s1 → Ext hd hd1 → Fits sh.ks ys → All2 (CRf hd1 (BxE (st.clean.pin dr (baseOf v)))) vs ys → anyOk sh vs = true →
   gImp st ops T (Cells w1 (baseOf v) (i * sz + off) ys) → k (s1.put o.dst (.v (valOf sh.agg vs)) T) → exKs sh.ks fun vs => gImp st ops T (Cells w1 (baseOf v) (i * sz + off) vs) ∧ Nx cx Z0 s hd k ((st.clean.pin dr (baseOf v)).put o.dst (shCv sh vs) T) w1 :=
   fun s1 hd1 F1 vs ys k1 k2 k3 k4 k5 k6 k7 k8 => exKs_of k4 ⟨k7, _, _, _, _, k1.put (shCv_ok k5 (anyOk_of k6)), k2.trans (DAgr.put _ _ _ _), k3, k8⟩
  have hpin := h'.pin dr hv
  have hE : BxE (st.clean.pin dr (baseOf v)) = BxE st := by cases dr <;> rfl
  have hids : (st.clean.pin dr (baseOf v)).ids = st.ids := by cases dr <;> rfl
  have htbp : (s.pin dr r).tb = s.tb := by cases dr <;> rfl
  have hT : T = [] ∨ (T.isEmpty = false) := by cases T <;> simp
  split at hl
  ·rename_i md t' cs htb
   split at hl
   ·rename_i hc
    obtain ⟨hc1, rfl, hn, hc2, hc3⟩ := hc
    obtain ⟨c, v', _, k2, cs', k3, k4⟩ := h'.tk.at htb (by simp)
    rw [hv] at k2
    obtain rfl := Option.some.inj k2
    have hall := (k3.drop off).take sh.ks.length
    have hf := kinds_fits hc1 hall
    refine fin _ hd F _ ((cs'.drop off).take sh.ks.length) hpin (DAgr.pin _ _ _) (Ext.refl _) hf (by rw [hE]; exact hall) hc2 ?_ hl
    have hlen := fits_length hf
    have hC : Cells w1 (baseOf v) (0 * sz + off) ((cs'.drop off).take sh.ks.length) := by
     rw [Nat.zero_mul, Nat.zero_add]
     rcases k4 with ⟨_, b, rfl, _, hB⟩ | ⟨_, q, rfl, _, hC⟩
     ·exact cells_box hB hlen
     ·refine cells_cat hC (by omega) fun m hm => ?_
      rw [List.getElem?_take, if_pos (by omega), List.getElem?_drop]
    cases T with
    | nil => exact hC
    | cons a r =>
      simp only [List.isEmpty_cons, Bool.false_or] at hc3
      obtain ⟨g, hg⟩ := Option.isSome_iff_exists.1 hc3
      simp only [gImp, dgx_ok h'.ek hg]
      exact fun _ => hC
   ·exact hl.elim
  ·rename_i md e sub es htb
   split at hl
   ·rename_i hc
    obtain ⟨hc1, hc2, rfl, hn⟩ := hc
    obtain ⟨ds, hfit, hi, hl⟩ := exSs_ex hl
    obtain ⟨c, v', _, k2, k3⟩ := h'.tk.at htb (by simp)
    rw [hv] at k2
    obtain rfl := Option.some.inj k2
    have hrep : Rep w1 Z (.l md e sub) (.l es) v (F r) := k3
    obtain ⟨ys, f2, hRp, hf3, hf2, hcell⟩ := get_ok (st := st) h'.ek hrep hi hc2 hn hc1 rfl
    have hfits := hRp.fits hc1
    by_cases h0 : md = 0
    ·subst h0
     simp only [beq_self_eq_true, if_true] at hl
     cases hm : matsV true r false ((sub.drop off).take sh.ks.length) ((ds.drop off).take sh.ks.length) (s.pin dr r) with
     | none => rw [hm] at hl; exact hl.elim
     | some q =>
       obtain ⟨vs, s2⟩ := q
       rw [hm] at hl
       simp only at hl
       split at hl
       ·rename_i hany
        obtain ⟨hd1, g1, g2, g3, g4, g5⟩ := matsV_ok (E := BxE st) (I := (· ∈ st.ids)) _ _ (s.pin dr r) hd _ _ f2 s2 (htbp ▸ h'.tk) hRp (fun m k hk => .inl hk) (fun k hk => .inl (h'.tk.sp.z2 _ k hk)) (fun m k hk => .inr (.inr (.inl (hf3 k hk)))) (fun _ m k hk => hk) hm
        exact fin s2 hd1 F vs _ ⟨hpin.ek.ext g2 g3.env g4 g3.pins, by rw [hE, hids]; exact g1, h'.fr, h'.z0, h'.zg⟩ ((DAgr.pin _ _ _).trans g3.agr) g2 hfits (by rw [hE]; exact g5) hany hcell hl
       ·exact hl.elim
    ·have hmz : (md == 0) = false := by simpa using h0
     simp only [hmz, Bool.false_eq_true, if_false] at hl
     obtain rfl := hf2 h0
     cases hm : mats ((sub.drop off).take sh.ks.length) ((ds.drop off).take sh.ks.length) (s.pin dr r) with
     | none => rw [hm] at hl; exact hl.elim
     | some q =>
       obtain ⟨vs, s2⟩ := q
       rw [hm] at hl
       simp only at hl
       split at hl
       ·rename_i hany
        obtain ⟨hd1, F1, g1, g2, g3, g4, g5⟩ := mats_ok (E := BxE st) (I := (· ∈ st.ids)) _ _ (s.pin dr r) hd F [] _ _ [] s2 (htbp ▸ h'.tk) hRp hm
        exact fin s2 hd1 F1 vs _ ⟨hpin.ek.ext g2 g3.env g4 g3.pins, by rw [hE, hids]; exact g1, h'.fr, h'.z0, h'.zg⟩ ((DAgr.pin _ _ _).trans g3.agr) g2 hfits (by rw [hE]; exact g5) hany hcell hl
       ·exact hl.elim
   ·exact hl.elim
  ·rename_i r0 rt e sub es htb
   split at hl
   ·rename_i hc
    obtain ⟨hc1, hc2, rfl, hn⟩ := hc
    obtain ⟨ds, hfit, hi, hl⟩ := exSs_ex hl
    obtain ⟨c, v', _, k2, k3⟩ := h'.tk.at htb (by simp)
    rw [hv] at k2
    obtain rfl := Option.some.inj k2
    obtain ⟨ys, f2, hRp, hf3, hf2, hcell⟩ := get_ok (st := st) h'.ek k3.2 hi hc2 hn hc1 rfl
    have hfits := hRp.fits hc1
    obtain rfl := hf2 (by decide)
    cases hm : matsV false r0 rt ((sub.drop off).take sh.ks.length) ((ds.drop off).take sh.ks.length) (s.pin dr r) with
    | none => rw [hm] at hl; exact hl.elim
    | some q =>
      obtain ⟨vs, s2⟩ := q
      rw [hm] at hl
      simp only at hl
      split at hl
      ·rename_i hany
       have hvw : ∀ k, Vw Z F none [] r0 rt 1 k → Vw Z F none [] r0 rt 2 k := fun k hk => by
        rcases hk with hk | hk
        ·exact .inl (h'.tk.sp.z2 _ k hk)
        ·exact .inr hk
       obtain ⟨hd1, g1, g2, g3, g4, g5⟩ := matsV_ok (E := BxE st) (I := (· ∈ st.ids)) _ _ (s.pin dr r) hd _ _ [] s2 (htbp ▸ h'.tk) hRp (fun m k hk => hk) hvw (fun m k hk => by cases hk) (fun h => by cases h) hm
       exact fin s2 hd1 F vs _ ⟨hpin.ek.ext g2 g3.env g4 g3.pins, by rw [hE, hids]; exact g1, h'.fr, h'.z0, h'.zg⟩ ((DAgr.pin _ _ _).trans g3.agr) g2 hfits (by rw [hE]; exact g5) hany hcell hl
      ·exact hl.elim
   ·exact hl.elim
  ·exact hl.elim
 ·exact hl.elim
end
end Go.Dw
end
section
namespace Go.Dw
open Go Go.Cw
set_option linter.unusedVariables false
section
variable {dcx : Dcx} {E : Nat → Nat → Prop} {cx : Cx} {ops : Array Oper} {s s' : DS} {T : List (Nat × Bool)} {o : Oper} {hd hd' : List Value} {Z0 Z : Nat → Nat → Prop} {F : Nat → List Nat} {st : St} {w w' : World}
theorem cells_ok (h : Lk cx Z0 s hd Z F st w) {x : Operand} {cv : DC} {v : Value} (hx : s.rd T x = some cv) (hv : cv.val = some v) (ho : (lvs v).all oneB = true) :
 ∃ cv', st.rd T x = some cv' ∧ Lk cx Z0 s hd Z F (st.esc1 cv') w ∧ ∀ p : List Value → Prop, (∀ l, All2 (CRf hd (BxE (st.esc1 cv'))) (lvs v) l → oneK cv' l = true → l.all oneB = true → p l) → cellsK (st.esc1 cv') cv' p := by
 obtain ⟨cv', h1, h2⟩ := rd_ok h.ek hx
 have hlk : Lk cx Z0 s hd Z F (st.esc1 cv') w := h.like (Like.esc1 st cv') fun _ _ h => esc1_mono st cv' h
 refine ⟨cv', h1, hlk, fun p hp => ?_⟩
 cases cv with
 | v y =>
   obtain rfl := Option.some.inj hv
   obtain ⟨z, h3, h4⟩ := h2
   have hnt : ∀ xs, y ≠ .tuple xs := by
    rintro xs rfl
    simp [lvs, oneB] at ho
   rcases h4 with rfl | ⟨rfl, g, a, b, rfl⟩
   ·have hl := h3.lvs hnt
    have hones := All2.ones hl
    have hall : z.cells.toList.all oneB = true := List.all_eq_true.2 fun u hu => (hones u hu).1
    exact hp _ hl hall hall
   ·have h3' : CRf hd (BxE st) (.func g a b) z := h3
    refine ⟨⟨(h3'.one).2, (h3'.one).1⟩, hp [z] (.cons h3' .nil) rfl (by simp [(h3'.one).1])⟩
 | bp k off =>
   obtain rfl := Option.some.inj hv
   obtain ⟨rfl, hk⟩ := h2
   refine hp _ (.cons (.inr ⟨by simp [evenB], st.idAt k, ?_, ?_⟩) .nil) rfl rfl
   ·show BxE _ ((2 * k + 1) / 2) _
    rw [show (2 * k + 1) / 2 = k by omega]
    exact esc1_hit st hk
   ·have : (st.esc1 (.bp k off)).idAt k = st.idAt k := by rw [idAt_eq, idAt_eq, (esc1_bx st _).ids]
    simp [St.den, this]
 | er r i sz off =>
   simp only [DC.val] at hv
   split at hv
   ·rename_i hc
    obtain ⟨rfl, rfl, rfl⟩ := hc
    obtain rfl := Option.some.inj hv
    obtain ⟨u, hu, rfl, hz⟩ := h2
    have := er_val (E := BxE (st.esc1 (.ep (baseOf u) (0 * 0 + 0)))) (st := st.esc1 (.ep (baseOf u) (0 * 0 + 0))) hu (hz rfl)
    exact hp _ (.cons this .nil) rfl rfl
   ·cases hv
theorem DAgr.addB (s : DS) (cs : List (Value × Nat)) (t : TypeId) : DAgr s (s.addB cs t) :=
 ⟨Nat.le_succ _, rfl, fun _ _ h _ => h, fun k b h => ⟨b, by simp only [DS.addB]; rw [List.getElem?_append_left (get_lt h)]; exact h, rfl, fun _ _ h _ => h⟩, Nat.le_refl _, fun _ _ h _ _ => h⟩
theorem addB_ok (h : Lk cx Z0 s hd Z F st w) {b : Nat} {t : TypeId} {vs l : List Value} {hs : Sh} (hb : w.heap.size ≤ b) (hn : b ∉ st.ids) (hl : All2 (CRf hd (BxE st)) vs l) (hsh : Cw.shOf cx.P t = some hs) (hlen : hs.ks.length = vs.length) :
 Lk cx Z0 (s.addB (vs.map fun x => (x, s.ctr)) t) hd Z F (st.addBx b l t) w ∧ CvR hd (st.addBx b l t) (.bp s.bx.length 0) (.bp st.bx.length 0) := by
 have hE : ∀ k c, BxE (st.addBx b l t) k c ↔ BxE st k c := by
  intro k c
  constructor
  ·rintro ⟨x, h1, h2, h3⟩
   simp only [St.addBx] at h1
   by_cases hk : k < st.bx.length
   ·rw [List.getElem?_append_left hk] at h1
    exact ⟨x, h1, h2, h3⟩
   ·have : k = st.bx.length := by
     have := get_lt h1
     simp at this; omega
    subst this
    simp at h1
    subst h1
    cases h3
  ·rintro ⟨x, h1, h2, h3⟩
   exact ⟨x, by simp only [St.addBx]; rw [List.getElem?_append_left (get_lt h1)]; exact h1, h2, h3⟩
 have he : ∀ k c, BxE st k c → BxE (st.addBx b l t) k c := fun k c h => (hE k c).2 h
 have hlenb : st.bx.length ≤ (st.addBx b l t).bx.length := by simp [St.addBx]
 have hids : (st.addBx b l t).ids = st.ids ++ [b] := by simp [St.addBx, St.ids]
 have hmine : 0 < b ∧ (cx.w0.heap.size ≤ b ∨ cx.M b) := ⟨by have := h.tk.n0; have := h.tk.np; omega, .inl (Nat.le_trans h.tk.n0 hb)⟩
 refine ⟨⟨⟨?_, fun k e he' => ?_, ?_, fun k d hk => ?_, fun x hx => ?_, h.ek.pins, ?_⟩, ?_, h.fr, h.z0, h.zg⟩, ?_⟩
 ·simp [DS.addB, St.addBx, h.ek.el]
 ·obtain ⟨e', h1, h2, h3⟩ := h.ek.env k e he'
  exact ⟨e', h1, h2, h3.mono (Ext.refl _) he hlenb⟩
 ·simp [DS.addB, St.addBx, h.ek.bl]
 ·simp only [DS.addB] at hk
  by_cases hkl : k < s.bx.length
  ·rw [List.getElem?_append_left hkl] at hk
   obtain ⟨b', h1, h2, h3⟩ := h.ek.bx k d hk
   exact ⟨b', by simp only [St.addBx]; rw [List.getElem?_append_left (get_lt h1)]; exact h1, h2, fun hn => (h3 hn).mono fun _ _ h => h.mono (Ext.refl _) he⟩
  ·have hk2 : k = s.bx.length := by
    have := get_lt hk
    simp at this; omega
   subst hk2
   simp at hk
   subst hk
   refine ⟨⟨b, l.map fun v => (v, st.ctr), t, false⟩, by simp only [St.addBx]; rw [← h.ek.bl]; simp, rfl, fun _ => ?_⟩
   simp only [List.map_map]
   have e1 : vs.map ((fun x => x.1) ∘ fun x => (x, s.ctr)) = vs := by simp [Function.comp_def]
   have e2 : l.map ((fun x => x.1) ∘ fun v => (v, st.ctr)) = l := by simp [Function.comp_def]
   rw [e1, e2]
   exact hl.mono fun _ _ h => h.mono (Ext.refl _) he
 ·simp only [St.addBx, List.mem_append, List.mem_singleton] at hx
  rcases hx with hx | rfl
  ·exact h.ek.bf x hx
  ·exact ⟨hs, hsh, by simp [hlen, hl.len]⟩
 ·rw [hids]
  rw [List.nodup_append]
  exact ⟨h.ek.nd, by simp, fun a ha c hc => by
   rw [List.mem_singleton] at hc
   subst hc
   rintro rfl
   exact hn ha⟩
 ·have h1 : Tk cx s.tb hd (BxE (st.addBx b l t)) Z F none [] (· ∈ st.ids) w := h.tk.ext he
  rw [hids]
  exact h1.boxes fun k hk => by
   rcases List.mem_append.1 hk with hk | hk
   ·exact .inl hk
   ·rw [List.mem_singleton] at hk
    subst hk
    exact .inr ⟨hb, hmine⟩
 ·exact ⟨by rw [h.ek.bl], by simp [St.addBx, h.ek.bl]⟩
theorem box_ok (h : Lk cx Z0 s hd Z F st w) {t : TypeId} {x : Operand} {dr : Bool} {k : DS → Prop} (hop : o.op = .box t x) (hl : dEff dcx ops dr s T o k) (hP : dcx.P = cx.P) : effOp cx ops dr st T o w (Nx cx Z0 s hd k) := by
 unfold dEff at hl
 simp only [hop] at hl
 split at hl
 ·rename_i v hs hsh hv
  split at hl
  ·rename_i hc
   obtain ⟨hc1, hc2⟩ := hc
   cases hx : s.rd [] x with
   | none => rw [hx] at hv; cases hv
   | some cv =>
     rw [hx] at hv
     simp only [Option.bind_some] at hv
     obtain ⟨cv', h1, h2, h3⟩ := cells_ok h hx hv hc2
     unfold effOp
     simp only [hop, h1]
     have e : ∀ p, cellsK (st.esc1 cv') cv' p → cellsK st cv' p := by
      intro p hp
      cases cv' with
      | o F => exact hp
      | v y => exact hp
      | bp k off =>
        have : (st.esc1 (.bp k off)).idAt k = st.idAt k := by rw [idAt_eq, idAt_eq, (esc1_bx st _).ids]
        simp only [cellsK, St.den, this] at hp ⊢
        exact hp
      | ep A j => exact hp
     refine e _ (h3 _ fun l hl1 hl2 hl3 b hb hn => ?_)
     have hn' : b ∉ (st.esc1 cv').ids := by unfold St.ids at *; rw [(esc1_bx st cv').ids]; exact hn
     obtain ⟨k1, k2⟩ := addB_ok h2 (t := t) hb hn' hl1 (hP ▸ hsh) hc1
     have k2' : CvR hd ((st.esc1 cv').addBx b l t) (.bp s.bx.length 0) (.bp st.bx.length 0) := by
      have := k2; rw [esc1_len] at this; exact this
     exact ⟨_, hd, Z, F, k1.put k2', (DAgr.addB _ _ _).trans (DAgr.put _ _ _ _), Ext.refl _, hl⟩
  ·exact hl.elim
 ·exact hl.elim
theorem alloc_ok (h : Lk cx Z0 s hd Z F st w) {t : TypeId} {dr : Bool} {k : DS → Prop} (hop : o.op = .alloc t) (hl : dEff dcx ops dr s T o k) (hP : dcx.P = cx.P) : effOp cx ops dr st T o w (Nx cx Z0 s hd k) := by
 unfold dEff at hl
 simp only [hop] at hl
 split at hl
 ·rename_i z hs hz hsh
  split at hl
  ·rename_i hc
   obtain ⟨hc1, hc2⟩ := hc
   unfold effOp
   rw [hP] at hz hsh
   simp only [hop, hz]
   intro b hb hn
   have hcr : CR hd (BxE st) z z := CR.const hc2
   have hall := hcr.lvs (fun xs e => by subst e; simp [constV] at hc2)
   obtain ⟨k1, k2⟩ := addB_ok h (t := t) hb hn hall hsh hc1
   exact ⟨_, hd, Z, F, k1.put k2, (DAgr.addB _ _ _).trans (DAgr.put _ _ _ _), Ext.refl _, hl⟩
  ·exact hl.elim
 ·exact hl.elim
theorem undef_cr : CR hd E undef undef := ⟨[], rfl, .nil⟩
theorem DAgr.wrB {kk : Nat} {d : DB} (hd : s.bx[kk]? = some d) (off : Nat) (l : List Value) : DAgr s (s.wrB kk off l) :=
 ⟨Nat.le_succ _, rfl, fun _ _ h _ => h, fun q b h => by
  simp only [DS.wrB, List.getElem?_modify, h]
  by_cases hq : kk = q
  ·subst hq
   refine ⟨{ b with cs := b.cs.take off ++ (l.map fun v => (v, s.ctr)) ++ b.cs.drop (off + l.length) }, by simp, rfl, fun j c hc hv => ?_⟩
   simp only at hc
   have hsplit : b.cs.take off ++ (l.map fun v => (v, s.ctr)) ++ b.cs.drop (off + l.length) = b.cs.take off ++ ((l.map fun v => (v, s.ctr)) ++ b.cs.drop (off + l.length)) := by simp
   rw [hsplit] at hc
   by_cases h1 : j < (b.cs.take off).length
   ·rw [List.getElem?_append_left h1, List.getElem?_take] at hc
    split at hc
    ·exact hc
    ·cases hc
   ·rw [List.getElem?_append_right (by omega)] at hc
    by_cases h2 : j - (b.cs.take off).length < (l.map fun v => (v, s.ctr)).length
    ·rw [List.getElem?_append_left h2, List.getElem?_map] at hc
     cases hl : l[j - (b.cs.take off).length]? with
     | none => rw [hl] at hc; cases hc
     | some u =>
       rw [hl] at hc
       obtain rfl := Option.some.inj hc
       exact absurd hv (Nat.lt_irrefl _)
    ·rw [List.getElem?_append_right (by omega), List.getElem?_drop] at hc
     have hb := get_lt hc
     rw [List.length_map] at h2 hc
     have hto : (b.cs.take off).length = off := by simp at hb h1 h2 ⊢; omega
     rw [hto] at hc h1 h2
     have : off + l.length + (j - off - l.length) = j := by omega
     rw [this] at hc
     exact hc
  ·exact ⟨b, by simp [hq], rfl, fun _ _ h _ => h⟩, Nat.le_refl _, fun _ _ h _ _ => h⟩
theorem wrB_ok (h : Lk cx Z0 s hd Z F st w) {kk off : Nat} {d : DB} (hd' : s.bx[kk]? = some d) (hne : d.cs ≠ []) {vs l : List Value} (hle : off + vs.length ≤ d.cs.length) (hl : All2 (CRf hd (BxE st)) vs l) : Lk cx Z0 (s.wrB kk off vs) hd Z F (st.wrBx kk off l) w := by
 have hids : (st.wrBx kk off l).ids = st.ids := by
  simp only [St.wrBx, St.ids]
  apply List.ext_getElem?
  intro q
  simp only [List.getElem?_map, List.getElem?_modify]
  cases st.bx[q]? with
  | none => rfl
  | some x => by_cases hq : kk = q <;> simp [hq]
 have hE : ∀ k c, BxE st k c → BxE (st.wrBx kk off l) k c := by
  rintro k c ⟨x, h1, h2, h3⟩
  by_cases hq : kk = k
  ·exact ⟨{ x with cs := x.cs.take off ++ (l.map fun v => (v, st.ctr)) ++ x.cs.drop (off + l.length) }, by simp [St.wrBx, List.getElem?_modify, h1, hq], h2, h3⟩
  ·exact ⟨x, by simp [St.wrBx, List.getElem?_modify, h1, hq], h2, h3⟩
 have hlen : (st.wrBx kk off l).bx.length = st.bx.length := by simp [St.wrBx]
 refine ⟨⟨h.ek.el, fun t e he => ?_, by rw [hlen]; simp [DS.wrB, h.ek.bl], fun k b hb => ?_, fun x hx => ?_, h.ek.pins, by rw [hids]; exact h.ek.nd⟩, by rw [hids]; exact h.tk.ext hE, h.fr, h.z0, h.zg⟩
 ·obtain ⟨e', h1, h2, h3⟩ := h.ek.env t e he
  exact ⟨e', h1, h2, h3.mono (Ext.refl _) hE (Nat.le_of_eq hlen.symm)⟩
 ·simp only [DS.wrB, List.getElem?_modify] at hb
  cases hk : s.bx[k]? with
  | none => rw [hk] at hb; cases hb
  | some b0 =>
    rw [hk] at hb
    have hb := Option.some.inj hb
    dsimp only at hb
    obtain ⟨b', h1, h2, h3⟩ := h.ek.bx k b0 hk
    by_cases hq : kk = k
    ·subst hq
     rw [if_pos rfl] at hb
     rw [hd'] at hk
     obtain rfl := Option.some.inj hk
     refine ⟨{ b' with cs := b'.cs.take off ++ (l.map fun v => (v, st.ctr)) ++ b'.cs.drop (off + l.length) }, by simp [St.wrBx, List.getElem?_modify, h1], by rw [← hb]; exact h2, fun _ => ?_⟩
     rw [← hb]
     have hall := h3 hne
     simp only [List.map_append, List.map_take, List.map_drop, List.map_map]
     have e1 : vs.map ((fun x => x.1) ∘ fun v => (v, s.ctr)) = vs := by simp [Function.comp_def]
     have e2 : l.map ((fun x => x.1) ∘ fun v => (v, st.ctr)) = l := by simp [Function.comp_def]
     rw [e1, e2, hl.len]
     exact (((hall.take off).append hl).append (hall.drop (off + vs.length))).mono fun _ _ h => h.mono (Ext.refl _) hE
    ·rw [if_neg hq] at hb
     obtain rfl : b0 = b := hb
     exact ⟨b', by simp only [St.wrBx, List.getElem?_modify, h1]; simp [hq], h2, fun hn => (h3 hn).mono fun _ _ h => h.mono (Ext.refl _) hE⟩
 ·obtain ⟨k, hk⟩ := List.getElem?_of_mem hx
  simp only [St.wrBx, List.getElem?_modify] at hk
  cases hk2 : st.bx[k]? with
  | none => rw [hk2] at hk; cases hk
  | some z =>
    rw [hk2] at hk
    have hk := Option.some.inj hk
    dsimp only at hk
    obtain ⟨hs, g1, g2⟩ := h.ek.bf z (List.mem_of_getElem? hk2)
    by_cases hq : kk = k
    ·subst hq
     rw [if_pos rfl] at hk
     obtain ⟨b', h1, h2, h3⟩ := h.ek.bx kk d hd'
     rw [hk2] at h1
     obtain rfl := Option.some.inj h1
     have hcl : z.cs.length = d.cs.length := by simpa using (h3 hne).len
     have hll := hl.len
     refine ⟨hs, by rw [← hk]; exact g1, ?_⟩
     rw [← hk, g2]
     simp
     omega
    ·rw [if_neg hq] at hk
     obtain rfl : z = x := hk
     exact ⟨hs, g1, g2⟩
theorem storeB_ok (h : Lk cx Z0 s hd Z F st w) {t : TypeId} {a x : Operand} {dr : Bool} {k : DS → Prop} (hop : o.op = .store t a x) {kk off : Nat} (ha : s.rd T a = some (.bp kk off)) (hl : dEff dcx ops dr s T o k) (hP : dcx.P = cx.P) : effOp cx ops dr st T o w (Nx cx Z0 s hd k) := by
 unfold dEff at hl
 simp only [hop] at hl
 split at hl
 ·rename_i kk' off' v ha' hv
  have := ha.symm.trans ha'
  simp only [Option.some.injEq, DC.bp.injEq] at this
  obtain ⟨rfl, rfl⟩ := this
  cases hx : s.rd [] x with
  | none => rw [hx] at hv; cases hv
  | some cv =>
    rw [hx] at hv
    simp only [Option.bind_some] at hv
    split at hl
    ·rename_i d hd'
     split at hl
     ·rename_i hc
      obtain ⟨hc1, hc2, hc3, hc4, hc5⟩ := hc
      obtain ⟨cv', h1, h2, h3⟩ := cells_ok h hx hv hc4
      obtain ⟨_, hra, rfl, hkl⟩ := rd_ok h.ek ha
      unfold effOp
      simp only [hop, hra, h1]
      refine h3 _ fun l hl1 hl2 hl3 => ?_
      obtain ⟨b', g1, g2, g3⟩ := h2.ek.bx kk d hd'
      obtain ⟨hsx, hsx1, hsx2⟩ := h2.ek.bf b' (List.mem_of_getElem? g1)
      rw [g1]
      simp only
      have hlen := hl1.len
      have hne : d.cs ≠ [] := by
       intro h0
       rw [h0, List.length_nil] at hc3
       omega
      have hall := g3 hne
      have hcl : b'.cs.length = d.cs.length := by simpa using hall.len
      rw [if_pos ⟨hP ▸ hc1, by rw [hlen, hP.symm]; exact hc2, by rw [hlen, hcl]; exact hc3, hl2⟩]
      exact ⟨_, hd, Z, F, (wrB_ok h2 hd' hne hc3 hl1).put (cv := .v undef) (cv' := .v undef) ⟨undef, undef_cr, .inl rfl⟩, (DAgr.wrB hd' _ _).trans (DAgr.put _ _ _ _), Ext.refl _, hl⟩
     ·exact hl.elim
    ·exact hl.elim
 ·rename_i r i sz off' v ha' hv
  have := ha.symm.trans ha'
  cases this
 ·exact hl.elim
def Dep (Z : Nat → Nat → Prop) (F : Nat → List Nat) (lt : Option Nat) (lo : List Nat) (r : Nat) (t : Te) (k : Nat) : Prop :=
 (∃ m, Z m k) ∨ k ∈ F r ∨ ∃ r0 rt e sub es, t = .view r0 rt e sub es ∧ ∃ m, Vw Z F lt lo r0 rt m k
theorem TeOk.keep {E : Nat → Nat → Prop} {Z' : Nat → Nat → Prop} {F' : Nat → List Nat} {lt lt' : Option Nat} {lo lo' : List Nat} {r : Nat} {v : Value} {t : Te} (h : TeOk w Z hd E F lt lo r v t) (hb : ∀ k, k < w.heap.size → Dep Z F lt lo r t k → w'.heap[k]? = w.heap[k]?)
 (hz : ∀ m k, Z m k → Z' m k) (hf : F' r = F r) (hFl : ∀ k ∈ F r, k < w.heap.size)
 (hv : ∀ r0 rt e sub es, t = .view r0 rt e sub es → ∀ m k, Vw Z F lt lo r0 rt m k → Vw Z' F' lt' lo' r0 rt m k) : TeOk w' Z' hd E F' lt' lo' r v t := by
 cases t with
 | row md e sub es =>
   show Rep w' Z' _ _ _ _
   rw [hf]
   exact Rep.kept (fun m k hk hm => hb k hk (.inl ⟨m, hm⟩)) hz h fun k hk => hb k (hFl k hk) (.inr (.inl hk))
 | view r0 rt e sub es =>
   refine ⟨by rw [hf]; exact h.1, ?_⟩
   exact Rep.kept (fun m k hk hm => hb k hk (.inr (.inr ⟨r0, rt, e, sub, es, rfl, m, hm⟩))) (hv r0 rt e sub es rfl) h.2 (fun _ h => by cases h)
 | pbx md t cs =>
   obtain ⟨cs', h1, h2⟩ := h
   refine ⟨cs', h1, ?_⟩
   rcases h2 with ⟨h0, b, h2, h3, h4⟩ | ⟨h0, p, h2, h3, h4⟩
   ·exact .inl ⟨h0, b, h2, by rw [hf]; exact h3, Box.keptB h4 (hb b h4.lt (.inr (.inl (by rw [h3]; simp))))⟩
   ·exact .inr ⟨h0, p, h2, by rw [hf]; exact h3, h4.kept (fun k hk hm => hb k hk (.inl ⟨md, hm⟩)) (hz md)⟩
 | dead => exact hf.trans h
theorem Tk.wr {E : Nat → Nat → Prop} {lt : Option Nat} {lo : List Nat} {I : Nat → Prop} {s : DS} {r b : Nat} {x : Te × Nat} {cs : List Value} {e : TypeId} {rt : Bool} (h : Tk cx s.tb hd E Z F lt lo I w) (hr : s.tb[r]? = some x) {v : Value} (hv : hd[r]? = some v) (hu : Upd w b cs e w') {ft : List Nat} (hFr : F r = b :: ft)
 {g : List Nat} {Z' : Nat → Nat → Prop} {t : Te} (hsp : Sp (upd F r (b :: g)) [] I Z' w.heap.size (fun k => 0 < k ∧ (cx.w0.heap.size ≤ k ∨ cx.M k))) (hz : ∀ m k, Z m k → Z' m k) (hlt : ∀ r0, lt = some r0 → r0 = r) (hlo : lt = none → lo = [])
 (hg : ∀ m k, k ∈ ft ∨ k ∈ lo → Z' m k ∨ k ∈ g) (hrt : rt = true ∨ g = []) (hte : TeOk w' Z' hd E (upd F r (b :: g)) none [] r v t) (hnv : ∀ rt e sub es, t ≠ .view r rt e sub es) :
 Tk cx ((s.setT r t).kill r rt).tb hd E Z' (upd F r (b :: g)) none [] I w' := by
 have hnd := h.sp.fd r
 rw [hFr, List.nodup_cons] at hnd
 have hb : b ∈ F r := by rw [hFr]; exact List.mem_cons_self ..
 refine ⟨by simp [DS.setT, DS.kill, h.hl], fun q t' c' hq => ?_, fun q hq => ?_, by rw [hu.size]; exact hsp, by rw [hu.size]; exact h.n0, h.np⟩
 ·simp only [DS.kill, DS.setT, List.getElem?_map] at hq
  cases hq2 : (s.tb.set r (t, s.ctr))[q]? with
  | none => rw [hq2] at hq; cases hq
  | some y =>
    rw [hq2] at hq
    have hq := Option.some.inj hq
    rcases set_get hq2 with ⟨rfl, rfl, _⟩ | ⟨hne, hq3⟩
    ·refine ⟨v, hv, ?_⟩
     have hk : killE q rt (s.ctr + 1) (t, s.ctr) = (t, s.ctr) := by
      unfold killE
      split
      ·rename_i r' rt' e sub es vv heq
       obtain ⟨rfl, rfl⟩ := Prod.mk.inj heq
       split
       ·rename_i h0
        exact absurd (h0 ▸ rfl) (hnv rt' e sub es)
       ·rfl
      ·rfl
     rw [hk] at hq
     obtain ⟨rfl, rfl⟩ := Prod.mk.inj hq
     exact hte
    ·obtain ⟨y1, y2⟩ := y
     obtain ⟨v', h1, h2⟩ := h.te q y1 y2 hq3
     refine ⟨v', h1, ?_⟩
     have hFl : ∀ k ∈ F q, k < w.heap.size := fun k hk => (h.sp.fm q k hk).1
     have hbq : ¬ b ∈ F q := fun hm => hne (h.sp.fj _ _ _ hm hb)
     have hbz : ∀ m, ¬ Z m b := fun m hm => (h.sp.z m b hm).2.2.2 r hb
     rcases killE_cases r rt (s.ctr + 1) (y1, y2) with hk | hk
     ·rw [hk] at hq
      obtain ⟨rfl, rfl⟩ := Prod.mk.inj hq
      -- it looks at no root of r
      have hview : ∀ rt' e sub es, y1 = .view r rt' e sub es → rt = true ∧ rt' = false := by
       rintro rt' e sub es rfl
       simp only [killE, if_true] at hk
       split at hk
       ·rename_i hc
        simp only [Bool.and_eq_true, Bool.not_eq_true'] at hc
        exact hc
       ·cases hk
      refine h2.keep (fun k hk' hd' => hu.block k fun ek => ?_) hz (upd_ne _ _ hne) hFl ?_
      ·subst ek
       rcases hd' with ⟨m, hm⟩ | hm | ⟨r0, rt', e', sub', es', ht, m, hm⟩
       ·exact hbz m hm
       ·exact hbq hm
       ·by_cases h0 : r0 = r
        ·subst h0
         obtain ⟨_, rfl⟩ := hview rt' e' sub' es' ht
         rcases hm with hm | ⟨hm, _⟩ | hm | ⟨_, hm⟩
         ·exact hbz m hm
         ·cases hm
         ·rw [hFr] at hm; exact hnd.1 hm
         ·exact h.sp.lf r0 _ hm hb
        ·rcases hm with hm | ⟨_, hm⟩ | hm | ⟨hl, hm⟩
         ·exact hbz m hm
         ·exact h0 (h.sp.fj _ _ _ hm hb)
         ·exact h0 (h.sp.fj _ _ _ (List.mem_of_mem_tail hm) hb)
         ·exact h0 (hlt _ hl)
      ·intro r0 rt' e' sub' es' ht m k hm
       by_cases h0 : r0 = r
       ·subst h0
        obtain ⟨hrt', rfl⟩ := hview rt' e' sub' es' ht
        have key : k ∈ ft ∨ k ∈ lo → Vw Z' (upd F r0 (b :: g)) none [] r0 false m k := fun hk => by
         rcases hg m k hk with hk | hk
         ·exact .inl hk
         ·exact .inr (.inr (.inl (by rw [upd_same]; exact hk)))
        rcases hm with hm | ⟨hm, _⟩ | hm | ⟨_, hm⟩
        ·exact .inl (hz m k hm)
        ·cases hm
        ·rw [hFr] at hm; exact key (.inl hm)
        ·exact key (.inr hm)
       ·rcases hm with hm | ⟨hp, hm⟩ | hm | ⟨hl, hm⟩
        ·exact .inl (hz m k hm)
        ·exact .inr (.inl ⟨hp, by rw [upd_ne _ _ h0]; exact hm⟩)
        ·exact .inr (.inr (.inl (by rw [upd_ne _ _ h0]; exact hm)))
        ·exact absurd (hlt _ hl) h0
     ·rw [hk] at hq
      obtain ⟨rfl, rfl⟩ := Prod.mk.inj hq
      show upd F r (b :: g) q = []
      rw [upd_ne _ _ hne]
      -- what is killed is a view
      have : ∃ r' rt' e sub es, y1 = .view r' rt' e sub es ∨ y1 = .dead := by
       cases y1 with
       | view r' rt' e sub es => exact ⟨r', rt', e, sub, es, .inl rfl⟩
       | row => simp [killE] at hk
       | pbx => simp [killE] at hk
       | dead => exact ⟨0, false, 0, [], [], .inr rfl⟩
      obtain ⟨r', rt', e', sub', es', hy | hy⟩ := this
      ·subst hy; exact h2.1
      ·subst hy; exact h2
 ·simp only [DS.kill, DS.setT, List.length_map, List.length_set] at hq
  have hlt' := get_lt hr
  rw [upd_ne _ _ (by omega)]
  exact h.f0 q hq
theorem flatten_part {css : List (List Value)} {sz : Nat} (h : ∀ cs ∈ css, cs.length = sz) {i off : Nat} {cs l : List Value} (hi : css[i]? = some cs) (hle : off + l.length ≤ sz) :
 css.flatten.take (i * sz + off) ++ l ++ css.flatten.drop (i * sz + off + l.length) = (css.set i (cs.take off ++ l ++ cs.drop (off + l.length))).flatten := by
 have hcs : cs.length = sz := h cs (List.mem_of_getElem? hi)
 have hlen : (cs.take off ++ l ++ cs.drop (off + l.length)).length = sz := by simp; omega
 have hlt := get_lt hi
 rw [← flatten_set h hlt hlen]
 have e1 : css.flatten.drop (i * sz) = cs ++ (css.drop (i + 1)).flatten := by
  rw [← drop_flatten h, List.drop_eq_getElem_cons hlt, List.flatten_cons]
  rw [List.getElem?_eq_getElem hlt] at hi
  rw [Option.some.inj hi]
 have e2 : css.flatten.take (i * sz + off) = css.flatten.take (i * sz) ++ cs.take off := by
  rw [List.take_add, e1, List.take_append_of_le_length (by omega)]
 have e3 : css.flatten.drop (i * sz + off + l.length) = cs.drop (off + l.length) ++ css.flatten.drop (i * sz + sz) := by
  have e4 : css.flatten.drop (i * sz + sz) = (css.drop (i + 1)).flatten := by rw [← List.drop_drop, e1, ← hcs, List.drop_left]
  have e5 : css.flatten.drop (i * sz + (off + l.length)) = cs.drop (off + l.length) ++ (css.drop (i + 1)).flatten := by
   rw [← List.drop_drop, e1, List.drop_append_of_le_length (by omega)]
  rw [Nat.add_assoc, e5, e4]
 rw [e2, e3]
 simp only [List.append_assoc]
theorem Reps.mid {Z : Nat → Nat → Prop} {sub : List Shp} {ds dn : List D} {cs cn : List Value} {f fn : List Nat} (h : Reps w Z sub ds cs f) (off n : Nat) (hn : Reps w Z ((sub.drop off).take n) dn cn fn) (hle : off + n ≤ sub.length) :
 ∃ f1 f3 f4, f = f1 ++ (f3 ++ f4) ∧ Reps w Z sub (ds.take off ++ dn ++ ds.drop (off + n)) (cs.take off ++ cn ++ cs.drop (off + n)) (f1 ++ fn ++ f4) := by
 obtain ⟨f1, f2, rfl, h1, h2⟩ := h.cut off
 obtain ⟨f3, f4, rfl, h3, h4⟩ := h2.cut n
 refine ⟨f1, f3, f4, rfl, ?_⟩
 rw [List.drop_drop, List.drop_drop, List.drop_drop] at h4
 have := (h1.append hn).append h4
 have e : sub.take off ++ (sub.drop off).take n ++ sub.drop (off + n) = sub := by
  rw [← List.drop_drop, List.append_assoc, List.take_append_drop, List.take_append_drop]
 rw [e] at this
 exact this
theorem Rep.own_inv {Z : Nat → Nat → Prop} {e : TypeId} {sub : List Shp} {es : List (List D)} {y : Value} {f : List Nat} (h : Rep w Z (.l 0 e sub) (.l es) y f) :
 (es = [] ∧ y = .slice none 0 0 ∧ f = []) ∨ ∃ b c css rest fs, y = .slice (some ⟨b, 0, none⟩) es.length c ∧ f = b :: fs ∧ Box w b (css.flatten ++ rest) e ∧ (css.flatten ++ rest).length = c * sub.length ∧ es.length ≤ c ∧ c ≤ maxLen ∧ Recs w Z sub es css fs := by
 cases h with
 | tree h1 => exact absurd rfl h1
 | nil => exact .inl ⟨rfl, rfl, rfl⟩
 | own h1 h2 h3 h4 h5 => exact .inr ⟨_, _, _, _, _, rfl, rfl, h1, h2, h3, h4, h5⟩
theorem Tk.relt {tb : List (Te × Nat)} {E : Nat → Nat → Prop} {lt : Option Nat} {I : Nat → Prop} (h : Tk cx tb hd E Z F none [] I w) : Tk cx tb hd E Z F lt [] I w :=
 ⟨h.hl, fun r t c ht => by
  obtain ⟨v, h1, h2⟩ := h.te r t c ht
  exact ⟨v, h1, h2.mono (fun _ _ _ => rfl) (fun _ _ h => h) (Ext.refl _) (fun _ _ h => h) rfl (fun r0 pos e sub es _ m k hk => by
   rcases hk with hk | hk | hk | ⟨_, hk⟩
   ·exact .inl hk
   ·exact .inr (.inl hk)
   ·exact .inr (.inr (.inl hk))
   ·cases hk) fun k hk => (h.sp.fm r k hk).1⟩, h.f0, h.sp, h.n0, h.np⟩
theorem storeE_ok (h : Lk cx Z0 s hd Z F st w) {t : TypeId} {a x : Operand} {dr : Bool} {k : DS → Prop} (hop : o.op = .store t a x) {r i sz off : Nat} (ha : s.rd T a = some (.er r i sz off)) (hl : dEff dcx ops dr s T o k) (hP : dcx.P = cx.P) : effOp cx ops dr st T o w (Nx cx Z0 s hd k) := by
 unfold dEff at hl
 simp only [hop] at hl
 split at hl
 ·rename_i kk' off' v ha' hv
  have := ha.symm.trans ha'
  cases this
 ·rename_i r' i' sz' off' v ha' hv
  have := ha.symm.trans ha'
  simp only [Option.some.injEq, DC.er.injEq] at this
  obtain ⟨rfl, rfl, rfl, rfl⟩ := this
  cases hx : s.rd [] x with
  | none => rw [hx] at hv; cases hv
  | some cv =>
    rw [hx] at hv
    simp only [Option.bind_some] at hv
    rw [hP] at hl
    unfold dStore at hl
    simp only at hl
    split at hl
    ·rename_i hc
     obtain ⟨hc1, hc2, hc3, hone⟩ := hc
     obtain ⟨_, hra, y, hy, rfl, _⟩ := rd_ok h.ek ha
     unfold effOp
     split at hl
     ·-- what a pointer leads to
      rename_i t' cs htb
      split at hl
      ·rename_i hd1
       obtain ⟨hd1, rfl⟩ := hd1
       obtain ⟨cv', h1, h2, h3⟩ := cells_ok h hx hv hone
       simp only [hop, hra, h1]
       refine h3 _ fun l hl1 hl2 hl3 => ?_
       have hlen := hl1.len
       rw [if_pos ⟨hc1, by rw [hlen]; exact hc2, hl2⟩]
       refine flush_of h2 fun w1 h' => ?_
       obtain ⟨c, hrow⟩ := tbAt_some htb (by simp)
       obtain ⟨y', k2, cs', k3, k4⟩ := h'.tk.te _ _ _ hrow
       rw [hy] at k2
       obtain rfl := Option.some.inj k2
       rcases k4 with ⟨_, b, rfl, hF, hB⟩ | ⟨h0, _⟩
       ·have hcl := k3.len
        have hbm : b ∈ F r := by rw [hF]; simp
        refine ⟨b, off, cs', t', by simp [offA, baseOf, add_none], hB, by rw [hlen, hcl]; exact hd1, (h'.tk.sp.fm r b hbm).2.2, fun hm => (h'.tk.sp.il b hm).2 r hbm, fun w2 hu hfr => ?_⟩
        have hsp : Sp (upd F r (b :: [])) [] (· ∈ (st.esc1 cv').ids) Z w1.heap.size (fun k => 0 < k ∧ (cx.w0.heap.size ≤ k ∨ cx.M k)) := by
         have : upd F r [b] = F := by
          funext q
          unfold upd
          split
          ·rename_i hq; subst hq; exact hF.symm
          ·rfl
         rw [this]; exact h'.tk.sp
        have htk := Tk.wr (rt := false) (t := .pbx 0 t' (cs.take off ++ lvs v ++ cs.drop (off + (lvs v).length))) h'.tk hrow hy hu hF hsp (fun _ _ h => h) (fun _ h => by cases h) (fun _ => rfl) (fun m k hk => by rcases hk with hk | hk <;> cases hk) (.inr rfl) ⟨cs'.take off ++ l ++ cs'.drop (off + l.length), by
         rw [hlen]
         exact ((k3.take off).append hl1).append (k3.drop _), .inl ⟨rfl, b, rfl, upd_same _ _ _, hu.box⟩⟩ (by intros; simp)
        have hlk : Lk cx Z0 ((s.setT r (.pbx 0 t' (cs.take off ++ lvs v ++ cs.drop (off + (lvs v).length)))).kill r false) hd Z (upd F r [b]) (st.esc1 cv').clean w2 :=
         ⟨⟨h2.ek.el, h2.ek.env, h2.ek.bl, h2.ek.bx, h2.ek.bf, h2.ek.pins, h2.ek.nd⟩, htk, hfr, h'.z0, h'.zg⟩
        exact ⟨_, hd, Z, _, hlk.put (cv := .v undef) (cv' := .v undef) ⟨undef, undef_cr, .inl rfl⟩, ((Keeps.setT _ _ _).trans (Keeps.kill _ _ _)).agr.trans (DAgr.put _ _ _ _), Ext.refl _, hl⟩
       ·exact absurd rfl h0
      ·exact hl.elim
     ·-- a record
      rename_i e sub es htb
      split at hl
      ·rename_i ds s1 htk0
       split at htk0
       ·rename_i hsz
        obtain ⟨rfl, hoff⟩ := hsz
        obtain ⟨cv', h1, h2, h3⟩ := cells_ok h hx hv hone
        simp only [hop, hra, h1]
        refine h3 _ fun l hl1 hl2 hl3 => ?_
        have hlen := hl1.len
        rw [if_pos ⟨hc1, by rw [hlen]; exact hc2, hl2⟩]
        refine flush_of h2 fun w1 h' => ?_
        have h'' : Tk cx s.tb hd (BxE (st.esc1 cv')) Z F (some r) [] (· ∈ (st.esc1 cv').ids) w1 := h'.tk.relt
        obtain ⟨f, Z1, F1, I1, hT, hFs, hRn⟩ := takes_ok (E0 := fun _ _ => True) (some r) _ _ l s s1 ds Z F [] _ h'' (fun h => by cases h) hl1 htk0
        obtain ⟨hI1, hbx1⟩ := hT.ii rfl
        have hT' : Tk cx s1.tb hd (BxE (st.esc1 cv')) Z1 F1 (some r) f (· ∈ (st.esc1 cv').ids) w1 := by
         have := hT.tk
         rw [List.append_nil] at this
         exact this.boxes fun k hk => .inl (hI1 k hk)
        split at hl
        ·rename_i e1 sub1 es1 htb1
         obtain ⟨c1, hrow1⟩ := tbAt_some htb1 (by simp)
         have hrow := hT.kr r rfl _ _ _ _ hrow1
         obtain ⟨c0, hrow0⟩ := tbAt_some htb (by simp)
         rw [hrow0] at hrow
         have hrow' := Option.some.inj hrow
         simp only [Prod.mk.injEq, Te.row.injEq, true_and] at hrow'
         obtain ⟨⟨rfl, rfl, rfl⟩, rfl⟩ := hrow'
         obtain ⟨y', k2, hrep⟩ := hT'.te _ _ _ hrow1
         rw [hy] at k2
         obtain rfl := Option.some.inj k2
         have hrep : Rep w1 Z1 (.l 0 e sub) (.l es) y (F1 r) := hrep
         -- the record that is written
         have main : ∀ ds0, es[i]? = some ds0 → k (((s1.setT r (.row 0 e sub (es.set i (ds0.take off ++ ds ++ ds0.drop (off + (lvs v).length))))).kill r true).put o.dst (.v undef) []) →
          CanW cx (st.esc1 cv').ids w1 (baseOf y) (i * sub.length + off) l fun w2 => Nx cx Z0 s hd k ((st.esc1 cv').clean.put o.dst (.v undef) []) w2 := by
          intro ds0 hi hk
          rcases hrep.own_inv with ⟨rfl, _⟩ | ⟨b, c, css, rest, fs, rfl, hFr, hB, hcap, hlc, hcm, hRs⟩
          ·cases hi
          ·obtain ⟨fa, fi, fc, cs, rfl, hcs, hR0, hset⟩ := hRs.split hi
           obtain ⟨f1, f3, f4, rfl, hRnew⟩ := hR0.mid off (lvs v).length hRn hoff
           have hRs' := hset _ _ _ hRnew
           have hilt := get_lt hi
           have hfl := hRs.size
           have hle : (i + 1) * sub.length ≤ es.length * sub.length := Nat.mul_le_mul_right _ hilt
           rw [Nat.add_mul, Nat.one_mul] at hle
           have hbm : b ∈ F1 r := by rw [hFr]; exact List.mem_cons_self ..
           refine ⟨b, i * sub.length + off, css.flatten ++ rest, e, by simp [offA, baseOf, add_none], hB, by rw [List.length_append]; omega, (hT'.sp.fm r b hbm).2.2, fun hm => (hT'.sp.il b hm).2 r hbm, fun w2 hu hfr => ?_⟩
           have hcells : List.take (i * sub.length + off) (css.flatten ++ rest) ++ l ++ List.drop (i * sub.length + off + l.length) (css.flatten ++ rest) = (css.set i (cs.take off ++ l ++ cs.drop (off + (lvs v).length))).flatten ++ rest := by
            rw [List.take_append_of_le_length (by omega), List.drop_append_of_le_length (by omega), ← List.append_assoc, flatten_part hRs.sizes hcs (by omega), hlen]
           have hu' := hu
           rw [hcells] at hu'
           have hnd := hT'.sp.fd r
           have hFr' := hFr
           rw [hFr] at hnd
           rw [List.nodup_cons] at hnd
           have p1 : List.Perm (fa ++ (f1 ++ (f3 ++ f4)) ++ fc) (f3 ++ (fa ++ f1 ++ f4 ++ fc)) := List.perm_iff_count.2 fun x => by simp only [List.count_append]; omega
           have p2 : List.Perm (fa ++ (f1 ++ f ++ f4) ++ fc) (f ++ (fa ++ f1 ++ f4 ++ fc)) := List.perm_iff_count.2 fun x => by simp only [List.count_append]; omega
           have hn1 := p1.nodup_iff.1 hnd.2
           rw [List.nodup_append] at hn1
           have inF : ∀ k, k ∈ fa ++ f1 ++ f4 ++ fc → k ∈ F1 r := fun k hk => by
            rw [hFr]
            exact List.mem_cons_of_mem _ (p1.mem_iff.2 (List.mem_append_right _ hk))
           have hn2 : (f ++ (fa ++ f1 ++ f4 ++ fc)).Nodup := by
            rw [List.nodup_append]
            exact ⟨hT'.sp.ln, hn1.2.1, fun x hx y hy e => hT'.sp.lf r x hx (inF x (e ▸ hy))⟩
           have hbg : ¬ b ∈ fa ++ (f1 ++ f ++ f4) ++ fc := fun hm => by
            rcases List.mem_append.1 (p2.mem_iff.1 hm) with hm | hm
            ·exact hT'.sp.lf r b hm hbm
            ·exact hnd.1 (p1.mem_iff.2 (List.mem_append_right _ hm))
           have hz3 : ∀ k, k ∈ f3 → k ∈ F1 r ∧ ¬ k ∈ b :: (fa ++ (f1 ++ f ++ f4) ++ fc) := fun k hk => by
            have hkF : k ∈ F1 r := by
             rw [hFr]
             exact List.mem_cons_of_mem _ (p1.mem_iff.2 (List.mem_append_left _ hk))
            refine ⟨hkF, fun hm => ?_⟩
            rcases List.mem_cons.1 hm with rfl | hm
            ·exact hnd.1 (p1.mem_iff.2 (List.mem_append_left _ hk))
            ·rcases List.mem_append.1 (p2.mem_iff.1 hm) with hm | hm
             ·exact hT'.sp.lf r k hm hkF
             ·exact hn1.2.2 k hk k hm rfl
           have hsp : Sp (upd F1 r (b :: (fa ++ (f1 ++ f ++ f4) ++ fc))) [] (· ∈ (st.esc1 cv').ids) (fun m k => Z1 m k ∨ k ∈ f3) w1.heap.size (fun k => 0 < k ∧ (cx.w0.heap.size ≤ k ∨ cx.M k)) := by
            refine hT'.sp.gen (Nat.le_refl _) ?_ .nil (fun k _ h => by cases h) (fun k hk => ?_) (fun m k hk => ?_) (fun m k hk => ?_) (.inl rfl)
            ·rw [List.nodup_cons]
             exact ⟨hbg, p2.nodup_iff.2 hn2⟩
            ·rcases hk with hk | hk
             ·rcases List.mem_cons.1 hk with rfl | hk
              ·exact .inl hbm
              ·rcases List.mem_append.1 (p2.mem_iff.1 hk) with hk | hk
               ·exact .inr (.inl hk)
               ·exact .inl (inF k hk)
             ·cases hk
            ·rcases hk with hk | hk
             ·exact .inl hk
             ·exact .inr ⟨.inl (hz3 k hk).1, (hz3 k hk).2, by simp⟩
            ·rcases hk with hk | hk
             ·exact .inl (hT'.sp.z2 m k hk)
             ·exact .inr hk
           have hkeep : ∀ k, k ≠ b → w2.heap[k]? = w1.heap[k]? := fun k hk => hu.block k hk
           have hrep2 : Rep w2 (fun m k => Z1 m k ∨ k ∈ f3) (.l 0 e sub) (.l (es.set i (ds0.take off ++ ds ++ ds0.drop (off + (lvs v).length)))) (.slice (some ⟨b, 0, none⟩) es.length c) (b :: (fa ++ (f1 ++ f ++ f4) ++ fc)) := by
            have hrk := Recs.kept (w' := w2) (Z' := fun m k => Z1 m k ∨ k ∈ f3) (fun m k _ hm => hkeep k fun e => (hT'.sp.z m k hm).2.2.2 r (e ▸ hbm)) (fun m k hk => .inl hk) hRs' (fun k hk => hkeep k fun e => hbg (e ▸ hk))
            have hll : (es.set i (ds0.take off ++ ds ++ ds0.drop (off + (lvs v).length))).length = es.length := by simp
            have := Rep.own (c := c) (rest := rest) (e := e) (by simpa using hu'.box) (by
             rw [List.length_append, hrk.size, hll, ← hcap, List.length_append, hfl]) (by rw [hll]; exact hlc) hcm hrk
            rw [hll] at this
            exact this
           have htk := Tk.wr (rt := true) (t := .row 0 e sub (es.set i (ds0.take off ++ ds ++ ds0.drop (off + (lvs v).length)))) hT' hrow1 hy hu hFr hsp (fun _ _ h => .inl h) (fun r0 h0 => (Option.some.inj h0).symm) (fun h => by cases h) (fun m k hk => by
            rcases hk with hk | hk
            ·rcases List.mem_append.1 (p1.mem_iff.1 hk) with hk | hk
             ·exact .inl (.inr hk)
             ·exact .inr (p2.mem_iff.2 (List.mem_append_right _ hk))
            ·exact .inr (p2.mem_iff.2 (List.mem_append_left _ hk))) (.inl rfl) (by
            show Rep w2 _ _ _ _ (upd F1 r _ r)
            rw [upd_same]
            exact hrep2) (by intros; simp)
           have hlk : Lk cx Z0 ((s1.setT r (.row 0 e sub (es.set i (ds0.take off ++ ds ++ ds0.drop (off + (lvs v).length))))).kill r true) hd (fun m k => Z1 m k ∨ k ∈ f3) (upd F1 r (b :: (fa ++ (f1 ++ f ++ f4) ++ fc))) (st.esc1 cv').clean w2 := by
            refine ⟨h2.clean.ek.ext (Ext.refl _) hT.keeps.env hbx1 hT.keeps.pins, htk, hfr, fun m k hk => .inl (hT.z m k (h'.z0 m k hk)), fun m k hk => ?_⟩
            rcases hk with hk | hk
            ·rcases hT.zn m k hk with hk | ⟨q, hk⟩
             ·exact h'.zg m k hk
             ·exact .inr (h'.tk.sp.fm q k hk).2.2
            ·exact .inr (hT'.sp.fm r k (hz3 k hk).1).2.2
           exact ⟨_, hd, _, _, hlk.put (cv := .v undef) (cv' := .v undef) ⟨undef, undef_cr, .inl rfl⟩, ((hT.keeps.trans (Keeps.setT _ _ _)).trans (Keeps.kill _ _ _)).agr.trans (DAgr.put _ _ _ _), Ext.refl _, hk⟩
         split at hl
         ·rename_i hfull
          obtain ⟨hn, rfl⟩ := hfull
          obtain ⟨hlt, hl⟩ := hl
          refine main _ (List.getElem?_eq_getElem hlt) ?_
          obtain ⟨cs0, f0, hR0, _⟩ := hrep.rec_at (List.getElem?_eq_getElem hlt)
          have hl0 := hR0.len.1
          rw [List.take_zero, List.nil_append, Nat.zero_add, List.drop_eq_nil_of_le (by omega), List.append_nil]
          exact hl
         ·obtain ⟨ds0, _, hi, hk⟩ := exSs_ex hl
          exact main ds0 hi hk
        ·exact hl.elim
       ·cases htk0
      ·exact hl.elim
     ·exact hl.elim
    ·exact hl.elim
 ·exact hl.elim
end
end Go.Dw
end
section
namespace Go.Dw
open Go Go.Cw
set_option linter.unusedVariables false
inductive RepA (w : World) (Z : Nat → Nat → Prop) : List Pm → List (List D) → List Value → List Nat → Prop
 | nil : RepA w Z [] [] [] []
 | cons {p : Pm} {ps : List Pm} {d : List D} {ds : List (List D)} {ys vs : List Value} {f fs : List Nat} : Reps w Z p.sub d ys f → (p.agg = false → ys.length = 1) → RepA w Z ps ds vs fs → RepA w Z (p :: ps) (d :: ds) (p.mk' ys :: vs) (f ++ fs)
 | nilp {p : Pm} {ps : List Pm} {ds : List (List D)} {vs : List Value} {fs : List Nat} : p.nilp = true → RepA w Z ps ds vs fs → RepA w Z (p :: ps) ([.v (.pointer none)] :: ds) (.pointer none :: vs) fs
theorem Pm.nilp_sub {p : Pm} (h : p.nilp = true) : p.agg = false ∧ ∃ t sub, p.sub = [.p 0 t sub] := by
 unfold Pm.nilp at h
 simp only [Bool.and_eq_true, Bool.not_eq_true'] at h
 refine ⟨h.1.2, ?_⟩
 have h := h.2
 split at h
 ·rename_i hs; exact ⟨_, _, hs⟩
 ·cases h
theorem Pm.nilV_eq {p : Pm} {l : List Value} (h : p.nilV l = true) : p.nilp = true ∧ l = [.pointer none] := by
 unfold Pm.nilV at h
 simp only [Bool.and_eq_true] at h
 refine ⟨h.1, ?_⟩
 have h := h.2
 split at h
 ·rfl
 ·cases h
theorem Pm.nilD_eq {p : Pm} {l : List D} (h : p.nilD l = true) : p.nilp = true ∧ l = [.v (.pointer none)] := by
 unfold Pm.nilD at h
 simp only [Bool.and_eq_true] at h
 refine ⟨h.1, ?_⟩
 have h := h.2
 split at h
 ·rfl
 ·cases h
theorem Pm.nilD_not {w : World} {Z : Nat → Nat → Prop} {p : Pm} {l : List D} {ys : List Value} {f : List Nat} (h : Reps w Z p.sub l ys f) : p.nilD l = false := by
 cases hd : p.nilD l with
 | false => rfl
 | true =>
   obtain ⟨h1, rfl⟩ := Pm.nilD_eq hd
   obtain ⟨_, t, sub, hs⟩ := Pm.nilp_sub h1
   rw [hs] at h
   cases h with
   | cons h1 _ => cases h1
theorem Pm.nilD_is {p : Pm} (h : p.nilp = true) : p.nilD [.v (.pointer none)] = true := by
 unfold Pm.nilD
 rw [h]; rfl
def GOk (Gl : List (Nat × List Value)) (w : World) (Q : Nat → Prop) : Prop := ∀ x ∈ Gl, Q x.1 ∧ ∃ rest t, Box w x.1 (x.2 ++ rest) t
def SpecOk (P : Program) (Gl : List (Nat × List Value)) (g : FuncId) (S : Spec) : Prop :=
 ∀ (a : S.α) (w : World) (Z : Nat → Nat → Prop) (vs : List Value) (f : List Nat), S.pre a → RepA w Z S.as (S.arg a) vs f → f.Nodup → (∀ k ∈ f, 0 < k ∧ ∀ m, ¬ Z m k) → (∀ m k, Z m k → k < w.heap.size ∧ Z 2 k) → 0 < w.heap.size → GOk Gl w (Z 2) →
  Calls P g vs.toArray w fun e w' => ∃ rs, e = .returned (retV rs) ∧ Fr (· ∈ f) w w' ∧ ∃ fr Z', fr.Nodup ∧ (∀ k ∈ fr, k ∈ f ∨ w.heap.size ≤ k) ∧ (∀ m k, Z' m k → (Z m k ∨ k ∈ f ∨ w.heap.size ≤ k) ∧ ¬ k ∈ fr ∧ k < w'.heap.size) ∧
   RepA w' Z' S.ps (S.out a) (rs ++ S.af.map fun x => vs.getD x.1 undef) fr
section
variable {w w' : World} {Z Z' : Nat → Nat → Prop}
theorem GOk.kept {Gl : List (Nat × List Value)} {Q Q' : Nat → Prop} (h : GOk Gl w Q) (hb : ∀ k, k < w.heap.size → Q k → w'.heap[k]? = w.heap[k]?) (hq : ∀ k, Q k → Q' k) : GOk Gl w' Q' := fun x hx => by
 obtain ⟨h1, rest, t, h2⟩ := h x hx
 refine ⟨hq _ h1, rest, t, ?_⟩
 unfold Box at *
 rw [hb _ (Array.getElem?_eq_some_iff.1 h2).1 h1]
 exact h2
theorem RepA.kept (hz : ∀ m k, k < w.heap.size → Z m k → w'.heap[k]? = w.heap[k]?) (hm : ∀ m k, Z m k → Z' m k) {ps : List Pm} {ds : List (List D)} {vs : List Value} {f : List Nat} (h : RepA w Z ps ds vs f) (hf : ∀ k ∈ f, w'.heap[k]? = w.heap[k]?) : RepA w' Z' ps ds vs f := by
 induction h with
 | nil => exact .nil
 | cons h1 h2 _ ih => exact .cons (Reps.kept hz hm h1 fun k hk => hf k (List.mem_append_left _ hk)) h2 (ih fun k hk => hf k (List.mem_append_right _ hk))
 | nilp h1 _ ih => exact .nilp h1 (ih hf)
theorem RepA.lt {ps : List Pm} {ds : List (List D)} {vs : List Value} {f : List Nat} (h : RepA w Z ps ds vs f) : ∀ k ∈ f, k < w.heap.size := by
 induction h with
 | nil => intro k hk; cases hk
 | cons h1 h2 _ ih =>
   intro k hk
   rcases List.mem_append.1 hk with hk | hk
   ·exact Reps.lt h1 k hk
   ·exact ih k hk
 | nilp h1 _ ih => exact ih
mutual
theorem Rep.strict (hz : ∀ k, Z 1 k → Z' 1 k) : ∀ {s : Shp} {d : D} {v : Value} {f : List Nat}, Rep w Z s d v f → s.str = true → Rep w Z' s d v f
 | _, _, _, _, .v h1 h3, _ => .v h1 h3
 | _, _, _, _, .tree h1 h3 hc h4 h5, hr => by
   simp only [Shp.str, Bool.and_eq_true, Bool.or_eq_true, beq_iff_eq] at hr
   obtain ⟨h0 | rfl, hr⟩ := hr
   ·exact absurd h0 h1
   ·exact .tree h1 h3 hc (h4.kept (fun _ _ _ => rfl) hz) (Recs.strict hz h5 hr)
 | _, _, _, _, .nil, hr => .nil
 | _, _, _, _, .own h1 h3 h4 h5 h6, hr => by
   simp only [Shp.str, Bool.and_eq_true, Bool.or_eq_true, beq_iff_eq] at hr
   exact .own h1 h3 h4 h5 (Recs.strict hz h6 hr.2)
 | _, _, _, _, .ptr h1 h4 h5, hr => by
   simp only [Shp.str, Bool.and_eq_true, Bool.or_eq_true, beq_iff_eq] at hr
   obtain ⟨h0 | rfl, hr⟩ := hr
   ·exact absurd h0 h1
   ·exact .ptr h1 (h4.kept (fun _ _ _ => rfl) hz) (Reps.strict hz h5 hr)
 | _, _, _, _, .box h1 h3, hr => by
   simp only [Shp.str, Bool.and_eq_true, Bool.or_eq_true, beq_iff_eq] at hr
   exact .box h1 (Reps.strict hz h3 hr.2)
 | _, _, _, _, .fn h1, hr => .fn (Reps.strict hz h1 hr)
theorem Reps.strict (hz : ∀ k, Z 1 k → Z' 1 k) : ∀ {s : List Shp} {d : List D} {v : List Value} {f : List Nat}, Reps w Z s d v f → Shp.strs s = true → Reps w Z' s d v f
 | _, _, _, _, .nil, _ => .nil
 | _, _, _, _, .cons h1 h3, hr => by
   simp only [Shp.strs, Bool.and_eq_true] at hr
   exact .cons (Rep.strict hz h1 hr.1) (Reps.strict hz h3 hr.2)
theorem Recs.strict (hz : ∀ k, Z 1 k → Z' 1 k) : ∀ {s : List Shp} {d : List (List D)} {v : List (List Value)} {f : List Nat}, Recs w Z s d v f → Shp.strs s = true → Recs w Z' s d v f
 | _, _, _, _, .nil, _ => .nil
 | _, _, _, _, .cons h1 h3, hr => .cons (Reps.strict hz h1 hr) (Recs.strict hz h3 hr)
end
theorem RepA.strict (hz : ∀ k, Z 1 k → Z' 1 k) {ps : List Pm} {ds : List (List D)} {vs : List Value} {f : List Nat} (h : RepA w Z ps ds vs f) (hs : (ps.all fun p => Shp.strs p.sub) = true) : RepA w Z' ps ds vs f := by
 induction h with
 | nil => exact .nil
 | cons h1 h2 _ ih =>
   simp only [List.all_cons, Bool.and_eq_true] at hs
   exact .cons (Reps.strict hz h1 hs.1) h2 (ih hs.2)
 | nilp h1 _ ih =>
   simp only [List.all_cons, Bool.and_eq_true] at hs
   exact .nilp h1 (ih hs.2)
theorem RepA.len {ps : List Pm} {ds : List (List D)} {vs : List Value} {f : List Nat} (h : RepA w Z ps ds vs f) : ds.length = ps.length ∧ vs.length = ps.length := by
 induction h with
 | nil => exact ⟨rfl, rfl⟩
 | cons _ _ _ ih => simp [ih.1, ih.2]
 | nilp _ _ ih => simp [ih.1, ih.2]
theorem RepA.split {ps ps' : List Pm} {ds : List (List D)} {vs : List Value} {f : List Nat} (h : RepA w Z (ps ++ ps') ds vs f) :
 ∃ f1 f2, f = f1 ++ f2 ∧ RepA w Z ps (ds.take ps.length) (vs.take ps.length) f1 ∧ RepA w Z ps' (ds.drop ps.length) (vs.drop ps.length) f2 := by
 induction ps generalizing ds vs f with
 | nil => exact ⟨[], f, rfl, .nil, h⟩
 | cons p ps ih =>
   cases h with
   | @cons _ _ d ds ys vs f fs h1 h2 h3 =>
     obtain ⟨f1, f2, rfl, k1, k2⟩ := ih h3
     exact ⟨f ++ f1, f2, by simp, .cons h1 h2 k1, k2⟩
   | nilp h1 h3 =>
     obtain ⟨f1, f2, rfl, k1, k2⟩ := ih h3
     exact ⟨f1, f2, rfl, .nilp h1 k1, k2⟩
end
section
variable {cx : Cx} {hd : List Value} {E E0 : Nat → Nat → Prop} {w : World}
inductive ArgL (hd : List Value) (E : Nat → Nat → Prop) : List Pm → List (List Value) → List Value → Prop
 | nil : ArgL hd E [] [] []
 | cons {p : Pm} {ps : List Pm} {l : List Value} {ls : List (List Value)} {ys vs : List Value} : All2 (CRf hd E) l ys → (p.agg = false → ys.length = 1) → ArgL hd E ps ls vs → ArgL hd E (p :: ps) (l :: ls) (p.mk' ys :: vs)
theorem argLvs_ok : ∀ (ps : List Pm) (vals ys : List Value) (ls : List (List Value)), All2 (CR hd E) vals ys → argLvs ps vals = some ls → vals.all notTup = true → ArgL hd E ps ls ys
 | [], vals, ys, ls, h, ha, _ => by
   cases h with
   | nil => obtain rfl := Option.some.inj ha; exact .nil
   | cons _ _ => simp [argLvs] at ha
 | p :: ps, vals, ys, ls, h, ha, ht => by
   cases h with
   | nil => simp [argLvs] at ha
   | @cons v y vs ys h1 h2 =>
     simp only [List.all_cons, Bool.and_eq_true] at ht
     simp only [argLvs] at ha
     split at ha
     ·rename_i l r hl hr
      obtain rfl := Option.some.inj ha
      have ih := argLvs_ok ps vs ys r h2 hr ht.2
      split at hl
      ·rename_i hagg
       split at hl
       ·rename_i xs
        obtain rfl := Option.some.inj hl
        obtain ⟨zs, rfl, hz⟩ := h1
        have : Value.agg zs.toArray = p.mk' zs := by simp [Pm.mk', hagg]
        rw [this]
        exact .cons hz (fun h => by rw [hagg] at h; cases h) ih
       ·cases hl
      ·rename_i hagg
       split at hl
       ·cases hl
       ·rename_i hna
        obtain rfl := Option.some.inj hl
        have : y = p.mk' [y] := by simp [Pm.mk', hagg]
        rw [this]
        have hcf : CRf hd E v y := by
         cases v <;> first | exact h1 | exact absurd rfl (hna _) | (simp [notTup] at ht)
        exact .cons (.cons hcf .nil) (fun _ => rfl) ih
     ·cases ha
theorem argTake_ok : ∀ (ps : List Pm) (ls : List (List Value)) (ys : List Value) (s s1 : DS) (dss : List (List D)) (Z : Nat → Nat → Prop) (F : Nat → List Nat) (lo : List Nat) (I : Nat → Prop), Tk cx s.tb hd E Z F none lo I w → Bw s.bx hd E E0 I w → ArgL hd E ps ls ys → argTake ps ls s = some (dss, s1) →
 ∃ f Z1 F1 I1, Tkn cx s s1 hd E E0 Z Z1 F F1 none lo I I1 w f ∧ (∀ r k, k ∈ F1 r → k ∈ F r) ∧
  ∀ (s2 : DS) (ds2 : List (List D)) (Z2 : Nat → Nat → Prop) (F2 : Nat → List Nat) (I2 : Nat → Prop), Tk cx s2.tb hd E Z2 F2 none [] I2 w → Bw s2.bx hd E E0 I2 w → (∀ m k, Z1 m k → Z2 m k) → argFill s2 ps ls dss = some ds2 → RepA w (Zr Z2 F2 I2) ps ds2 ys f
 | [], ls, ys, s, s1, dss, Z, F, lo, I, h, hb, ha, ht => by
   cases ha
   simp only [argTake, Option.some.injEq, Prod.mk.injEq] at ht
   obtain ⟨rfl, rfl⟩ := ht
   refine ⟨[], Z, F, I, Tkn.none h fun _ => hb, fun _ _ h => h, fun s2 ds2 Z2 F2 I2 _ _ _ hf => ?_⟩
   obtain rfl := Option.some.inj hf
   exact .nil
 | p :: ps, ls, ys, s, s1, dss, Z, F, lo, I, h, hb, ha, ht => by
   cases ha with
   | @cons _ _ l ls y ys h1 h2 h3 =>
     simp only [argTake] at ht
     split at ht
     ·rename_i d sa hd1
      split at ht
      ·rename_i ds sb hd2
       simp only [Option.some.injEq, Prod.mk.injEq] at ht
       obtain ⟨rfl, rfl⟩ := ht
       have fill : ∀ (s2 : DS) (ds2 : List (List D)), argFill s2 (p :: ps) (l :: ls) (d :: ds) = some ds2 → ∃ d' ds', ds2 = d' :: ds' ∧ (if p.nilV l then some d else if Shp.strs p.sub then some d else toDs s2 p.sub l) = some d' ∧ argFill s2 ps ls ds = some ds' := by
        intro s2 ds2 hf
        simp only [argFill] at hf
        split at hf
        ·rename_i d' ds' e1 e2
         obtain rfl := Option.some.inj hf
         exact ⟨_, _, rfl, e1, e2⟩
        ·cases hf
       cases hnv : p.nilV l with
       | true =>
         obtain ⟨hn1, rfl⟩ := Pm.nilV_eq hnv
         rw [hnv, if_pos rfl] at hd1
         simp only [Option.some.injEq, Prod.mk.injEq] at hd1
         obtain ⟨rfl, rfl⟩ := hd1
         obtain ⟨f2, Z2, F2, I2, T2, S2, R2⟩ := argTake_ok ps ls ys s sb ds Z F lo I h hb h3 hd2
         refine ⟨f2, Z2, F2, I2, T2, S2, fun s2 ds2 Z3 F3 I3 g1 g2 g3 hf => ?_⟩
         obtain ⟨d', ds', rfl, e1, e2⟩ := fill s2 ds2 hf
         rw [hnv, if_pos rfl] at e1
         obtain rfl := Option.some.inj e1
         have hy : p.mk' y = .pointer none := by
          cases h1 with
          | @cons a b _ m c1 c2 =>
            cases c2
            simp only [Pm.mk', (Pm.nilp_sub hn1).1]
            exact c1.2.2
         rw [hy]
         exact .nilp hn1 (R2 s2 ds' Z3 F3 I3 g1 g2 g3 e2)
       | false =>
       rw [hnv] at hd1 fill
       simp only [Bool.false_eq_true, if_false] at hd1 fill
       by_cases hs : Shp.strs p.sub = true
       ·rw [if_pos hs] at hd1
        obtain ⟨f1, Z1, F1, I1, T1, S1, R1⟩ := takes_ok none p.sub l y s sa d Z F lo I h (fun _ => hb) h1 hd1
        obtain ⟨f2, Z2, F2, I2, T2, S2, R2⟩ := argTake_ok ps ls ys sa sb ds Z1 F1 (f1 ++ lo) I1 T1.tk (T1.bw rfl) h3 hd2
        refine ⟨f1 ++ f2, Z2, F2, I2, ⟨T2.tk.perm (fun k => by simp only [List.mem_append]; exact ⟨fun h => h.elim (fun h => .inl (.inr h)) (fun h => h.elim (fun h => .inl (.inl h)) .inr), fun h => h.elim (fun h => h.elim (fun h => .inr (.inl h)) .inl) (fun h => .inr (.inr h))⟩) ?_, T2.bw, fun m k hk => T2.z m k (T1.z m k hk), fun k hk => T1.i k (T2.i k hk), T1.keeps.trans T2.keeps, T2.tl.trans T1.tl, T2.bl.trans T1.bl, fun k x hk => ?_, fun k hk => ?_, fun m k hk => ?_, fun h => (by cases h), fun _ h => (by cases h)⟩, fun r k hk => S1 r k (S2 r k hk), fun s2 ds2 Z3 F3 I3 g1 g2 g3 hf => ?_⟩
        ·have := T2.tk.sp.ln
         refine (List.Perm.nodup_iff ?_).1 this
         rw [← List.append_assoc]
         exact List.Perm.append_right lo List.perm_append_comm
        ·obtain ⟨x1, a1, a2, a3⟩ := T2.bx k x hk
         obtain ⟨x2, b1, b2, b3⟩ := T1.bx k x1 a1
         refine ⟨x2, b1, a2.trans b2, ?_⟩
         rcases a3 with a3 | a3
         ·rcases b3 with b3 | b3
          ·exact .inl (a3.trans b3)
          ·exact .inr (a3.trans b3)
         ·exact .inr a3
        ·rcases List.mem_append.1 hk with hk | hk
         ·exact T1.own k hk
         ·rcases T2.own k hk with ⟨r, hr⟩ | hi
          ·exact .inl ⟨r, S1 r k hr⟩
          ·exact .inr hi
        ·rcases T2.zn m k hk with hk | ⟨r, hr⟩
         ·exact T1.zn m k hk
         ·exact .inr ⟨r, S1 r k hr⟩
        ·obtain ⟨d', ds', rfl, e1, e2⟩ := fill s2 ds2 hf
         rw [if_pos hs] at e1
         obtain rfl := Option.some.inj e1
         exact .cons (Reps.kept (fun _ _ _ _ => rfl) (fun m k hk => .inl (g3 m k (T2.z m k hk))) R1 fun _ _ => rfl) h2 (R2 s2 ds' Z3 F3 I3 g1 g2 g3 e2)
       ·rw [if_neg hs] at hd1
        simp only [Option.some.injEq, Prod.mk.injEq] at hd1
        obtain ⟨rfl, rfl⟩ := hd1
        obtain ⟨f2, Z2, F2, I2, T2, S2, R2⟩ := argTake_ok ps ls ys s sb ds Z F lo I h hb h3 hd2
        refine ⟨f2, Z2, F2, I2, T2, S2, fun s2 ds2 Z3 F3 I3 g1 g2 g3 hf => ?_⟩
        obtain ⟨d', ds', rfl, e1, e2⟩ := fill s2 ds2 hf
        rw [if_neg hs] at e1
        exact .cons (f := []) (toDs_ok p.sub l y s2 d' g1 g2 h1 e1) h2 (R2 s2 ds' Z3 F3 I3 g1 g2 g3 e2)
      ·cases ht
     ·cases ht
theorem pad_ok {Z : Nat → Nat → Prop} {I : Nat → Prop} : ∀ (n : Nat) (s : DS) (hd : List Value) (F : Nat → List Nat) (lo : List Nat), Tk cx s.tb hd E Z F none lo I w → ∃ hd' F', Tk cx (s.pad n).tb hd' E Z F' none lo I w ∧ Ext hd hd' ∧ Keeps s (s.pad n) ∧ (s.pad n).bx = s.bx
 | 0, s, hd, F, lo, h => ⟨hd, F, h, Ext.refl _, Keeps.refl _, rfl⟩
 | n + 1, s, hd, F, lo, h => by
   have h1 := Tk.add (f := []) (v := undef) (t := .dead) (c := s.ctr) h (upd_same _ _ _)
   obtain ⟨hd', F', k1, k2, k3, k4⟩ := pad_ok n (s.addT .dead) _ _ lo h1
   exact ⟨hd', F', k1, (Ext.app _ _).trans k2, (Keeps.addT _ _).trans k3, k4⟩
theorem matR_ok {Z : Nat → Nat → Prop} {I : Nat → Prop} : ∀ (ps : List Pm) (ds : List (List D)) (s s' : DS) (hd : List Value) (F : Nat → List Nat) (lo : List Nat) (ys vs : List Value) (f : List Nat), Tk cx s.tb hd E Z F none (f ++ lo) I w → RepA w Z ps ds ys f → matR ps ds s = some (vs, s') →
 MatOk cx hd E Z lo I w s s' fun hd' => All2 (CRa hd' E) vs ys
 | [], ds, s, s', hd, F, lo, ys, vs, f, h, hR, hm => by
   cases hR
   simp only [matR, Option.some.injEq, Prod.mk.injEq] at hm
   obtain ⟨rfl, rfl⟩ := hm
   exact ⟨hd, F, h, Ext.refl _, Keeps.refl _, rfl, .nil⟩
 | p :: ps, ds, s, s', hd, F, lo, ys, vs, f, h, hR, hm => by
   cases hR with
   | @cons _ _ d0 ds y0 ys f0 fs h1 h2 h3 =>
     simp only [matR, Pm.nilD_not h1, Bool.false_eq_true, if_false] at hm
     cases hm1 : mats p.sub d0 s with
     | none => rw [hm1] at hm; cases hm
     | some x =>
       obtain ⟨a, s1⟩ := x
       rw [hm1] at hm
       simp only at hm
       cases hm2 : matR ps ds s1 with
       | none => rw [hm2] at hm; cases hm
       | some x2 =>
         obtain ⟨as, s2⟩ := x2
         rw [hm2] at hm
         simp only [Option.some.injEq, Prod.mk.injEq] at hm
         obtain ⟨rfl, rfl⟩ := hm
         rw [List.append_assoc] at h
         obtain ⟨hd1, F1, k1, k2, k3, k4, k5⟩ := mats_ok p.sub d0 s hd F (fs ++ lo) y0 a f0 s1 h h1 hm1
         obtain ⟨hd2, F2, j1, j2, j3, j4, j5⟩ := matR_ok ps ds s1 s2 hd1 F1 lo ys as fs k1 h3 hm2
         refine ⟨hd2, F2, j1, k2.trans j2, k3.trans j3, j4.trans k4, .cons ?_ j5⟩
         have k5' := k5.mono fun _ _ h => h.mono j2 (fun _ _ h => h)
         unfold Pm.mk'
         split
         ·exact ⟨y0, rfl, by simpa using k5'⟩
         ·rename_i hagg
          have hl := h2 (by simpa using hagg)
          have hla := k5'.len
          cases k5' with
          | nil => simp at hl
          | @cons u v _ _ c1 c2 =>
            show CRa hd2 E u v
            cases u <;> first | exact c1 | exact absurd rfl (c1.2.1 _)
   | @nilp _ _ ds vs0 fs h1 h3 =>
     simp only [matR, Pm.nilD_is h1, if_true] at hm
     obtain ⟨hdp, Fp, p1, p2, p3, p4⟩ := pad_ok (cntSs p.sub) s hd F _ h
     cases hm2 : matR ps ds (s.pad (cntSs p.sub)) with
     | none => rw [hm2] at hm; cases hm
     | some x2 =>
       obtain ⟨as, s2⟩ := x2
       rw [hm2] at hm
       simp only [Option.some.injEq, Prod.mk.injEq] at hm
       obtain ⟨rfl, rfl⟩ := hm
       obtain ⟨hd2, F2, j1, j2, j3, j4, j5⟩ := matR_ok ps ds _ s2 hdp Fp lo vs0 as f p1 h3 hm2
       refine ⟨hd2, F2, j1, p2.trans j2, p3.trans j3, j4.trans p4, .cons ?_ j5⟩
       simp only [Pm.mk', (Pm.nilp_sub h1).1]
       exact ⟨rfl, by simp, rfl⟩
end
end Go.Dw
end
section
namespace Go.Dw
open Go Go.Cw
set_option linter.unusedVariables false
section
variable {cx : Cx} {hd hd0 : List Value} {E E0 : Nat → Nat → Prop} {w : World} {Z : Nat → Nat → Prop} {F : Nat → List Nat} {lo : List Nat} {I : Nat → Prop}
theorem Sp.unbox {n : Nat} {Mi : Nat → Prop} {b : Nat} (h : Sp F (b :: lo) I Z n Mi) : Sp F lo (fun k => I k ∨ k = b) Z n Mi := by
 have hn := h.ln
 rw [List.nodup_cons] at hn
 refine ⟨h.fd, h.fj, hn.2, fun r k hk => h.lf r k (List.mem_cons_of_mem _ hk), ?_, ?_, h.z2, h.fm, fun k hk => h.lm k (List.mem_cons_of_mem _ hk), ?_⟩
 ·rintro k (hk | rfl)
  ·exact ⟨fun hm => (h.il k hk).1 (List.mem_cons_of_mem _ hm), (h.il k hk).2⟩
  ·exact ⟨hn.1, fun r => h.lf r _ (List.mem_cons_self ..)⟩
 ·intro m k hk
  obtain ⟨a, b', c, d⟩ := h.z m k hk
  refine ⟨a, fun hi => ?_, fun hm => c (List.mem_cons_of_mem _ hm), d⟩
  rcases hi with hi | rfl
  ·exact b' hi
  ·exact c (List.mem_cons_self ..)
 ·rintro k (hk | rfl)
  ·exact h.im k hk
  ·exact (h.lm _ (List.mem_cons_self ..)).2
theorem Tk.revive {s : DS} {r : Nat} {f : List Nat} {t : Te} {v : Value} (h : Tk cx s.tb hd E Z F none (f ++ lo) I w) (hr : s.tbAt r = .dead) (hv : hd[r]? = some v) (ht : TeOk w Z hd E (upd F r f) none lo r v t) : Tk cx (s.setT r t).tb hd E Z (upd F r f) none lo I w := by
 have hlt : r < s.tb.length := by rw [← h.hl]; exact get_lt hv
 obtain ⟨x, hx⟩ : ∃ x, s.tb[r]? = some x := ⟨s.tb[r], List.getElem?_eq_getElem hlt⟩
 have hxd : x.1 = .dead := by
  unfold DS.tbAt at hr
  rw [hx] at hr
  exact hr
 have hF : F r = [] := by
  obtain ⟨v', _, h2⟩ := h.te r x.1 x.2 hx
  rw [hxd] at h2
  exact h2
 have hnd := h.sp.ln
 rw [List.nodup_append] at hnd
 have hsp : Sp (upd F r f) lo I Z w.heap.size (fun k => 0 < k ∧ (cx.w0.heap.size ≤ k ∨ cx.M k)) :=
  h.sp.gen (Nat.le_refl _) hnd.1 hnd.2.1 (fun k hk hk' => hnd.2.2 k hk k hk' rfl) (fun k hk => .inr (.inl (by simpa using hk))) (fun m k hk => .inl hk) h.sp.z2 (.inl rfl)
 refine ⟨by simp [DS.setT, h.hl], fun q t' c' hq => ?_, fun q hq => ?_, hsp, h.n0, h.np⟩
 ·simp only [DS.setT] at hq
  rcases set_get hq with ⟨rfl, hq, _⟩ | ⟨hne, hq3⟩
  ·obtain ⟨rfl, rfl⟩ := Prod.mk.inj hq
   exact ⟨v, hv, ht⟩
  ·obtain ⟨v', h1, h2⟩ := h.te q t' c' hq3
   refine ⟨v', h1, h2.mono (fun _ _ _ => rfl) (fun _ _ h => h) (Ext.refl _) (fun _ _ h => h) (upd_ne _ _ hne) (fun r0 rt e sub es he m k hk => ?_) fun k hk => (h.sp.fm q k hk).1⟩
   by_cases h0 : r0 = r
   ·subst h0
    rcases hk with hk | ⟨_, hk⟩ | hk | ⟨hl, hk⟩
    ·exact .inl hk
    ·rw [hF] at hk; cases hk
    ·rw [hF] at hk; cases hk
    ·cases hl
   ·rcases hk with hk | ⟨hp, hk⟩ | hk | ⟨hl, _⟩
    ·exact .inl hk
    ·exact .inr (.inl ⟨hp, by rw [upd_ne _ _ h0]; exact hk⟩)
    ·exact .inr (.inr (.inl (by rw [upd_ne _ _ h0]; exact hk)))
    ·cases hl
 ·simp only [DS.setT, List.length_set] at hq
  rw [upd_ne _ _ (by omega)]
  exact h.f0 q hq
structure Bg (s : DS) (hd : List Value) (st : St) (cc : List (List Value)) (I : Nat → Prop) (w : World) : Prop where
 len : cc.length = st.bx.length
 bl : s.bx.length = st.bx.length
 ty : ∀ (k : Nat) (x : DB) (b : Bx), s.bx[k]? = some x → st.bx[k]? = some b → b.ty = x.ty
 ats : ∀ (k : Nat) (x : DB), s.bx[k]? = some x → x.cs ≠ [] → ∃ b c, st.bx[k]? = some b ∧ cc[k]? = some c ∧ All2 (CRf hd (BxE st)) (x.cs.map (·.1)) c ∧ I b.id ∧ (b.esc = true → Box w b.id c b.ty) ∧ (b.esc = false → c = b.cs.map (·.1))
theorem Bg.ext {s : DS} {st : St} {cc : List (List Value)} (h : Bg s hd st cc I w) {hd' : List Value} {I' : Nat → Prop} {s' : DS} (hh : Ext hd hd') (hi : ∀ k, I k → I' k) (hb : s'.bx = s.bx) : Bg s' hd' st cc I' w := by
 refine ⟨h.len, by rw [hb]; exact h.bl, by rw [hb]; exact h.ty, fun k x hx hn => ?_⟩
 rw [hb] at hx
 obtain ⟨b, c, h1, h2, h3, h4, h5, h6⟩ := h.ats k x hx hn
 exact ⟨b, c, h1, h2, h3.mono fun _ _ h => h.mono hh (fun _ _ h => h), hi _ h4, h5, h6⟩
theorem DAgr.setBx {s : DS} {k : Nat} {b : DB} (hb : s.bx[k]? = some b) (cs : List Value) : DAgr s (s.setBx k cs) :=
 ⟨Nat.le_succ _, rfl, fun _ _ h _ => h, fun q x h => by
  simp only [DS.setBx, List.getElem?_modify, h]
  by_cases hq : k = q
  ·subst hq
   refine ⟨{ x with cs := cs.map fun v => (v, s.ctr) }, by simp, rfl, fun j c hc hv => ?_⟩
   simp only [List.getElem?_map] at hc
   cases hj : cs[j]? with
   | none => rw [hj] at hc; cases hc
   | some u => rw [hj] at hc; obtain rfl := Option.some.inj hc; exact absurd hv (Nat.lt_irrefl _)
  ·exact ⟨x, by simp [hq], rfl, fun _ _ h _ => h⟩, Nat.le_refl _, fun _ _ h _ _ => h⟩
theorem crl_cr {hd : List Value} {E : Nat → Nat → Prop} {x y : Value} (h : CRl hd E x y) : CR hd E x y := by
 cases x <;> first | exact h | (have := h.1; simp [constV] at this; done) | exact absurd rfl (h.2.1 _)
mutual
theorem giveV_ok {st : St} (hnd : st.ids.Nodup) : ∀ (sh : Shp) (d : D) (v y : Value) (s s' : DS) (hd : List Value) (F : Nat → List Nat) (lo f : List Nat) (I : Nat → Prop) (cc : List (List Value)), CR hd (BxE st) v y → Tk cx s.tb hd (BxE st) Z F none (f ++ lo) I w → Bg s hd st cc I w →
 Rep w Z sh d y f → giveV sh d v s = some s' →
 ∃ hd' F' I' cc', Tk cx s'.tb hd' (BxE st) Z F' none lo I' w ∧ Bg s' hd' st cc' I' w ∧ Ext hd hd' ∧ DAgr s s' ∧ s'.env = s.env ∧ s'.pins = s.pins ∧ (∀ k, I k → I' k) ∧ (∀ k, I' k → I k ∨ k ∈ st.ids)
 | .v k, d, v, y, s, s', hd, F, lo, f, I, cc, hy, h, hb, hR, hg => by
   simp only [giveV, Option.some.injEq] at hg
   subst hg
   obtain rfl : f = [] := hR.bor rfl
   exact ⟨hd, F, I, cc, h, hb, Ext.refl _, DAgr.refl _, rfl, rfl, fun _ h => h, fun _ h => .inl h⟩
 | .l md e sub, d, v, y, s, s', hd, F, lo, f, I, cc, hy, h, hb, hR, hg => by
   simp only [giveV] at hg
   split at hg
   ·rename_i hmd
    obtain rfl : md = 0 := by simpa using hmd
    split at hg
    ·rename_i es p n0 c0
     split at hg
     ·rename_i hev
      split at hg
      ·rename_i hdead
       simp only [Option.some.injEq] at hg
       subst hg
       obtain ⟨_, _, hh⟩ := (show CRl hd (BxE st) (.slice (some p) n0 c0) y from hy)
       have hrv := h.revive (t := .row 0 e sub es) hdead hh (by
        show Rep w Z _ _ _ (upd F _ f _)
        rw [upd_same]
        exact hR)
       exact ⟨hd, _, I, cc, hrv, hb.ext (Ext.refl _) (fun _ h => h) rfl, Ext.refl _, (Keeps.setT _ _ _).agr, rfl, rfl, fun _ h => h, fun _ h => .inl h⟩
      ·cases hg
     ·cases hg
    ·cases hg
   ·rename_i hmd
    split at hg
    ·rename_i hbo
     simp only [Option.some.injEq] at hg
     subst hg
     obtain rfl : f = [] := hR.bor (by
      simp only [Shp.bor, hbo, Bool.and_true, bne_iff_ne, ne_eq]
      simpa using hmd)
     exact ⟨hd, F, I, cc, h, hb, Ext.refl _, DAgr.refl _, rfl, rfl, fun _ h => h, fun _ h => .inl h⟩
    ·cases hg
 | .p md t sub, d, v, y', s, s', hd, F, lo, f0, I, cc, hy, h, hb, hR1, hg => by
   simp only [giveV] at hg
   split at hg
   ·rename_i hmd
    obtain rfl : md = 0 := by simpa using hmd
    split at hg
    ·rename_i cs p
     have hy2 := hy
     obtain ⟨b, cs', fs', hye, rfl, hB, hRs⟩ : ∃ b cs' fs', y' = .pointer (some ⟨b, 0, none⟩) ∧ f0 = b :: fs' ∧ Box w b cs' t ∧ Reps w Z sub cs cs' fs' := by
      cases hR1 with
      | ptr h0 => exact absurd rfl h0
      | box g1 g2 => exact ⟨_, _, _, rfl, rfl, g1, g2⟩
     cases hm : mats sub cs s with
     | none => rw [hm] at hg; cases hg
     | some x =>
       obtain ⟨av, s1⟩ := x
       rw [hm] at hg
       simp only at hg
       have hnd' := h.sp.ln
       have hp1 : Tk cx s.tb hd (BxE st) Z F none (fs' ++ ([b] ++ lo)) I w := h.perm (fun k => by
        simp only [List.mem_append, List.mem_cons, List.not_mem_nil, or_false]
        exact ⟨fun hk => hk.elim (fun hk => hk.elim (fun h => .inr (.inl h)) .inl) (fun h => .inr (.inr h)), fun hk => hk.elim (fun h => .inl (.inr h)) (fun hk => hk.elim (fun h => .inl (.inl h)) .inr)⟩) (by
        refine (List.Perm.nodup_iff ?_).1 hnd'
        have : List.Perm ([b] ++ fs' ++ lo) (fs' ++ [b] ++ lo) := List.Perm.append_right _ List.perm_append_comm
        rw [List.append_assoc fs' [b]] at this
        exact this)
       obtain ⟨hd1, F1, k1, k2, k3, k4, k5⟩ := mats_ok sub cs s hd F ([b] ++ lo) cs' av fs' s1 hp1 hRs hm
       have hb1 : Bg s1 hd1 st cc I w := hb.ext k2 (fun _ h => h) k4
       split at hg
       ·rename_i hoff
        split at hg
        ·rename_i hev
         split at hg
         ·rename_i hdead
          simp only [Option.some.injEq] at hg
          subst hg
          have hyr : hd1[p.block / 2]? = some y' := by
           rcases (show CRl hd (BxE st) (.pointer (some p)) y' from hy2) with ⟨_, _, _, hh⟩ | ⟨hh, _⟩
           ·exact k2 _ _ hh
           ·rw [hh] at hev; cases hev
          have hrv := k1.revive (t := .pbx 0 t av) hdead hyr ⟨cs', k5, .inl ⟨rfl, b, hye, upd_same _ _ _, hB⟩⟩
          exact ⟨hd1, _, I, cc, hrv, hb1.ext (Ext.refl _) (fun _ h => h) rfl, k2, (k3.trans (Keeps.setT _ _ _)).agr, k3.env, k3.pins, fun _ h => h, fun _ h => .inl h⟩
         ·cases hg
        ·rename_i hev
         split at hg
         ·rename_i xb hxb
          split at hg
          ·rename_i hc
           simp only [Option.some.injEq] at hg
           subst hg
           simp only [Bool.and_eq_true, Bool.not_eq_true', List.isEmpty_iff, List.isEmpty_eq_false_iff, beq_iff_eq] at hc
           obtain ⟨⟨hce, rfl⟩, hav⟩ := hc
           rcases (show CRl hd (BxE st) (.pointer (some p)) y' from hy2) with ⟨hh, _⟩ | ⟨_, g, ⟨bx0, hE1, hE2, hE3⟩, hye'⟩
           ·exact absurd hh hev
           ·have hgb : g = b := by
             rw [hye] at hye'
             have := hye'.symm
             simp at this
             exact this.1
            subst hgb
            have hty := hb1.ty _ _ _ hxb hE1
            have hub : Tk cx s1.tb hd1 (BxE st) Z F1 none lo (fun k => I k ∨ k = g) w := by
             refine ⟨k1.hl, fun r t' c' hr => ?_, k1.f0, k1.sp.unbox, k1.n0, k1.np⟩
             obtain ⟨v', e1, e2⟩ := k1.te r t' c' hr
             refine ⟨v', e1, e2.mono (fun _ _ _ => rfl) (fun _ _ h => h) (Ext.refl _) (fun _ _ h => h) rfl (fun r0 rt e sub es _ m k hk => ?_) fun k hk => (k1.sp.fm r k hk).1⟩
             rcases hk with hk | hk | hk | ⟨hk, _⟩
             ·exact .inl hk
             ·exact .inr (.inl hk)
             ·exact .inr (.inr (.inl hk))
             ·cases hk
            have hklt : p.block / 2 < cc.length := by rw [hb1.len]; exact get_lt hE1
            have hbg : Bg (s1.setBx (p.block / 2) av) hd1 st (cc.set (p.block / 2) cs') (fun k => I k ∨ k = g) w := by
             refine ⟨by simpa using hb1.len, by simpa [DS.setBx] using hb1.bl, fun k x b' hk hb' => ?_, fun k x hk hn => ?_⟩
             ·simp only [DS.setBx, List.getElem?_modify] at hk
              cases hk2 : s1.bx[k]? with
              | none => rw [hk2] at hk; cases hk
              | some z =>
                rw [hk2] at hk
                have hk := Option.some.inj hk
                have := hb1.ty k z b' hk2 hb'
                rw [this]
                dsimp only at hk
                split at hk <;> rw [← hk]
             ·simp only [DS.setBx, List.getElem?_modify] at hk
              cases hk2 : s1.bx[k]? with
              | none => rw [hk2] at hk; cases hk
              | some z =>
                rw [hk2] at hk
                have hk := Option.some.inj hk
                dsimp only at hk
                by_cases hpk : p.block / 2 = k
                ·subst hpk
                 rw [if_pos rfl] at hk
                 refine ⟨bx0, cs', hE1, by rw [List.getElem?_set_self hklt], ?_, .inr hE2, fun _ => ?_, fun he => by rw [hE3] at he; cases he⟩
                 ·rw [← hk]
                  simpa [Function.comp_def] using k5
                 ·rw [hE2, hty]; exact hB
                ·rw [if_neg hpk] at hk
                 obtain rfl : z = x := hk
                 obtain ⟨b', c, e1, e2, e3, e4, e5, e6⟩ := hb1.ats k z hk2 hn
                 exact ⟨b', c, e1, by rw [List.getElem?_set_ne hpk]; exact e2, e3, .inl e4, e5, e6⟩
            refine ⟨hd1, F1, _, _, hub, hbg, k2, k3.agr.trans (DAgr.setBx hxb av), k3.env, k3.pins, fun k hk => .inl hk, fun k hk => ?_⟩
            rcases hk with hk | rfl
            ·exact .inl hk
            ·exact .inr (by unfold St.ids; exact List.mem_map.2 ⟨bx0, List.mem_of_getElem? hE1, hE2⟩)
          ·cases hg
         ·cases hg
       ·cases hg
    ·cases hg
   ·rename_i hmd
    split at hg
    ·rename_i hbo
     simp only [Option.some.injEq] at hg
     subst hg
     obtain rfl : f0 = [] := hR1.bor (by
      simp only [Shp.bor, hbo, Bool.and_true, bne_iff_ne, ne_eq]
      simpa using hmd)
     exact ⟨hd, F, I, cc, h, hb, Ext.refl _, DAgr.refl _, rfl, rfl, fun _ h => h, fun _ h => .inl h⟩
    ·cases hg
 | .f g sub, d, v, y, s, s', hd, F, lo, f, I, cc, hy, h, hb, hR, hg => by
   simp only [giveV] at hg
   split at hg
   ·rename_i ds fn fst cap
    obtain ⟨g', cs, rfl, _, rfl, hcs⟩ := (show CRf hd (BxE st) (.func fn fst cap) y from hy)
    generalize hyy : fnV g' cs = yy at hR
    cases hR with
    | @fn _ _ _ cs' _ hRs =>
      simp only [fnV, Value.func.injEq, Fn.func.injEq] at hyy
      have hcc : cs = cs' := fnV_inj hyy.2.1 hyy.2.2
      subst hcc
      exact giveVs_ok hnd sub ds cap.toList cs s s' hd F lo f I cc (hcs.mono fun _ _ h => crl_cr h) h hb hRs hg
   ·cases hg
theorem giveVs_ok {st : St} (hnd : st.ids.Nodup) : ∀ (sh : List Shp) (d : List D) (v y : List Value) (s s' : DS) (hd : List Value) (F : Nat → List Nat) (lo f : List Nat) (I : Nat → Prop) (cc : List (List Value)), All2 (CR hd (BxE st)) v y → Tk cx s.tb hd (BxE st) Z F none (f ++ lo) I w → Bg s hd st cc I w →
 Reps w Z sh d y f → giveVs sh d v s = some s' →
 ∃ hd' F' I' cc', Tk cx s'.tb hd' (BxE st) Z F' none lo I' w ∧ Bg s' hd' st cc' I' w ∧ Ext hd hd' ∧ DAgr s s' ∧ s'.env = s.env ∧ s'.pins = s.pins ∧ (∀ k, I k → I' k) ∧ (∀ k, I' k → I k ∨ k ∈ st.ids)
 | [], d, v, y, s, s', hd, F, lo, f, I, cc, hy, h, hb, hR, hg => by
   simp only [giveVs, Option.some.injEq] at hg
   subst hg
   cases hR
   exact ⟨hd, F, I, cc, h, hb, Ext.refl _, DAgr.refl _, rfl, rfl, fun _ h => h, fun _ h => .inl h⟩
 | t :: ts, d, v, y, s, s', hd, F, lo, f, I, cc, hy, h, hb, hR, hg => by
   obtain ⟨d0, dl, y0, yl, f0, fs, rfl, rfl, rfl, h1, h2⟩ : ∃ d0 dl y0 yl f0 fs, d = d0 :: dl ∧ y = y0 :: yl ∧ f = f0 ++ fs ∧ Rep w Z t d0 y0 f0 ∧ Reps w Z ts dl yl fs := by
    cases hR with
    | cons h1 h2 => exact ⟨_, _, _, _, _, _, rfl, rfl, rfl, h1, h2⟩
   cases hy with
   | @cons v0 _ vl _ c1 c2 =>
     simp only [giveVs] at hg
     split at hg
     ·rename_i s1 hs1
      rw [List.append_assoc] at h
      obtain ⟨hd1, F1, I1, cc1, j1, j2, j3, j4, j5, j6, j7, j8⟩ := giveV_ok hnd t d0 v0 y0 s s1 hd F (fs ++ lo) f0 I cc c1 h hb h1 hs1
      obtain ⟨hd2, F2, I2, cc2, q1, q2, q3, q4, q5, q6, q7, q8⟩ := giveVs_ok hnd ts dl vl yl s1 s' hd1 F1 lo fs I1 cc1 (c2.mono fun _ _ h => h.mono j3 fun _ _ h => h) j1 j2 h2 hg
      refine ⟨hd2, F2, I2, cc2, q1, q2, j3.trans q3, j4.trans q4, q5.trans j5, q6.trans j6, fun k hk => q7 k (j7 k hk), fun k hk => ?_⟩
      rcases q8 k hk with hk | hk
      ·exact j8 k hk
      ·exact .inr hk
     ·cases hg
end
theorem giveB_ok {st : St} (hnd : st.ids.Nodup) {vals vs : List Value} (hv : All2 (CR hd0 (BxE st)) vals vs) : ∀ (af : List (Nat × Shp)) (ds : List (List D)) (s s' : DS) (hd : List Value) (F : Nat → List Nat) (lo f : List Nat) (I : Nat → Prop) (cc : List (List Value)), Ext hd0 hd → Tk cx s.tb hd (BxE st) Z F none (f ++ lo) I w → Bg s hd st cc I w →
 RepA w Z (af.map fun x => ⟨false, [x.2], false⟩) ds (af.map fun x => vs.getD x.1 undef) f → giveB vals af ds s = some s' →
 ∃ hd' F' I' cc', Tk cx s'.tb hd' (BxE st) Z F' none lo I' w ∧ Bg s' hd' st cc' I' w ∧ Ext hd hd' ∧ DAgr s s' ∧ s'.env = s.env ∧ s'.pins = s.pins ∧ (∀ k, I k → I' k) ∧ (∀ k, I' k → I k ∨ k ∈ st.ids)
 | [], ds, s, s', hd, F, lo, f, I, cc, hx, h, hb, hR, hg => by
   cases hR
   simp only [giveB, Option.some.injEq] at hg
   subst hg
   exact ⟨hd, F, I, cc, h, hb, Ext.refl _, DAgr.refl _, rfl, rfl, fun _ h => h, fun _ h => .inl h⟩
 | (i, sh) :: af, ds, s, s', hd, F, lo, f, I, cc, hx, h, hb, hR, hg => by
   generalize hys : ((i, sh) :: af).map (fun x => vs.getD x.1 undef) = ysv at hR
   cases hR with
   | nilp h1 _ => simp [Pm.nilp] at h1
   | @cons _ _ d0 ds ys0 vs0 f0 fs h1 h2 h3 =>
     simp only [List.map_cons, List.cons.injEq] at hys
     obtain ⟨hy0, rfl⟩ := hys
     -- one cell
     obtain ⟨y, rfl⟩ : ∃ y, ys0 = [y] := by
      have := h2 rfl
      cases ys0 with
      | nil => simp at this
      | cons a l => obtain rfl : l = [] := (by simpa using this); exact ⟨a, rfl⟩
     have hyv : vs.getD i undef = y := hy0.trans (by simp [Pm.mk'])
     have hdl := h1.len.1
     obtain ⟨d, rfl⟩ : ∃ d, d0 = [d] := by
      cases d0 with
      | nil => simp at hdl
      | cons a l => obtain rfl : l = [] := (by simpa using hdl); exact ⟨a, rfl⟩
     have hR1 := h1.of_one
     rw [List.append_assoc] at h
     simp only [giveB] at hg
     split at hg
     ·rename_i v hvi
      obtain ⟨y', hy1, hy2⟩ := hv.get hvi
      have hyy : y' = y := by
       rw [List.getD_eq_getElem?_getD, hy1] at hyv
       exact hyv
      subst hyy
      split at hg
      ·rename_i s1 hs1
       obtain ⟨hd1, F1, I1, cc1, j1, j2, j3, j4, j5, j6, j7, j8⟩ := giveV_ok hnd sh d v y' s s1 hd F (fs ++ lo) f0 I cc (hy2.mono hx fun _ _ h => h) h hb hR1 hs1
       obtain ⟨hd2, F2, I2, cc2, q1, q2, q3, q4, q5, q6, q7, q8⟩ := giveB_ok hnd hv af ds s1 s' hd1 F1 lo fs I1 cc1 (hx.trans j3) j1 j2 h3 hg
       refine ⟨hd2, F2, I2, cc2, q1, q2, j3.trans q3, j4.trans q4, q5.trans j5, q6.trans j6, fun k hk => q7 k (j7 k hk), fun k hk => ?_⟩
       rcases q8 k hk with hk | hk
       ·exact j8 k hk
       ·exact .inr hk
      ·cases hg
     ·cases hg
end
/-! ### The first engine's boxes behind a call -/
def escVals : List Bx → List (List Value) → List Value
 | b :: r, c :: cc => if b.esc then c ++ escVals r cc else escVals r cc
 | _, _ => []
theorem escBx_at (vr : Nat) : ∀ {bx : List Bx} {cc : List (List Value)}, cc.length = bx.length → (∀ (k : Nat) (b : Bx) (c : List Value), bx[k]? = some b → cc[k]? = some c → b.esc = true → c.length = b.cs.length) → ∀ (k : Nat) (b : Bx) (c : List Value), bx[k]? = some b → cc[k]? = some c →
 (escBx vr bx (escVals bx cc))[k]? = some (if b.esc then { b with cs := c.map fun v => (v, vr) } else b)
 | [], [], _, _, k, b, c, h, _ => by cases h
 | b0 :: r, c0 :: cc, hl, hlen, k, b, c, hb, hc => by
   have ih := escBx_at vr (bx := r) (cc := cc) (by simpa using hl) (fun k b c h1 h2 => hlen (k + 1) b c h1 h2)
   simp only [escVals, escBx]
   by_cases he : b0.esc = true
   ·have h0 := hlen 0 b0 c0 rfl rfl he
    simp only [he, if_true]
    rw [← h0, List.take_left, List.drop_left]
    cases k with
    | zero =>
      obtain rfl := Option.some.inj hb
      obtain rfl := Option.some.inj hc
      simp [he]
    | succ k =>
      rw [List.getElem?_cons_succ]
      exact ih k b c hb hc
   ·simp only [he, Bool.false_eq_true, if_false]
    cases k with
    | zero =>
      obtain rfl := Option.some.inj hb
      simp [he]
    | succ k =>
      rw [List.getElem?_cons_succ]
      exact ih k b c hb hc
theorem escBx_len (vr : Nat) : ∀ (bx : List Bx) (vs : List Value), (escBx vr bx vs).length = bx.length
 | [], _ => rfl
 | b :: r, vs => by
   simp only [escBx]
   split <;> simp [escBx_len vr r]
theorem boxAsks_of {w : World} : ∀ {l : List Bx} {p : Prop}, (∀ b ∈ l, b.esc = true → Box w b.id (b.cs.map (·.1)) b.ty) → p → boxAsks w l p
 | [], p, _, hp => hp
 | b :: r, p, h, hp => by
   simp only [boxAsks]
   have ih := boxAsks_of (l := r) (fun b hb => h b (List.mem_cons_of_mem _ hb)) hp
   split
   ·rename_i he
    exact ⟨h b (List.mem_cons_self ..) he, ih⟩
   ·exact ih
theorem boxHyps_of {w : World} : ∀ {l : List Bx} {p : Prop}, ((∀ b ∈ l, b.esc = true → Box w b.id (b.cs.map (·.1)) b.ty) → p) → boxHyps w l p
 | [], p, h => h (fun b hb => by cases hb)
 | b :: r, p, h => by
   simp only [boxHyps]
   split
   ·intro hb
    exact boxHyps_of fun hr => h fun b' hb' he => by
     rcases List.mem_cons.1 hb' with rfl | hb'
     ·exact hb
     ·exact hr b' hb' he
   ·rename_i he
    exact boxHyps_of fun hr => h fun b' hb' he' => by
     rcases List.mem_cons.1 hb' with rfl | hb'
     ·exact absurd he' he
     ·exact hr b' hb' he'
theorem ltHyp_of {st : St} {w : World} {p : Prop} (h : (∀ k ∈ st.ids, k < w.heap.size) → p) : ltHyp st w p := by
 unfold ltHyp
 split
 ·rename_i hb
  exact h (fun k hk => by simp [St.ids, hb] at hk)
 ·exact h
theorem escFit_of {P : Program} : ∀ {l : List Bx}, (∀ b ∈ l, ∃ h, Cw.shOf P b.ty = some h ∧ h.ks.length = b.cs.length) → escFit P l = true
 | [], _ => rfl
 | b :: r, h => by
   simp only [escFit, Bool.and_eq_true]
   refine ⟨?_, escFit_of fun b hb => h b (List.mem_cons_of_mem _ hb)⟩
   obtain ⟨hs, h1, h2⟩ := h b (List.mem_cons_self ..)
   rw [h1]
   simp [h2]
theorem fits_app {a b : List Ck} {x y : List Value} (h : Fits a x) (k : Fits b y) : Fits (a ++ b) (x ++ y) := by
 induction a generalizing x with
 | nil => cases x with
   | nil => exact k
   | cons _ _ => exact h.elim
 | cons c a ih => cases x with
   | nil => exact h.elim
   | cons v x => exact ⟨h.1, ih h.2⟩
theorem escKs_fit {P : Program} : ∀ {bx : List Bx} {cc : List (List Value)}, cc.length = bx.length → (∀ (k : Nat) (b : Bx) (c : List Value), bx[k]? = some b → cc[k]? = some c → b.esc = true → ∃ h, Cw.shOf P b.ty = some h ∧ Fits h.ks c) → Fits (escKs P bx) (escVals bx cc)
 | [], [], _, _ => trivial
 | b0 :: r, c0 :: cc, hl, h => by
   have ih := escKs_fit (P := P) (bx := r) (cc := cc) (by simpa using hl) (fun k b c h1 h2 => h (k + 1) b c h1 h2)
   simp only [escKs, escVals]
   by_cases he : b0.esc = true
   ·obtain ⟨hs, h1, h2⟩ := h 0 b0 c0 rfl rfl he
    simp only [he, if_true, h1]
    exact fits_app h2 ih
   ·simp only [he, Bool.false_eq_true, if_false]
    exact ih
end Go.Dw
end
section
namespace Go.Dw
open Go Go.Cw
set_option linter.unusedVariables false
section
variable {dcx : Dcx} {cx : Cx} {ops : Array Oper} {s s' : DS} {T : List (Nat × Bool)} {o : Oper} {hd : List Value} {Z0 Z : Nat → Nat → Prop} {F : Nat → List Nat} {st : St} {w w' : World}
theorem after_ok {s3 : DS} {hd3 : List Value} {Zn : Nat → Nat → Prop} {F3 : Nat → List Nat} {cc : List (List Value)} {I3 : Nat → Prop} {w2 : World} {dr : Bool} (h : Lk cx Z0 s hd Z F st w) (hx : Ext hd hd3) (e1 : s3.env = s.env) (e2 : s3.pins = s.pins)
 (hb : Bg s3 hd3 st cc I3 w2) (ht : Tk cx s3.tb hd3 (BxE st) Zn F3 none [] I3 w2) (hk : boxKinds cx.P s3 = true) (hdr : dr = true → ∀ (k : Nat) (b : Bx) (c : List Value), st.bx[k]? = some b → cc[k]? = some c → c = b.cs.map (·.1))
 (hf : Fr cx.M cx.w0 w2) (z0 : ∀ m k, Z0 m k → Zn m k) (zg : ∀ m k, Zn m k → Z0 m k ∨ cx.w0.heap.size ≤ k ∨ cx.M k) :
 Lk cx Z0 s3 hd3 Zn F3 (st.after dr (if dr then [] else escVals st.bx cc)) w2 ∧ (∀ (k : Nat) (b : Bx) (c : List Value), st.bx[k]? = some b → cc[k]? = some c → ∃ hs, Cw.shOf cx.P b.ty = some hs ∧ Fits hs.ks c) ∧ (∀ (k : Nat) (b : Bx) (c : List Value), st.bx[k]? = some b → cc[k]? = some c → b.esc = true → Box w2 b.id c b.ty) := by
 have full : ∀ (k : Nat) (b : Bx), st.bx[k]? = some b → ∃ x c hs, s3.bx[k]? = some x ∧ x.cs ≠ [] ∧ b.ty = x.ty ∧ cc[k]? = some c ∧ All2 (CRf hd3 (BxE st)) (x.cs.map (·.1)) c ∧ I3 b.id ∧ (b.esc = true → Box w2 b.id c b.ty) ∧ (b.esc = false → c = b.cs.map (·.1)) ∧ Cw.shOf cx.P b.ty = some hs ∧ Fits hs.ks c := by
  intro k b hkb
  have hlt : k < s3.bx.length := by rw [hb.bl]; exact get_lt hkb
  have hxk := List.getElem?_eq_getElem hlt
  have hxm := List.all_eq_true.1 hk _ (List.getElem_mem hlt)
  split at hxm
  ·rename_i hs hsh
   simp only [Bool.and_eq_true, Bool.not_eq_true', List.isEmpty_eq_false_iff] at hxm
   obtain ⟨b', c, g1, g2, g3, g4, g5, g6⟩ := hb.ats k _ hxk hxm.2
   rw [hkb] at g1
   obtain rfl := Option.some.inj g1
   have hty := hb.ty k _ _ hxk hkb
   exact ⟨_, c, hs, hxk, hxm.2, hty, g2, g3, g4, g5, g6, by rw [hty]; exact hsh, kinds_fits hxm.1 g3⟩
  ·cases hxm
 have hlens : ∀ (k : Nat) (b : Bx) (c : List Value), st.bx[k]? = some b → cc[k]? = some c → b.esc = true → c.length = b.cs.length := by
  intro k b c hkb hc _
  obtain ⟨x, c', hs, _, _, _, g2, _, _, _, _, g7, g8⟩ := full k b hkb
  rw [hc] at g2
  obtain rfl := Option.some.inj g2
  obtain ⟨hs', e1, e2⟩ := h.ek.bf b (List.mem_of_getElem? hkb)
  rw [g7] at e1
  obtain rfl := Option.some.inj e1
  rw [fits_length g8, e2]
 -- the new boxes
 have hget : ∀ (k : Nat) (b : Bx), st.bx[k]? = some b → ∃ b', (st.after dr (if dr then [] else escVals st.bx cc)).bx[k]? = some b' ∧ b'.id = b.id ∧ b'.ty = b.ty ∧ b'.esc = b.esc ∧ b'.cs.length = b.cs.length ∧ ∃ c, cc[k]? = some c ∧ b'.cs.map (·.1) = c := by
  intro k b hkb
  obtain ⟨x, c, hs, _, _, _, g2, _, _, _, g6, _, _⟩ := full k b hkb
  cases dr with
  | true => exact ⟨b, by simpa [St.after] using hkb, rfl, rfl, rfl, rfl, c, g2, (hdr rfl k b c hkb g2).symm⟩
  | false =>
    refine ⟨if b.esc then { b with cs := c.map fun v => (v, st.ctr) } else b, ?_, by split <;> rfl, by split <;> rfl, by split <;> simp_all, ?_, c, g2, ?_⟩
    ·simp only [St.after, Bool.false_eq_true, if_false]
     exact escBx_at st.ctr hb.len hlens k b c hkb g2
    ·split
     ·rename_i he; simpa using hlens k b c hkb g2 he
     ·rfl
    ·split
     ·simp [Function.comp_def]
     ·rename_i he; exact (g6 (by simpa using he)).symm
 have hlen : (st.after dr (if dr then [] else escVals st.bx cc)).bx.length = st.bx.length := by
  cases dr <;> simp [St.after, escBx_len]
 have hget' : ∀ (k : Nat) (b' : Bx), (st.after dr (if dr then [] else escVals st.bx cc)).bx[k]? = some b' → ∃ b, st.bx[k]? = some b ∧ b'.id = b.id ∧ b'.ty = b.ty ∧ b'.esc = b.esc ∧ b'.cs.length = b.cs.length := by
  intro k b' hk
  have hlt : k < st.bx.length := by rw [← hlen]; exact get_lt hk
  obtain ⟨b2, g1, g2, g3, g4, g5, _⟩ := hget k _ (List.getElem?_eq_getElem hlt)
  rw [hk] at g1
  obtain rfl := Option.some.inj g1
  exact ⟨_, List.getElem?_eq_getElem hlt, g2, g3, g4, g5⟩
 have hE : ∀ k c, BxE st k c → BxE (st.after dr (if dr then [] else escVals st.bx cc)) k c := by
  rintro k c ⟨b, g1, g2, g3⟩
  obtain ⟨b', e1, e2, e3, e4, _⟩ := hget k b g1
  exact ⟨b', e1, e2.trans g2, e4.trans g3⟩
 have hids : (st.after dr (if dr then [] else escVals st.bx cc)).ids = st.ids := by
  unfold St.ids
  apply List.ext_getElem?
  intro k
  rw [List.getElem?_map, List.getElem?_map]
  cases hk : st.bx[k]? with
  | none =>
    have : (st.after dr (if dr then [] else escVals st.bx cc)).bx[k]? = none := by
     rw [List.getElem?_eq_none_iff] at hk ⊢
     omega
    rw [this]
  | some b =>
    obtain ⟨b', e1, e2, _⟩ := hget k b hk
    rw [e1]
    simp [e2]
 refine ⟨⟨⟨?_, fun t e he => ?_, by rw [hlen, hb.bl], fun k x hkx => ?_, fun b' hb' => ?_, fun q hq => ?_, by rw [hids]; exact h.ek.nd⟩, ?_, hf, z0, zg⟩, fun k b c hkb hc => ?_, fun k b c hkb hc he => ?_⟩
 ·rw [e1]
  cases dr <;> exact h.ek.el
 ·rw [e1] at he
  obtain ⟨e', g1, g2, g3⟩ := h.ek.env t e he
  exact ⟨e', by cases dr <;> exact g1, g2, g3.mono hx hE (Nat.le_of_eq hlen.symm)⟩
 ·have hlt : k < st.bx.length := by rw [← hb.bl]; exact get_lt hkx
  obtain ⟨x', c, hs, g1, g2, g3, g4, g5, _⟩ := full k _ (List.getElem?_eq_getElem hlt)
  rw [hkx] at g1
  obtain rfl := Option.some.inj g1
  obtain ⟨b', k1, k2, k3, k4, k5, c', k6, k7⟩ := hget k _ (List.getElem?_eq_getElem hlt)
  rw [g4] at k6
  obtain rfl := Option.some.inj k6
  exact ⟨b', k1, k3.trans g3, fun _ => by rw [k7]; exact g5.mono fun _ _ h => h.mono (Ext.refl _) hE⟩
 ·obtain ⟨k, hk'⟩ := List.getElem?_of_mem hb'
  obtain ⟨b, g1, g2, g3, g4, g5⟩ := hget' k b' hk'
  obtain ⟨hs, e1, e2⟩ := h.ek.bf b (List.mem_of_getElem? g1)
  exact ⟨hs, by rw [g3]; exact e1, by rw [g5]; exact e2⟩
 ·have hq' : q ∈ st.pins := by cases dr <;> exact hq
  obtain ⟨r, g1, v, g2, g3⟩ := h.ek.pins q hq'
  exact ⟨r, by rw [e2]; exact g1, v, hx _ _ g2, g3⟩
 ·rw [hids]
  refine (ht.ext hE).boxes fun k hk' => .inl ?_
  unfold St.ids at hk'
  obtain ⟨b, hb1, rfl⟩ := List.mem_map.1 hk'
  obtain ⟨q, hq⟩ := List.getElem?_of_mem hb1
  obtain ⟨_, _, _, _, _, _, _, _, g, _⟩ := full q b hq
  exact g
 ·obtain ⟨x, c', hs, _, _, _, g2, _, _, _, _, g7, g8⟩ := full k b hkb
  rw [hc] at g2
  obtain rfl := Option.some.inj g2
  exact ⟨hs, g7, g8⟩
 ·obtain ⟨x, c', hs, _, _, _, g2, _, _, g5, _⟩ := full k b hkb
  rw [hc] at g2
  obtain rfl := Option.some.inj g2
  exact g5 he
theorem ptr_kinds {t : TypeId} {sub : List Shp} {ks : List Ck} (h : shKinds [.p 0 t sub] ks = true) : ks = [.ptr] := by
 cases ks with
 | nil => simp [shKinds] at h
 | cons c r =>
   simp only [shKinds, Bool.and_eq_true] at h
   cases r with
   | nil => cases c <;> first | rfl | (simp [shKind] at h)
   | cons _ _ => simp [shKinds] at h
theorem res_leaves {Z : Nat → Nat → Prop} : ∀ {ps : List Pm} {shs : List Sh} {ds : List (List D)} {vs : List Value} {f : List Nat}, RepA w Z ps ds vs f → pmShs ps shs = true → ∃ ls, mkMany shs ls = vs ∧ Fits (shs.flatMap (·.ks)) ls
 | _, [], _, _, _, .nil, _ => ⟨[], rfl, trivial⟩
 | p :: ps, sh :: shs, _, _, _, .cons (ys := ys) (vs := vs) h1 h2 h3, hp => by
   simp only [pmShs, Bool.and_eq_true, pmSh, beq_iff_eq] at hp
   obtain ⟨ls, e1, e2⟩ := res_leaves h3 hp.2
   have hf := h1.fits hp.1.1.2
   have hl := fits_length hf
   refine ⟨ys ++ ls, ?_, fits_app hf e2⟩
   simp only [mkMany]
   rw [← hl, List.take_left, List.drop_left, e1]
   simp only [mkOne, Pm.mk', hp.1.1.1]
 | p :: ps, sh :: shs, _, _, _, .nilp (vs := vs) h1 h3, hp => by
   simp only [pmShs, Bool.and_eq_true, pmSh, beq_iff_eq] at hp
   obtain ⟨ls, e1, e2⟩ := res_leaves h3 hp.2
   obtain ⟨n1, t, sub, n2⟩ := Pm.nilp_sub h1
   have hk := hp.1.1.2
   rw [n2] at hk
   obtain ⟨hks⟩ : sh.ks = [.ptr] ∧ True := ⟨ptr_kinds hk, trivial⟩
   refine ⟨.pointer none :: ls, ?_, ?_⟩
   ·simp only [mkMany, hks, List.length_cons, List.length_nil, Nat.zero_add, List.take_succ_cons, List.take_zero, List.drop_succ_cons, List.drop_zero, e1, mkOne]
    rw [← hp.1.1.1, n1]
    rfl
   ·simp only [List.flatMap_cons, hks, List.cons_append, List.nil_append]
    exact ⟨rfl, e2⟩
 | [], _ :: _, _, _, _, _, hp => by simp [pmShs] at hp
 | _ :: _, [], _, _, _, _, hp => by simp [pmShs] at hp
theorem res_ok {Z : Nat → Nat → Prop} {t : TypeId} {ps : List Pm} {ds : List (List D)} {vs av : List Value} {f : List Nat} (hr : rsOk cx.P t ps = true) (h : RepA w Z ps ds vs f) (ha : All2 (CRa hd (BxE st)) av vs) (hany : resAny cx.P t av = true) :
 ∃ rs ls, rsOf cx.P t = some rs ∧ retV vs = rs.mk ls ∧ Fits rs.ks ls ∧ CvR hd st (.v (retV av)) (rsCv rs ls) := by
 unfold rsOk at hr
 unfold resAny at hany
 split at hr
 ·rename_i sh p hrs
  simp only [Bool.and_eq_true, pmSh, beq_iff_eq, Bool.or_eq_true] at hr
  obtain ⟨⟨⟨hagg, hk⟩, _⟩, hone⟩ := hr
  rw [hrs] at hany
  cases h with
  | @cons _ _ d ds ys vs0 f0 fs h1 h2 h3 =>
    cases h3
    cases ha with
    | @cons a b l m a1 a2 =>
      cases a2
      have hf := h1.fits hk
      refine ⟨.one sh, ys, hrs, ?_, hf, ?_⟩
      ·simp only [retV, Rs.mk, mkOne, Pm.mk', hagg]
      ·-- one value
       simp only [retV, rsCv]
       simp only at hany
       by_cases hga : sh.agg = true
       ·have hpa : p.agg = true := hagg.trans hga
        unfold shCv
        rw [if_pos hga]
        have : p.mk' ys = .agg ys.toArray := by simp [Pm.mk', hpa]
        rw [this] at a1
        exact ⟨_, CRa.cr a1, .inl rfl⟩
       ·obtain ⟨c, v, hks, hlv, hka⟩ := (anyOk_of hany).resolve_left hga
        have hpa : p.agg = false := by rw [hagg]; simpa using hga
        have hys := h2 hpa
        obtain ⟨y, rfl⟩ : ∃ y, ys = [y] := by
         cases ys with
         | nil => simp at hys
         | cons a l => obtain rfl : l = [] := (by simpa using hys); exact ⟨a, rfl⟩
        have hmk : p.mk' [y] = y := by simp [Pm.mk', hpa]
        rw [hmk] at a1
        have hav : a = v := by
         cases a with
         | agg xs =>
           obtain ⟨zs, rfl, _⟩ := a1
           have := (h1.ones _ (List.mem_singleton_self _)).1
           simp [oneB] at this
         | _ => simpa [lvs] using hlv
        subst hav
        unfold shCv
        rw [if_neg hga, hks]
        refine ⟨y, CRa.cr a1, ?_⟩
        cases c <;> first | exact .inl rfl | (cases a <;> first | (simp [kAny] at hka; done) | exact .inr ⟨rfl, _, _, _, rfl⟩)
  | nilp h1 h3 =>
    cases h3
    cases ha with
    | @cons a b l m a1 a2 =>
      cases a2
      obtain ⟨n1, t, sub, n2⟩ := Pm.nilp_sub h1
      rw [n2] at hk
      have hks := ptr_kinds hk
      have hga : sh.agg = false := by rw [← hagg]; exact n1
      obtain ⟨c, v, hks', hlv, hka⟩ := (anyOk_of hany).resolve_left (by rw [hga]; simp)
      refine ⟨.one sh, [.pointer none], hrs, ?_, ?_, ?_⟩
      ·simp only [retV, Rs.mk, mkOne, hga]; rfl
      ·simp only [Rs.ks, hks]; exact ⟨rfl, trivial⟩
      ·simp only [retV, rsCv]
       unfold shCv
       rw [if_neg (by rw [hga]; simp), hks]
       exact ⟨_, CRa.cr a1, .inl rfl⟩
 ·rename_i shs hrs
  simp only [Bool.and_eq_true, bne_iff_ne] at hr
  obtain ⟨ls, e1, e2⟩ := res_leaves h hr.1
  have hlen : vs.length ≠ 1 := by rw [h.len.2]; exact hr.2
  have hret : ∀ l : List Value, l.length ≠ 1 → retV l = .tuple l.toArray := by
   intro l hl
   unfold retV
   split
   ·simp at hl
   ·rfl
  refine ⟨.many shs, ls, hrs, by rw [hret vs hlen]; simp only [Rs.mk, e1], e2, ?_⟩
  rw [hret av (by rw [← ha.len]; exact hlen)]
  refine ⟨_, ⟨vs, ?_, by simpa using ha⟩, .inl rfl⟩
  simp only [Rs.mk, e1]
 ·cases hr
theorem stp_of {f : List Nat} {w1 w2 : World} {ids : List Nat} {M : Nat → Prop} {n0 : Nat} (h : Fr (· ∈ f) w1 w2) (h1 : ∀ k ∈ f, n0 ≤ k ∨ M k) (h2 : ∀ k ∈ ids, ¬ k ∈ f) : Stp M n0 ids w1 w2 :=
 ⟨h.os, h.tape, h.output, h.size, fun k hk hd => h.block k hk fun hm => by
  rcases hd with ⟨a, b⟩ | a
  ·rcases h1 k hm with h1 | h1
   ·omega
   ·exact b h1
  ·exact h2 k a hm⟩
theorem ro_nil {Z : Nat → Nat → Prop} {ps : List Pm} {ds : List (List D)} {vs : List Value} {f : List Nat} (h : RepA w Z ps ds vs f) (hr : ro ps = true) : f = [] := by
 induction h with
 | nil => rfl
 | cons h1 h2 _ ih =>
   simp only [ro, List.all_cons, Bool.and_eq_true] at hr
   rw [Reps.bor h1 hr.1, ih hr.2]
   rfl
 | nilp h1 _ ih =>
   simp only [ro, List.all_cons, Bool.and_eq_true] at hr
   exact ih hr.2
mutual
theorem allS_at {Z : Nat → Nat → Prop} : ∀ {sh : Shp} {K : D → Prop} {d : D} {y : Value} {f : List Nat}, allS sh K → Rep w Z sh d y f → K d
 | .v k, K, _, _, _, h, .v h1 h2 => by
   simp only [allS] at h
   exact allK_at (K := fun x => K (.v x)) h h2
 | .l _ _ _, K, _, _, _, h, .tree _ _ _ _ _ => h _
 | .l _ _ _, K, _, _, _, h, .nil => h _
 | .l _ _ _, K, _, _, _, h, .own _ _ _ _ _ => h _
 | .p _ _ sub, K, _, _, _, h, .ptr _ _ h3 => allSs_at (K := fun ds => K (.p ds)) h h3
 | .p _ _ sub, K, _, _, _, h, .box _ h3 => allSs_at (K := fun ds => K (.p ds)) h h3
 | .f _ sub, K, _, _, _, h, .fn h3 => allSs_at (K := fun ds => K (.f ds)) h h3
theorem allSs_at {Z : Nat → Nat → Prop} : ∀ {sh : List Shp} {K : List D → Prop} {d : List D} {y : List Value} {f : List Nat}, allSs sh K → Reps w Z sh d y f → K d
 | [], K, _, _, _, h, .nil => h
 | s :: ss, K, _, _, _, h, .cons h1 h2 => by
   simp only [allSs] at h
   exact allSs_at (K := fun ds => K (_ :: ds)) (allS_at (K := fun d => allSs ss fun ds => K (d :: ds)) h h1) h2
end
theorem allPs_at {Z : Nat → Nat → Prop} : ∀ {ps : List Pm} {K : List (List D) → Prop} {ds : List (List D)} {vs : List Value} {f : List Nat}, allPs ps K → RepA w Z ps ds vs f → K ds
 | [], K, _, _, _, h, .nil => h
 | p :: ps, K, _, _, _, h, .cons h1 _ h3 => by
   simp only [allPs] at h
   have h : allSs p.sub fun ds => allPs ps fun dss => K (ds :: dss) := by
    split at h
    ·exact h
    ·exact h.1
   exact allPs_at (K := fun ds => K (_ :: ds)) (allSs_at (K := fun d => allPs ps fun ds => K (d :: ds)) h h1) h3
 | p :: ps, K, _, _, _, h, .nilp h1 h3 => by
   simp only [allPs, h1] at h
   exact allPs_at (K := fun ds => K (_ :: ds)) h.2 h3
theorem call_end {S : Spec} {a : S.α} {Gl : List (Nat × List Value)} {s1 : DS} {dss ds0 : List (List D)} {vals vs : List Value} {ls : List (List Value)} {g : FuncId} {dr : Bool} {w1 : World} (h : Lk cx Z0 s hd Z F st w1) (hsp : SpecOk cx.P Gl g S) (hG : GOk Gl cx.w0 (Z0 2)) (hZ0 : ∀ m k, Z0 m k → k < cx.w0.heap.size ∧ ¬ cx.M k)
 (hlt : ∀ k ∈ st.ids, k < w1.heap.size) (hbox : ∀ b ∈ st.bx, b.esc = true → Box w1 b.id (b.cs.map (·.1)) b.ty) (hv : All2 (CR hd (BxE st)) vals vs) (hnt : vals.all notTup = true) (hal : argLvs S.as vals = some ls) (hat : argTake S.as ls s = some (ds0, s1)) (haf : argFill s1 S.as ls ds0 = some dss) (hin : S.In a dss)
 (hrs : (S.rs.all fun p => Shp.strs p.sub) = true) (hfs : (S.af.all fun p => p.2.str) = true) (hro : dr = true → ro S.as = true ∧ S.af = []) {R : Ending → World → Prop}
 (hR : ∀ w2 rs f, Fr (· ∈ f) w1 w2 → (∀ k ∈ f, cx.w0.heap.size ≤ k ∨ cx.M k) → (∀ k ∈ f, (∃ r, k ∈ F r) ∨ ∃ q, BxE st q k) → (dr = true → f = []) →
  (∃ outs, S.Out a outs ∧ (∃ (Z' : Nat → Nat → Prop) (ys : List Value) (f' : List Nat), RepA w2 Z' S.ps outs ys f') ∧ ∀ (avs : List Value) (s2 s3 : DS), matR S.rs (outs.take S.rs.length) s1 = some (avs, s2) → giveB vals S.af (outs.drop S.rs.length) s2 = some s3 → boxKinds cx.P s3 = true →
   (∃ (Z' : Nat → Nat → Prop) (fr : List Nat), RepA w2 Z' S.rs (outs.take S.rs.length) rs fr) ∧ ∃ (cc : List (List Value)) (hd3 : List Value) (Zn : Nat → Nat → Prop) (F3 : Nat → List Nat), Fits (if dr then [] else escKs cx.P st.bx) (if dr then [] else escVals st.bx cc) ∧ (∀ (k : Nat) (b : Bx) (c : List Value), st.bx[k]? = some b → cc[k]? = some c → b.esc = true → Box w2 b.id c b.ty ∧ c.length = b.cs.length) ∧ cc.length = st.bx.length ∧
    Fr cx.M cx.w0 w2 ∧ Lk cx Z0 s3 hd3 Zn F3 (st.after dr (if dr then [] else escVals st.bx cc)) w2 ∧ All2 (CRa hd3 (BxE st)) avs rs ∧ Ext hd hd3 ∧ DAgr s s3) → R (.returned (retV rs)) w2) :
 Calls cx.P g vs.toArray w1 R := by
 -- the arguments
 have hids : ∀ (k b : Nat), (∃ x : Bx, st.bx[k]? = some x ∧ x.id = b) → b ∈ st.ids := by
  rintro k b ⟨x, h1, rfl⟩
  exact List.mem_map.2 ⟨x, List.mem_of_getElem? h1, rfl⟩
 have hinj : ∀ (k k' b : Nat), (∃ x : Bx, st.bx[k]? = some x ∧ x.id = b) → (∃ x : Bx, st.bx[k']? = some x ∧ x.id = b) → k = k' := by
  rintro k k' b ⟨x, h1, h2⟩ ⟨x', h3, h4⟩
  have n1 : st.ids[k]? = some b := by unfold St.ids; rw [List.getElem?_map, h1]; simp [h2]
  have n2 : st.ids[k']? = some b := by unfold St.ids; rw [List.getElem?_map, h3]; simp [h4]
  exact (List.getElem?_inj (get_lt n1) h.ek.nd).1 (n1.trans n2.symm)
 have hbw : Bw s.bx hd (BxE st) (fun (k b : Nat) => ∃ x : Bx, st.bx[k]? = some x ∧ x.id = b) (· ∈ st.ids) w1 := by
  refine ⟨hinj, fun k b ⟨x, h1, h2, _⟩ => ⟨x, h1, h2⟩, fun k x b _ _ hx => hids k b hx, ?_⟩
  rintro k x b hk hn ⟨y, h1, h2, h3⟩
  obtain ⟨b', g1, g2, g3⟩ := h.ek.bx k x hk
  rw [h1] at g1
  obtain rfl := Option.some.inj g1
  refine ⟨_, g3 hn, ?_⟩
  rw [← h2, ← g2]
  exact hbox y (List.mem_of_getElem? h1) h3
 have hAL := argLvs_ok S.as vals vs ls hv hal hnt
 obtain ⟨f, Z1, F1, I1, hT, hFs, hfill⟩ := argTake_ok S.as ls vs s s1 ds0 Z F [] _ h.tk hbw hAL hat
 have htk := hT.tk
 rw [List.append_nil] at htk
 have htk0 : Tk cx s1.tb hd (BxE st) Z1 F1 none [] I1 w1 := by
  refine ⟨htk.hl, fun r t c hr => ?_, htk.f0, ?_, htk.n0, htk.np⟩
  ·obtain ⟨v, e1, e2⟩ := htk.te r t c hr
   refine ⟨v, e1, e2.mono (fun _ _ _ => rfl) (fun _ _ h => h) (Ext.refl _) (fun _ _ h => h) rfl (fun r0 rt e sub es _ m k hk => ?_) fun k hk => (htk.sp.fm r k hk).1⟩
   rcases hk with hk | hk | hk | ⟨hk, _⟩
   ·exact .inl hk
   ·exact .inr (.inl hk)
   ·exact .inr (.inr (.inl hk))
   ·cases hk
  ·exact ⟨htk.sp.fd, htk.sp.fj, .nil, fun _ _ h => (by cases h), fun k hk => ⟨by simp, (htk.sp.il k hk).2⟩, fun m k hk => let ⟨a, b, c, d⟩ := htk.sp.z m k hk; ⟨a, b, by simp, d⟩, htk.sp.z2, htk.sp.fm, fun _ h => (by cases h), htk.sp.im⟩
 have hA := hfill s1 dss Z1 F1 I1 htk0 (hT.bw rfl) (fun _ _ h => h) haf
 obtain ⟨hin1, hin2⟩ := hin
 rw [← hin1] at hA
 have hI1 : ∀ k, I1 k → k ∈ st.ids := hT.i
 -- the call
 have hz0 : ∀ m k, Z0 m k → Z1 m k := fun m k hk => hT.z m k (h.z0 m k hk)
 refine Calls.mono (hsp a w1 (Zr Z1 F1 I1) vs f hin2 hA htk.sp.ln (fun k hk => ⟨(htk.sp.lm k hk).2.1, fun m hm => ?_⟩) (fun m k hk => ?_) (Nat.lt_of_lt_of_le h.tk.np h.tk.n0) ?_) ?_
 ·rcases hm with hm | ⟨_, ⟨r, hm⟩ | hm⟩
  ·exact (htk.sp.z m k hm).2.2.1 hk
  ·exact htk.sp.lf r k hk hm
  ·exact (htk.sp.il k hm).1 hk
 ·rcases hk with hk | ⟨rfl, hk⟩
  ·exact ⟨(htk.sp.z m k hk).1, .inl (htk.sp.z2 m k hk)⟩
  ·refine ⟨?_, .inr ⟨rfl, hk⟩⟩
   rcases hk with ⟨r, hk⟩ | hk
   ·exact (htk.sp.fm r k hk).1
   ·exact hlt k (hI1 k hk)
 ·exact hG.kept (fun k hk hz => h.fr.block k hk (hZ0 2 k hz).2) (fun k hk => .inl (hz0 2 k hk))
 ·rintro e w2 ⟨rs, rfl, hF, fr, Z', hfrn, hfrm, hZ', hout⟩
  have hmine : ∀ k ∈ f, cx.w0.heap.size ≤ k ∨ cx.M k := fun k hk => (htk.sp.lm k hk).2.2
  refine hR w2 rs f hF hmine hT.own (fun hd' => ro_nil hA (hro hd').1) ⟨S.out a, rfl, ⟨Z', _, fr, hout⟩, fun avs s2 s3 hm hg hbk => ?_⟩
  -- the results' and what is given back
  have hsplit := RepA.split (ps := S.rs) (ps' := S.af.map fun x => ⟨false, [x.2], false⟩) hout
  obtain ⟨f1, f2, rfl, hr1, hr2⟩ := hsplit
  have hrl : rs.length = S.rs.length := by
   have := hout.len.2
   simp [Spec.ps] at this
   exact this
  rw [← hrl, List.take_left, hrl] at hr1
  rw [← hrl, List.drop_left, hrl] at hr2
  -- the blocks behind the call
  have hw2 : ∀ k, k < w1.heap.size → ¬ k ∈ f → w2.heap[k]? = w1.heap[k]? := fun k hk hn => hF.block k hk hn
  have hZn : ∀ k, Z' 1 k → Z1 1 k ∨ ((k ∈ f ∨ w1.heap.size ≤ k) ∧ ¬ k ∈ f1 ++ f2 ∧ k < w2.heap.size) := fun k hk => by
   obtain ⟨c1, c2, c3⟩ := hZ' 1 k hk
   rcases c1 with c1 | c1
   ·rcases c1 with c1 | ⟨c1, _⟩
    ·exact .inl c1
    ·cases c1
   ·exact .inr ⟨c1, c2, c3⟩
  have hr1' := hr1.strict (Z' := fun m k => Z1 m k ∨ ((k ∈ f ∨ w1.heap.size ≤ k) ∧ ¬ k ∈ f1 ++ f2 ∧ k < w2.heap.size)) hZn hrs
  have hr2' := hr2.strict (Z' := fun m k => Z1 m k ∨ ((k ∈ f ∨ w1.heap.size ≤ k) ∧ ¬ k ∈ f1 ++ f2 ∧ k < w2.heap.size)) hZn (by
   rw [List.all_map]
   refine List.all_eq_true.2 fun x hx => ?_
   have := List.all_eq_true.1 hfs x hx
   simp [Shp.strs, this])
  have hFn : F1 s1.tb.length = [] := htk.f0 _ (Nat.le_refl _)
  have hsp2 : Sp F1 (f1 ++ f2) I1 (fun m k => Z1 m k ∨ ((k ∈ f ∨ w1.heap.size ≤ k) ∧ ¬ k ∈ f1 ++ f2 ∧ k < w2.heap.size)) w2.heap.size (fun k => 0 < k ∧ (cx.w0.heap.size ≤ k ∨ cx.M k)) := by
   have := htk.sp.gen (r := s1.tb.length) (g := []) (lo' := f1 ++ f2) (n' := w2.heap.size) (Z' := fun m k => Z1 m k ∨ ((k ∈ f ∨ w1.heap.size ≤ k) ∧ ¬ k ∈ f1 ++ f2 ∧ k < w2.heap.size)) hF.size .nil hfrn (fun _ h => by cases h) (fun k hk => ?_) (fun m k hk => ?_) (fun m k hk => ?_) (.inr fun k hk => hlt k (hI1 k hk))
   ·rwa [upd_nil hFn] at this
   ·rcases hk with hk | hk
    ·cases hk
    ·rcases hfrm k hk with hk' | hk'
     ·exact .inr (.inl hk')
     ·exact .inr (.inr ⟨hk', hout.lt k hk, by have := h.tk.n0; have := h.tk.np; omega, .inl (Nat.le_trans h.tk.n0 hk')⟩)
   ·rcases hk with hk | ⟨hk, hk2, hk3⟩
    ·exact .inl hk
    ·refine .inr ⟨?_, by simp, hk2⟩
     rcases hk with hk | hk
     ·exact .inr (.inl hk)
     ·exact .inr (.inr ⟨hk, hk3⟩)
   ·rcases hk with hk | hk
    ·exact .inl (htk.sp.z2 m k hk)
    ·exact .inr hk
  have htk2 : Tk cx s1.tb hd (BxE st) (fun m k => Z1 m k ∨ ((k ∈ f ∨ w1.heap.size ≤ k) ∧ ¬ k ∈ f1 ++ f2 ∧ k < w2.heap.size)) F1 none (f1 ++ f2) I1 w2 := by
   refine ⟨htk.hl, fun r t c hr => ?_, htk.f0, hsp2, Nat.le_trans htk.n0 hF.size, htk.np⟩
   obtain ⟨v, e1, e2⟩ := htk.te r t c hr
   refine ⟨v, e1, e2.keep (fun k hk hd' => hw2 k hk fun hm => ?_) (fun m k hk => .inl hk) rfl (fun k hk => (htk.sp.fm r k hk).1) (fun r0 rt e sub es _ m k hk => ?_)⟩
   ·rcases hd' with ⟨m, hd'⟩ | hd' | ⟨r0, rt, e, sub, es, _, m, hd'⟩
    ·exact (htk.sp.z m k hd').2.2.1 hm
    ·exact htk.sp.lf r k hm hd'
    ·rcases hd' with hd' | ⟨_, hd'⟩ | hd' | ⟨hd', _⟩
     ·exact (htk.sp.z m k hd').2.2.1 hm
     ·exact htk.sp.lf r0 k hm hd'
     ·exact htk.sp.lf r0 k hm (List.mem_of_mem_tail hd')
     ·cases hd'
   ·rcases hk with hk | hk | hk | ⟨hk, _⟩
    ·exact .inl (.inl hk)
    ·exact .inr (.inl hk)
    ·exact .inr (.inr (.inl hk))
    ·cases hk
  obtain ⟨hd2, F2, m1, m2, m3, m4, m5⟩ := matR_ok S.rs _ s1 s2 hd F1 f2 rs avs f1 htk2 hr1' hm
  -- the own boxes
  have hbg1 : Bg s2 hd2 st (st.bx.map fun b => b.cs.map (·.1)) I1 w2 := by
   refine ⟨by simp, by rw [m4, hT.bl, h.ek.bl], fun k x b hk hb => ?_, fun k x hk hn => ?_⟩
   ·rw [m4] at hk
    obtain ⟨x', e1, e2, _⟩ := hT.bx k x hk
    obtain ⟨b', g1, g2, _⟩ := h.ek.bx k x' e1
    rw [hb] at g1
    obtain rfl := Option.some.inj g1
    rw [g2, e2]
   ·rw [m4] at hk
    obtain ⟨x', e1, e2, e3⟩ := hT.bx k x hk
    have e3 := e3.resolve_right hn
    obtain ⟨b, g1, g2, g3⟩ := h.ek.bx k x' e1
    have hIb : I1 b.id := (hT.bw rfl).bi k x b.id hk hn ⟨b, g1, rfl⟩
    refine ⟨b, b.cs.map (·.1), g1, by rw [List.getElem?_map, g1]; rfl, ?_, hIb, fun he => ?_, fun _ => rfl⟩
    ·rw [e3] at hn ⊢
     exact (g3 hn).mono fun _ _ h => h.mono m2 (fun _ _ h => h)
    ·exact Box.keptB (hbox b (List.mem_of_getElem? g1) he) (hw2 _ (hlt _ (hI1 _ hIb)) (htk.sp.il _ hIb).1)
  have zz0 : ∀ m k, Z0 m k → Z1 m k ∨ ((k ∈ f ∨ w1.heap.size ≤ k) ∧ ¬ k ∈ f1 ++ f2 ∧ k < w2.heap.size) := fun m k hk => .inl (hz0 m k hk)
  have zzg : ∀ m k, (Z1 m k ∨ ((k ∈ f ∨ w1.heap.size ≤ k) ∧ ¬ k ∈ f1 ++ f2 ∧ k < w2.heap.size)) → Z0 m k ∨ cx.w0.heap.size ≤ k ∨ cx.M k := fun m k hk => by
   rcases hk with hk | ⟨hk | hk, _⟩
   ·rcases hT.zn m k hk with hk | ⟨r, hk⟩
    ·exact h.zg m k hk
    ·exact .inr (h.tk.sp.fm r k hk).2.2
   ·exact .inr (hmine k hk)
   ·exact .inr (.inl (Nat.le_trans h.tk.n0 hk))
  have fin : ∀ (cc : List (List Value)) (hd3 : List Value) (F3 : Nat → List Nat) (I3 : Nat → Prop), Tk cx s3.tb hd3 (BxE st) (fun m k => Z1 m k ∨ ((k ∈ f ∨ w1.heap.size ≤ k) ∧ ¬ k ∈ f1 ++ f2 ∧ k < w2.heap.size)) F3 none [] I3 w2 → Bg s3 hd3 st cc I3 w2 → Ext hd2 hd3 → DAgr s2 s3 → s3.env = s2.env → s3.pins = s2.pins → (dr = true → cc = st.bx.map fun b => b.cs.map (·.1)) → (∃ (Z' : Nat → Nat → Prop) (fr : List Nat), RepA w2 Z' S.rs ((S.out a).take S.rs.length) rs fr) ∧
   ∃ (cc : List (List Value)) (hd3 : List Value) (Zn : Nat → Nat → Prop) (F3 : Nat → List Nat), Fits (if dr then [] else escKs cx.P st.bx) (if dr then [] else escVals st.bx cc) ∧ (∀ (k : Nat) (b : Bx) (c : List Value), st.bx[k]? = some b → cc[k]? = some c → b.esc = true → Box w2 b.id c b.ty ∧ c.length = b.cs.length) ∧ cc.length = st.bx.length ∧
    Fr cx.M cx.w0 w2 ∧ Lk cx Z0 s3 hd3 Zn F3 (st.after dr (if dr then [] else escVals st.bx cc)) w2 ∧ All2 (CRa hd3 (BxE st)) avs rs ∧ Ext hd hd3 ∧ DAgr s s3 := by
   intro cc hd3 F3 I3 q1 q2 q3 q4 q5 q6 q7
   have hfr : Fr cx.M cx.w0 w2 := ⟨hF.os.trans h.fr.os, hF.tape.trans h.fr.tape, hF.output.trans h.fr.output, Nat.le_trans h.fr.size hF.size, fun k hk hn => by
    refine (hF.block k (Nat.lt_of_lt_of_le hk h.fr.size) fun hm => ?_).trans (h.fr.block k hk hn)
    rcases hmine k hm with h1 | h1
    ·omega
    ·exact hn h1⟩
   have hq : dr = true → ∀ (k : Nat) (b : Bx) (c : List Value), st.bx[k]? = some b → cc[k]? = some c → c = b.cs.map (·.1) := fun hd' k b c hb hc => by
    rw [q7 hd', List.getElem?_map, hb] at hc
    exact (Option.some.inj hc).symm
   obtain ⟨r1, r2, r3⟩ := after_ok (dr := dr) h (m2.trans q3) (q5.trans (m3.env.trans hT.keeps.env)) (q6.trans (m3.pins.trans hT.keeps.pins)) q2 q1 hbk hq hfr zz0 zzg
   refine ⟨⟨_, _, hr1⟩, cc, hd3, _, F3, ?_, fun k b c hb hc he => ⟨r3 k b c hb hc he, ?_⟩, q2.len, hfr, r1, m5.mono fun _ _ h => h.mono q3 (fun _ _ h => h), m2.trans q3, (hT.keeps.trans m3).agr.trans q4⟩
   ·cases dr
    ·exact escKs_fit q2.len fun k b c hb hc _ => r2 k b c hb hc
    ·trivial
   ·obtain ⟨hs, e1, e2⟩ := r2 k b c hb hc
    obtain ⟨hs', e3, e4⟩ := h.ek.bf b (List.mem_of_getElem? hb)
    rw [e1] at e3
    obtain rfl := Option.some.inj e3
    rw [fits_length e2, e4]
  by_cases haf : S.af = []
  ·rw [haf] at hg
   have hdn : (S.out a).drop S.rs.length = [] := by
    have := hr2.len.1
    rw [haf] at this
    exact List.eq_nil_of_length_eq_zero this
   rw [hdn] at hg hr2
   obtain rfl : s2 = s3 := by simpa [giveB] using hg
   rw [haf] at hr2
   have hf2 : f2 = [] := by cases hr2; rfl
   subst hf2
   exact fin _ hd2 F2 I1 m1 hbg1 (Ext.refl _) (DAgr.refl _) rfl rfl fun _ => rfl
  ·have m1' : Tk cx s2.tb hd2 (BxE st) (fun m k => Z1 m k ∨ ((k ∈ f ∨ w1.heap.size ≤ k) ∧ ¬ k ∈ f1 ++ f2 ∧ k < w2.heap.size)) F2 none (f2 ++ []) I1 w2 := by rw [List.append_nil]; exact m1
   obtain ⟨hd3, F3, I3, cc, q1, q2, q3, q4, q5, q6, q7, q8⟩ := giveB_ok h.ek.nd hv S.af _ s2 s3 hd2 F2 [] f2 I1 _ m2 m1' hbg1 hr2' hg
   exact fin cc hd3 F3 I3 q1 q2 q3 q4 q5 q6 fun hd' => absurd (hro hd').2 haf
end
end Go.Dw
end
