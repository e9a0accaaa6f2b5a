/- compact.Then: what the map tells. -/
import Derived.Test.YtenogjddakjhcaaGreatDoorTh1
import Derived.Maps.Views
namespace Go.Proofs
open Go.RowKit Go.Shelf
attribute [local go_sem] Oper.semAt_some
variable {H : Type}

theorem back1_nil_in (F : Fence) (n : Nat) (h19 : F.fn 19) (hro : F.round = none) (l Bs : Nat) (A : Option Addr) (cap : Nat) (J : List (Int × Mv) → World → Prop) (W : World) (hBs : W.cell? ⟨Bs, 0, none⟩ = some (.slice A 0 cap)) (h0 : J [] W) :
 CallsIn F n Tryz.prog 19 #[.func (.yield l) #[] #[], .pointer (some ⟨Bs, 0, none⟩)] W fun e W' => (∃ v, e = .returned v) ∧ J [] W' := by
 refine callsIn_of_wp Tryz.func19 rfl h19 ?_ hro
 simp only [Tryz.ntmps19, List.size_toArray, List.length_cons, List.length_nil, Nat.reduceAdd, Nat.reduceSub, Array.replicate_succ, Array.replicate_zero, List.push_toArray, List.append_toArray, List.nil_append, List.cons_append]
 gi_wp2
 gi_loopw [3] (fun i wr => i = .int .i64 (-1) ∧ J [] wr) (fun _ _ => 0)
 case atStart => exact ⟨by simp, h0⟩
 case round =>
  obtain ⟨rfl, hJs⟩ := hrel
  gi_wp2
  go_end0
  exact ⟨⟨_, rfl⟩, hJs⟩

theorem back_in (F : Fence) (n : Nat) (h13 : F.fn 13) (hro : F.round = none) (A : Option Addr) (len cap : Nat) (w : World) :
 CallsIn F n Tryz.prog 13 #[.slice A len cap] w fun e w' => e = .returned (.func (.func 19) #[] #[.pointer (some ⟨w.heap.size, 0, none⟩)]) ∧ w' = w.alloc (.cells #[.slice A len cap] 22) := by
 refine callsIn_of_wp Tryz.func13 rfl h13 ?_ hro
 simp only [Tryz.ntmps13, List.size_toArray, List.length_cons, List.length_nil, Nat.reduceAdd, Nat.reduceSub, Array.replicate_succ, Array.replicate_zero, List.push_toArray, List.append_toArray, List.nil_append, List.cons_append]
 gi_wp2
 go_ret
 exact ⟨rfl, rfl⟩

def MvsAt (n₀ : Nat) (W : World) (sv : Value) (zs : List Mv) : Prop :=
 (∃ A c, sv = .slice A 0 c ∧ zs = []) ∨ ∃ b off cap, sv = .slice (some ⟨b, off, none⟩) zs.length cap ∧ b < n₀ ∧ zs.length * 16 ≤ 140737488351232 ∧ ∀ j, j < zs.length → W.cell? ⟨b, off + j * 2, none⟩ = some (.int .u64 (zs[j]?.getD mv0).1.1) ∧ W.cell? ⟨b, off + j * 2 + 1, none⟩ = some (.int .u64 (zs[j]?.getD mv0).1.2)
theorem MvsAt.below {n₀ : Nat} {A B : World} (h : Below n₀ A B) {sv : Value} {zs : List Mv} : MvsAt n₀ A sv zs → MvsAt n₀ B sv zs
 | .inl e => .inl e
 | .inr ⟨b, off, cap, e, hb, hr, hc⟩ => .inr ⟨b, off, cap, e, hb, hr, fun j hj => ⟨(h.cell (p := ⟨b, off + j * 2, none⟩) hb).trans (hc j hj).1, (h.cell (p := ⟨b, off + j * 2 + 1, none⟩) hb).trans (hc j hj).2⟩⟩

theorem upto_take {α : Type} (f : Nat → α) {k n : Nat} (hk : k ≤ n) : upto f k <+: upto f n := by
 obtain ⟨j, rfl⟩ := Nat.le.dest hk
 unfold upto
 rw [List.range_add, List.map_append]
 exact List.prefix_append _ _
theorem back_stops (F : Fence) (n : Nat) (h19 : F.fn 19) (hro : F.round = none) (hn : 1 ≤ n) (Bs n₀ : Nat) (sv : Value) (zs : List Mv) (w : World) (hBs : Bs < w.heap.size) (hn₀ : n₀ ≤ w.heap.size)
 (hc : w.cell? ⟨Bs, 0, none⟩ = some sv) (hI : MvsAt n₀ w sv zs) :
 SeqStopsK F n Tryz.prog 19 #[.pointer (some ⟨Bs, 0, none⟩)] encM (KpB n₀ Bs) (fun ys => ys = upto (bk zs) zs.length) (fun pre => pre <+: upto (bk zs) zs.length) zs.length w := fun l J Jx W hW _ _ hY h0 => by
 have hW' := hW.mono hn₀
 have hc' := (hW.cell (p := ⟨Bs, 0, none⟩) hBs).trans hc
 rcases hI.below hW' with ⟨A, c, rfl, rfl⟩ | ⟨b, off, cap, rfl, hb, hr, hcs⟩
 ·exact (back1_nil_in F n h19 hro l Bs A c J W hc' h0).mono fun e W' ⟨he, hj⟩ => ⟨he, .inl ⟨_, rfl, hj⟩⟩
 ·refine (back1_in F n h19 hro hn l Bs n₀ b off cap zs hr hb J Jx hY W hc' hcs h0).mono ?_
  rintro e W' ⟨he, ⟨ys, rfl, hj⟩ | ⟨pre, ⟨k, hk, rfl⟩, hj⟩⟩
  ·exact ⟨he, .inl ⟨_, rfl, hj⟩⟩
  ·exact ⟨he, .inr ⟨_, upto_take _ hk, hj⟩⟩

def mapM' (ms : List Mv) : DataW H := ms.foldl (fun D m => D.put (.int .u64 m.1.1) (.lit (.int .u64 m.1.2))) (.map [])
def mapD (xs : List (Int × Mv)) : DataW H := mapM' (xs.map (·.2))
theorem mapD_snoc (pre : List (Int × Mv)) (x : Int × Mv) : mapD (H := H) (pre ++ [x]) = (mapD pre).put (.int .u64 x.2.1.1) (.lit (.int .u64 x.2.1.2)) := by simp [mapD, mapM']
theorem mapM'_snoc (pre : List Mv) (x : Mv) : mapM' (H := H) (pre ++ [x]) = (mapM' pre).put (.int .u64 x.1.1) (.lit (.int .u64 x.1.2)) := by simp [mapM']
theorem mapM'_rev (ms : List Mv) : Maps.IsMap (mapM' (H := H) ms.reverse) ∧ ∀ (x : Int) (z : DataW H), (mapM' (H := H) ms.reverse).atKey (.int .u64 x) z = (match ms.find? (fun m => m.1.1 == x) with | some m => .lit (.int .u64 m.1.2) | none => z) ∧
 Maps.has (mapM' (H := H) ms.reverse) (.int .u64 x) = (ms.find? (fun m => m.1.1 == x)).isSome := by
 induction ms with
 | nil => exact ⟨⟨[], rfl⟩, fun x z => ⟨rfl, rfl⟩⟩
 | cons m r ih =>
   rw [List.reverse_cons, mapM'_snoc]
   refine ⟨?_, fun x z => ?_⟩
   ·obtain ⟨es, he⟩ := ih.1
    rw [he]
    exact ⟨_, rfl⟩
   ·by_cases h : m.1.1 = x
    ·subst h
     simp only [List.find?_cons, beq_self_eq_true, Option.isSome_some]
     exact ⟨Maps.atKey_put_same ih.1 (k := .int .u64 m.1.1) (by simp [WideAt.IsKeyLit]) _ _, Maps.has_put_same ih.1 (k := .int .u64 m.1.1) (by simp [WideAt.IsKeyLit]) _⟩
    ·have hb : (m.1.1 == x) = false := by simp [h]
     simp only [List.find?_cons, hb]
     have hne : (Lit.int .u64 x) ≠ .int .u64 m.1.1 := fun e => h (Lit.int.inj e).2.symm
     rw [Maps.atKey_put_other hne, Maps.has_put_other hne]
     exact ih.2 x z
theorem bk_all (zs : List Mv) : (upto (bk zs) zs.length).map (·.2) = zs.reverse := by
 apply List.ext_getElem
 ·simp [upto_length]
 ·intro i h1 h2
  have hi : i < zs.length := by simpa [upto] using h1
  simp only [upto, List.getElem_map, List.getElem_range, bk, List.getElem_reverse]
  rw [List.getElem?_eq_getElem (by omega)]
  rfl
theorem look_all (zs : List Mv) (x : Int) (z : DataW H) : (mapD (H := H) (upto (bk zs) zs.length)).atKey (.int .u64 x) z = (match zs.find? (fun m => m.1.1 == x) with | some m => .lit (.int .u64 m.1.2) | none => z) ∧
 Maps.has (mapD (H := H) (upto (bk zs) zs.length)) (.int .u64 x) = (zs.find? (fun m => m.1.1 == x)).isSome := by
 unfold mapD
 rw [bk_all]
 exact (mapM'_rev zs).2 x z
end Go.Proofs
