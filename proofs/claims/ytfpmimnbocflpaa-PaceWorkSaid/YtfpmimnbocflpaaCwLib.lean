/- The engine: what is said of memory beside it: numbers at a base, rows of one's own, what the builtins do, how a contract is used. -/
import Derived.Test.YtfpmimnbocflpaaCwTop
import Derived.ArgAppend
import Derived.Great.BuildSlice
import Derived.Laws.OwnMore
namespace Go.Cw
open Go

/-! ### Contracts -/
/-- A contract that writes nothing old but in M. -/
def RetM (P : Program) (M : Nat → Prop) (f : FuncId) (args : Array Value) (w : World) (R : Value → World → Prop) : Prop :=
  Calls P f args w fun e w' => ∃ v, e = .returned v ∧ Fr M w w' ∧ R v w'

/-- A contract that writes nothing old. -/
abbrev Ret (P : Program) (f : FuncId) (args : Array Value) (w : World) (R : Value → World → Prop) : Prop := RetM P F0 f args w R

/-- The blocks up to the first that may be written. -/
theorem Fr.stp {M M' : Nat → Prop} {w w' : World} (h : Fr M' w w') (n0 : Nat) (ids : List Nat) (h1 : ∀ k, k < n0 → M' k → M k) (h2 : ∀ k ∈ ids, ¬ M' k) : Stp M n0 ids w w' :=
  ⟨h.os, h.tape, h.output, h.size, fun k hk hd => h.block k hk (by
    rcases hd with ⟨a, b⟩ | a
    · exact fun hm => b (h1 k a hm)
    · exact h2 k a)⟩

theorem Fr.stp0 {M : Nat → Prop} {w w' : World} (h : Fr F0 w w') (n0 : Nat) (ids : List Nat) : Stp M n0 ids w w' :=
  h.stp n0 ids (fun _ _ h => h.elim) (fun _ _ h => h)

theorem RetM.use {P : Program} {M' : Nat → Prop} {f : FuncId} {args : Array Value} {w : World} {R : Value → World → Prop} {G : Ending → World → Prop} (h : RetM P M' f args w R)
    (hg : ∀ v w', Fr M' w w' → R v w' → G (.returned v) w') : Calls P f args w G := by
  refine Calls.mono h ?_
  rintro e w' ⟨v, rfl, hf, hr⟩
  exact hg v w' hf hr

theorem RetM.mono {P : Program} {M : Nat → Prop} {f : FuncId} {args : Array Value} {w : World} {R R' : Value → World → Prop} (h : RetM P M f args w R) (hr : ∀ v w', R v w' → R' v w') : RetM P M f args w R' := by
  refine Calls.mono h ?_
  rintro e w' ⟨v, rfl, hf, h⟩
  exact ⟨v, rfl, hf, hr v w' h⟩

/-! ### Blocks that stay -/
/-- All blocks but those of B stay. -/
structure Keep (B : Nat → Prop) (w w' : World) : Prop where
  size : w.heap.size ≤ w'.heap.size
  block : ∀ k, k < w.heap.size → ¬ B k → w'.heap[k]? = w.heap[k]?

theorem Fr.keep {M : Nat → Prop} {w w' : World} (h : Fr M w w') : Keep M w w' := ⟨h.size, h.block⟩
theorem Chg.keep {ids : List Nat} {w w' : World} (h : Chg ids w w') : Keep (· ∈ ids) w w' := ⟨h.size, h.block⟩
theorem Upd.keep {w w' : World} {b : Nat} {cs : List Value} {t : TypeId} (h : Upd w b cs t w') : Keep (· = b) w w' := ⟨Nat.le_of_eq h.size.symm, fun k _ hk => h.block k hk⟩
theorem Keep.refl (B : Nat → Prop) (w : World) : Keep B w w := ⟨Nat.le_refl _, fun _ _ _ => rfl⟩
theorem Keep.trans {B : Nat → Prop} {w w' w'' : World} (h : Keep B w w') (h' : Keep B w' w'') : Keep B w w'' :=
  ⟨Nat.le_trans h.size h'.size, fun k hk hb => (h'.block k (Nat.lt_of_lt_of_le hk h.size) hb).trans (h.block k hk hb)⟩
theorem Keep.mono {B B' : Nat → Prop} {w w' : World} (h : Keep B w w') (hb : ∀ k, k < w.heap.size → B k → B' k) : Keep B' w w' := ⟨h.size, fun k hk hn => h.block k hk fun hh => hn (hb k hk hh)⟩

theorem Fr.trans {M : Nat → Prop} {w w' w'' : World} (h : Fr M w w') (h' : Fr M w' w'') : Fr M w w'' :=
  ⟨h'.os.trans h.os, h'.tape.trans h.tape, h'.output.trans h.output, Nat.le_trans h.size h'.size, fun k hk hb => (h'.block k (Nat.lt_of_lt_of_le hk h.size) hb).trans (h.block k hk hb)⟩

theorem Fr.mono {M M' : Nat → Prop} {w w' : World} (h : Fr M w w') (hb : ∀ k, k < w.heap.size → M k → M' k) : Fr M' w w' :=
  ⟨h.os, h.tape, h.output, h.size, fun k hk hn => h.block k hk fun hh => hn (hb k hk hh)⟩

theorem Box.lt {w : World} {b : Nat} {cs : List Value} {t : TypeId} (h : Box w b cs t) : b < w.heap.size := by
  unfold Box at h
  by_cases hb : b < w.heap.size
  · exact hb
  · rw [Array.getElem?_eq_none (by omega)] at h; cases h

theorem Box.kept {w w' : World} {b : Nat} {cs : List Value} {t : TypeId} {B : Nat → Prop} (h : Box w b cs t) (hk : Keep B w w') (hb : ¬ B b) : Box w' b cs t := by
  unfold Box
  rw [hk.block b h.lt hb]
  exact h

theorem cell_lt {w : World} {p : Addr} {v : Value} (h : w.cell? p = some v) : p.block < w.heap.size := by
  unfold World.cell? at h
  by_cases hb : p.block < w.heap.size
  · exact hb
  · rw [Array.getElem?_eq_none (by omega)] at h; cases h

theorem cell_kept {w w' : World} {p : Addr} {v : Value} {B : Nat → Prop} (h : w.cell? p = some v) (hk : Keep B w w') (hb : ¬ B p.block) : w'.cell? p = some v := by
  rw [World.cell?_of_block (hk.block _ (cell_lt h) hb)]
  exact h

theorem Box.cell {w : World} {b o : Nat} {cs : List Value} {t : TypeId} {v : Value} (h : Box w b cs t) (hv : cs[o]? = some v) : w.cell? ⟨b, o, none⟩ = some v := by
  unfold World.cell?
  rw [show w.heap[(⟨b, o, none⟩ : Addr).block]? = _ from h]
  simp [hv]

theorem add_none (b o j : Nat) : (⟨b, o, none⟩ : Addr).add j = ⟨b, o + j, none⟩ := addr_add b o j

/-- Some of a box's cells. -/
theorem Box.cells {w : World} {b : Nat} {cs : List Value} {t : TypeId} (h : Box w b cs t) (j : Nat) (vs : List Value) (hv : ∀ m, m < vs.length → cs[j + m]? = vs[m]?) : Cells w (some ⟨b, 0, none⟩) j vs := by
  refine ⟨_, rfl, fun m hm => ?_⟩
  rw [add_none, add_none, Nat.zero_add]
  have := hv m hm
  rw [List.getElem?_eq_getElem hm] at this ⊢
  exact h.cell this

theorem Box.cell1 {w : World} {b j : Nat} {cs : List Value} {t : TypeId} {v : Value} (h : Box w b cs t) (hv : cs[j]? = some v) : Cells w (some ⟨b, 0, none⟩) j [v] :=
  h.cells j [v] fun m hm => by
    obtain rfl : m = 0 := by simpa using hm
    exact hv

theorem Box.all {w : World} {b : Nat} {cs : List Value} {t : TypeId} (h : Box w b cs t) : Cells w (some ⟨b, 0, none⟩) 0 cs :=
  h.cells 0 cs fun m _ => by rw [Nat.zero_add]

/-! ### Numbers at a base -/
/-- Integers of kind k from a base on. -/
def Ints (k : IntKind) (w : World) (A : Option Addr) (n : Nat) (l : List Int) : Prop :=
  l.length = n ∧ (0 < n → ∃ p, A = some p ∧ ∀ i x, l[i]? = some x → w.cell? (p.add i) = some (.int k x))

/-- A row of one's own: the base is the beginning of a block that begins with them. -/
def Row (k : IntKind) (e : TypeId) (w : World) (A : Option Addr) (n : Nat) (l : List Int) : Prop :=
  l.length = n ∧ ∃ b rest, A = some ⟨b, 0, none⟩ ∧ Box w b (l.map (Value.int k) ++ rest) e

/-- The base is not older than N. -/
def New (N : Nat) (A : Option Addr) : Prop := ∀ p, A = some p → N ≤ p.block

theorem add_block (p : Addr) (j : Nat) : (p.add j).block = p.block := by
  unfold Addr.add; split
  · rename_i h; subst h; rfl
  · rfl

theorem Ints.kept {k : IntKind} {w w' : World} {A : Option Addr} {n : Nat} {l : List Int} {B : Nat → Prop} (h : Ints k w A n l) (hk : Keep B w w') (hb : ∀ p, A = some p → ¬ B p.block) : Ints k w' A n l :=
  ⟨h.1, fun hn => by
    obtain ⟨p, hp, hc⟩ := h.2 hn
    exact ⟨p, hp, fun i x hx => cell_kept (hc i x hx) hk (by rw [add_block]; exact hb p hp)⟩⟩

theorem Row.kept {k : IntKind} {e : TypeId} {w w' : World} {A : Option Addr} {n : Nat} {l : List Int} {B : Nat → Prop} (h : Row k e w A n l) (hk : Keep B w w') (hb : ∀ p, A = some p → ¬ B p.block) : Row k e w' A n l := by
  obtain ⟨h1, b, r, rfl, hB⟩ := h
  exact ⟨h1, b, r, rfl, hB.kept hk (hb _ rfl)⟩

theorem Row.ints {k : IntKind} {e : TypeId} {w : World} {A : Option Addr} {n : Nat} {l : List Int} (h : Row k e w A n l) : Ints k w A n l := by
  obtain ⟨h1, b, r, rfl, hB⟩ := h
  refine ⟨h1, fun _ => ⟨_, rfl, fun i x hx => ?_⟩⟩
  rw [add_none, Nat.zero_add]
  refine hB.cell ?_
  have hi : i < l.length := by
    by_cases hi : i < l.length
    · exact hi
    · rw [List.getElem?_eq_none (by omega)] at hx; cases hx
  rw [List.getElem?_append_left (by simpa using hi), List.getElem?_map, hx]
  rfl

theorem Row.isSome {k : IntKind} {e : TypeId} {w : World} {A : Option Addr} {n : Nat} {l : List Int} (h : Row k e w A n l) : A.isSome = true := by
  obtain ⟨_, b, r, rfl, _⟩ := h; rfl

/-- The i-th, as the formula asks. -/
theorem Ints.cell {k : IntKind} {w : World} {A : Option Addr} {n : Nat} {l : List Int} (h : Ints k w A n l) {i : Nat} {x : Int} (hx : l[i]? = some x) : Cells w A (i * 1) [.int k x] := by
  have hi : i < l.length := by
    by_cases hi : i < l.length
    · exact hi
    · rw [List.getElem?_eq_none (by omega)] at hx; cases hx
  obtain ⟨p, hp, hc⟩ := h.2 (by have := h.1; omega)
  refine ⟨p, hp, fun m hm => ?_⟩
  obtain rfl : m = 0 := by simpa using hm
  have := hc i x hx
  rw [Nat.mul_one]
  show w.cell? ((p.add i).add 0) = _
  rw [show (p.add i).add 0 = p.add i by
    unfold Addr.add; split <;> simp_all]
  exact this

theorem Ints.isSome {k : IntKind} {w : World} {A : Option Addr} {n : Nat} {l : List Int} (h : Ints k w A n l) (hn : 0 < n) : A.isSome = true := by
  obtain ⟨p, hp, _⟩ := h.2 hn; rw [hp]; rfl

end Go.Cw
