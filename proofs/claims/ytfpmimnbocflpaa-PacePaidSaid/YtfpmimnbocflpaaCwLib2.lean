/- The engine: what the builtins do with slices of integers. -/
import Derived.Test.YtfpmimnbocflpaaCwLib
namespace Go.Cw
open Go

section
variable {P : Program} {w : World} {k : IntKind} {t ty e : TypeId} {bytes : Nat} {R : Value → World → Prop}

/-- t is a type of slices of integers of kind k (of the type e, so many bytes each). -/
def IntT (P : Program) (t e : TypeId) (k : IntKind) (bytes : Nat) : Prop :=
  P.underlying t = some (.slice e) ∧ (P.info? e).map (fun i => (i.zero, i.size, i.bytes)) = some (some (.int k 0), 1, bytes)

theorem IntT.info (h : IntT P t e k bytes) : ∃ i, P.info? e = some i ∧ i.zero = some (.int k 0) ∧ i.size = 1 ∧ i.bytes = bytes := by
  have h2 := h.2
  cases hi : P.info? e with
  | none => simp [hi] at h2
  | some i =>
    simp only [hi, Option.map_some, Option.some.injEq, Prod.mk.injEq] at h2
    exact ⟨i, rfl, h2.1, h2.2.1, h2.2.2⟩

theorem int_cells (k : IntKind) (x : Int) : (Value.int k x).cells = #[.int k x] := rfl

theorem heap_alloc (w : World) (o : Obj) : (w.alloc o).heap = w.heap.push o := rfl

theorem fr_alloc (w : World) (o : Obj) : Fr F0 w (w.alloc o) := ⟨rfl, rfl, rfl, by rw [heap_alloc]; simp, fun j hj _ => by rw [heap_alloc, Array.getElem?_push_lt hj, Array.getElem?_eq_getElem hj]⟩

theorem fr_grown {w w' : World} (h : w.grownBy w' none) : Fr F0 w w' := ⟨h.os, h.tape, h.output, h.size, fun j hj _ => h.block j hj (by simp)⟩

/-- A literal. -/
theorem semUpon_build (hT : IntT P t e k bytes) (l : List Int) {parts : Array (Nat × Value)} {n : Nat} (hp : parts.toList = ((l.map (Value.int k)).zipIdx 0).map fun x => (x.2, x.1)) (hn : n = l.length) (hs : n ≤ 2 ^ 24)
    (hr : ∀ w', Fr F0 w w' → Row k e w' (some ⟨w.heap.size, 0, none⟩) n l → w.heap.size < w'.heap.size → R (.slice (some ⟨w.heap.size, 0, none⟩) n n) w') : semUpon P (Instr.buildSlice t n parts) w R := by
  obtain ⟨i, hi, hz, hsz, hb⟩ := hT.info
  have hrun : (Instr.buildSlice t n parts).run P w = .ok (.slice (some ⟨w.heap.size, 0, none⟩) n n) (w.alloc (.cells (l.map (Value.int k)).toArray e)) := by
    by_cases h0 : n = 0
    · obtain rfl : l = [] := List.eq_nil_of_length_eq_zero (by omega)
      subst h0
      simp [Instr.buildSlice, run_underlying hT.1, sizeOf, typeInfo, hi, newRow, hp, Instr.fill]
      exact congrArg (fun c => w.alloc (Obj.cells c e)) (Array.eq_empty_of_size_eq_zero (by simp))
    · refine run_buildSlice w t e n parts _ i _ hT.1 hi hz (by rw [hsz]; omega) (by rw [hsz]; omega) ?_
      rw [hp, hsz]
      exact Great.fill_flat _ _ (fun v hv => by obtain ⟨n, _, rfl⟩ := List.mem_map.1 hv; rfl) (by simp [hn])
  unfold semUpon
  rw [hrun]
  refine hr _ (fr_alloc w _) ⟨hn.symm, w.heap.size, [], rfl, ?_⟩ (by rw [heap_alloc]; simp)
  unfold Box
  rw [heap_alloc]
  simp

/-- A sum of a full row and another slice. -/
theorem semUpon_append (hT : IntT P t e k bytes) {b m : Nat} (N : Nat) {olds l : List Int} (hb : Row k e w (some ⟨b, 0, none⟩) m olds) (hN : N ≤ b) (hNw : N ≤ w.heap.size) {A : Option Addr} {n c : Nat} (hl : Ints k w A n l) (hbytes : (m + n) * bytes ≤ 140737488355328) (h63 : m + n ≤ maxLen)
    (hr : ∀ A' c' w', Fr F0 w w' → Row k e w' A' (m + n) (olds ++ l) → New N A' → R (.slice A' (m + n) c') w') :
    semUpon P (Builtin.append_ #[t, t] ty #[.slice (some ⟨b, 0, none⟩) m m, .slice A n c]) w R := by
  obtain ⟨i, hi, hz, hsz, hby⟩ := hT.info
  have hN' : New N (some (⟨b, 0, none⟩ : Addr)) := by intro p hp; cases hp; exact hN
  by_cases h0 : n = 0
  · subst h0
    obtain rfl : l = [] := List.eq_nil_of_length_eq_zero hl.1
    have hrun : (Builtin.append_ #[t, t] ty #[.slice (some ⟨b, 0, none⟩) m m, .slice A 0 c]).run P w = .ok (.slice (some ⟨b, 0, none⟩) (m + 0) m) w := by
      cases A with
      | none => simp [Builtin.append_, run_underlying hT.1, sizeOf, typeInfo, hi, Builtin.lenOf, Builtin.firstCells, storeCells]
      | some a =>
        have hfc := run_firstCells_some (P := P) w i.size 0 a 0 c [] (by simp) (by simp)
        simp [Builtin.append_, run_underlying hT.1, sizeOf, typeInfo, hi, Builtin.lenOf, hfc, storeCells]
    unfold semUpon
    rw [hrun]
    refine hr _ _ _ (Fr.refl _ _) ?_ hN'
    simpa using hb
  · obtain ⟨a, rfl, hc⟩ := hl.2 (by omega)
    have hol : (olds.map (Value.int k)).length = m * 1 := by simp [hb.1]
    obtain ⟨v', w', hrun, hown, hgr⟩ := run_append_arg_grows (P := P) w t ty e i (.int k 0) 1 bytes hT.1 hi hz hsz hby rfl (by omega) ⟨b, 0, none⟩ m m (olds.map (Value.int k)) hol (by
      intro j u hu
      obtain ⟨_, b', r, hp, hB⟩ := hb
      cases hp
      rw [add_none, Nat.zero_add]
      refine hB.cell ?_
      have hj : j < (olds.map (Value.int k)).length := by
        by_cases hj : j < (olds.map (Value.int k)).length
        · exact hj
        · rw [List.getElem?_eq_none (by omega)] at hu; cases hu
      rw [List.getElem?_append_left hj, hu]) a n c (l.map (Value.int k)) (by simp [hl.1]) (by
      intro j u hu
      rw [List.getElem?_map] at hu
      cases hx : l[j]? with
      | none => rw [hx] at hu; cases hu
      | some x =>
        rw [hx] at hu
        obtain rfl := Option.some.inj hu
        exact hc j x hx) (by omega) h63 hbytes
    obtain ⟨hlen, hcase⟩ := hown
    rcases hcase with ⟨_, hz0⟩ | ⟨g, cap, cur, rfl, hg, hcur, hncap, hcapm, hsize, htake⟩
    · omega
    · unfold semUpon
      rw [hrun]
      refine hr _ _ _ (fr_grown hgr) ⟨by simp [hb.1, hl.1], g, cur.toList.drop (m + n), rfl, ?_⟩ (by intro p hp; cases hp; exact Nat.le_trans hNw hg)
      unfold Box
      rw [hcur, List.map_append, ← htake, Nat.mul_one, List.take_append_drop]

/-- A new row of zeros. -/
theorem semUpon_make (hT : IntT P t e k bytes) {kl kc : IntKind} {n : Nat} (hn : n * bytes ≤ 281474976710656) (h63 : n ≤ maxLen) (hcells : n ≤ 16777216)
    (hr : ∀ w', Fr F0 w w' → Row k e w' (some ⟨w.heap.size, 0, none⟩) n (List.replicate n 0) → w.heap.size < w'.heap.size → R (.slice (some ⟨w.heap.size, 0, none⟩) n n) w') : semUpon P (Instr.makeSlice t (.int kl (n : Int)) (.int kc (n : Int))) w R := by
  obtain ⟨i, hi, hz, hsz, hby⟩ := hT.info
  obtain ⟨w', hrun, hown, hgr⟩ := run_makeSlice_full (P := P) w w.heap.size t e i (.int k 0) 1 hT.1 hi hz hsz kl kc n (by omega) (by rw [hby, Nat.mul_comm]; exact hn) h63 (Nat.le_refl _)
  obtain ⟨hlen, hcase⟩ := hown
  have hmade : (madeCells (Value.int k 0).cells (n * 1)).toList = (List.replicate n (0 : Int)).map (Value.int k) := by
    apply List.ext_getElem
    · simp [madeCells]
    · intro j h1 h2
      simp [madeCells, int_cells, Nat.mod_one]
  rcases hcase with ⟨h, _⟩ | ⟨g, cap, cur, hv, hg, hcur, hncap, hcapm, hsize, htake⟩
  · cases h
  · cases hv
    unfold semUpon
    rw [hrun]
    refine hr _ (fr_grown hgr) ⟨by simp, w.heap.size, cur.toList.drop n, rfl, ?_⟩ (Box.lt (cs := cur.toList) (t := e) (by unfold Box; exact hcur))
    unfold Box
    rw [hcur, ← hmade, ← htake, Nat.mul_one, List.take_append_drop]

/-- A row is cleared. -/
theorem semUpon_clear (hT : IntT P t e k bytes) {A : Option Addr} {n c : Nat} {l : List Int} (hl : Row k e w A n l)
    (hr : ∀ w', Fr (fun b => A.any (·.block == b)) w w' → Row k e w' A n (List.replicate n 0) → R (.tuple #[]) w') : semUpon P (Builtin.clear_ #[t] ty #[.slice A n c]) w R := by
  obtain ⟨i, hi, hz, hsz, hby⟩ := hT.info
  obtain ⟨h1, b, rest, rfl, hB⟩ := hl
  by_cases h0 : n = 0
  · subst h0
    obtain rfl : l = [] := List.eq_nil_of_length_eq_zero h1
    have hrun : (Builtin.clear_ #[t] ty #[.slice (some ⟨b, 0, none⟩) 0 c]).run P w = .ok (.tuple #[]) w := by
      simp [Builtin.clear_, run_underlying hT.1]
    unfold semUpon
    rw [hrun]
    exact hr _ (Fr.refl _ _) ⟨rfl, b, rest, rfl, hB⟩
  · obtain ⟨m, rfl⟩ := Nat.exists_eq_succ_of_ne_zero h0
    have hzc : (Builtin.zeroCells (Value.int k 0).cells (m + 1)).toList = (List.replicate (m + 1) (0 : Int)).map (Value.int k) := by
      apply List.ext_getElem
      · simp [Builtin.zeroCells, int_cells]
      · intro j h1 h2
        simp [Builtin.zeroCells, int_cells, Nat.mod_one]
    have hst := run_storeCells_at (P := P) b 0 e ((List.replicate (m + 1) (0 : Int)).map (Value.int k)) 0 _ w hB (by simp [h1]) (fun v hv => by
      obtain ⟨x, _, rfl⟩ := List.mem_map.1 hv
      rfl)
    have hrun : (Builtin.clear_ #[t] ty #[.slice (some ⟨b, 0, none⟩) (m + 1) c]).run P w = .ok (.tuple #[]) (w.setRow b ((List.replicate (m + 1) (0 : Int)).map (Value.int k) ++ rest).toArray) := by
      rw [hzc.symm] at hst ⊢
      simp [Builtin.clear_, run_underlying hT.1, zeroValue, typeInfo, hi, hz]
      rw [hst, Result.andThen_ok]
      congr 3
      rw [hzc]
      simp [h1]
    have hu := upd_setRow hB ((List.replicate (m + 1) (0 : Int)).map (Value.int k) ++ rest)
    unfold semUpon
    rw [hrun]
    refine hr _ ⟨hu.os, hu.tape, hu.output, Nat.le_of_eq hu.size.symm, fun j _ hj => hu.block j (fun h => hj (by simp [h]))⟩ ⟨by simp, b, rest, rfl, hu.box⟩

/-- A number is written into a row: what the formula of a store asks. -/
theorem Row.put {A : Option Addr} {n : Nat} {l : List Int} (h : Row k e w A n l) {i : Nat} (hi : i < n) (x : Int) :
    ∃ b cs, offA A (i * 1) = some ⟨b, i, none⟩ ∧ A = some ⟨b, 0, none⟩ ∧ Box w b cs e ∧ i + 1 ≤ cs.length ∧
      ∀ w2, Upd w b (List.append (List.append (List.take i cs) [.int k x]) (List.drop (i + 1) cs)) e w2 → Row k e w2 A n (l.set i x) := by
  obtain ⟨h1, b, rest, rfl, hB⟩ := h
  refine ⟨b, _, ?_, rfl, hB, by simp; omega, fun w2 hu => ⟨by simp [h1], b, rest, rfl, ?_⟩⟩
  · simp [offA, add_none]
  · have := hu.box
    have heq : List.append (List.append (List.take i (List.map (Value.int k) l ++ rest)) [.int k x]) (List.drop (i + 1) (List.map (Value.int k) l ++ rest)) = (l.set i x).map (Value.int k) ++ rest := by
      show (List.take i (List.map (Value.int k) l ++ rest) ++ [.int k x]) ++ (List.drop (i + 1) (List.map (Value.int k) l ++ rest)) = _
      rw [List.take_append_of_le_length (by simp; omega), List.drop_append_of_le_length (by simp; omega), List.map_set, List.set_eq_take_append_cons_drop]
      simp [h1, hi]
    rw [heq] at this
    exact this

end

end Go.Cw
