/- The engine's words are sound, the second part: what a quiet operation yields. -/
import Derived.Test.YtfpmimnbocflpaaCwS1
namespace Go.Cw
open Go

theorem opIdx_spec {ops : Array Oper} {d : Tmp} {j : Nat} (h : opIdx ops d = some j) : (ops[j]?).bind (·.dst) = some d := by
  unfold opIdx at h
  obtain ⟨hlt, hp, _⟩ := List.findIdx?_eq_some_iff_getElem.1 h
  have hj : ops[j]? = some ops.toList[j] := by
    rw [← Array.getElem?_toList, List.getElem?_eq_getElem hlt]
  rw [hj]
  simpa using hp

theorem yielded_tmp {ops : Array Oper} {a : Act} {j : Nat} {d : Tmp} {b : Bool} (h : (ops[j]?).bind (·.dst) = some d) (hv : a.tmps[d]? = some (.bool b)) : yielded ops a.tmps j = some b := by
  simp [yielded, h, hv]

theorem typeInfo_run {P : Program} {t : TypeId} {i : TypeInfo} (h : P.info? t = some i) (w : World) : (typeInfo t).run P w = .ok i w := by
  simp [typeInfo, h]

theorem cellsOf_pos {P : Program} {t : TypeId} (h : P.cellsOf t ≠ 0) : ∃ i, P.info? t = some i ∧ i.size = P.cellsOf t := by
  unfold Program.cellsOf at *
  cases hi : P.info? t with
  | none => simp [hi] at h
  | some i => exact ⟨i, rfl, by simp⟩

theorem underlying_info {P : Program} {t : TypeId} {d : TypeDesc} (h : P.underlying t = some d) : ∃ i, P.info? t = some i ∧ i.size = P.cellsOf t := by
  unfold Program.underlying at h
  unfold Program.cellsOf
  cases hi : P.info? t with
  | none => simp [hi] at h
  | some i => exact ⟨i, rfl, by simp⟩

theorem sizeOf_run {P : Program} {t : TypeId} {i : TypeInfo} (h : P.info? t = some i) (w : World) : (sizeOf t).run P w = .ok i.size w := by
  simp [sizeOf, typeInfo_run h]

theorem isAgg_run {P : Program} {t : TypeId} {d : TypeDesc} (h : P.underlying t = some d) (w : World) : (isAgg t).run P w = .ok (aggB P t) w := by
  unfold isAgg aggB
  simp only [Sem.run_bind, run_underlying h, Result.andThen_ok, h]
  cases d <;> rfl

theorem fieldOff_spec {P : Program} {s : TypeId} {f off : Nat} (h : fieldOff P s f = some off) :
    ∃ (fs : Array Field) (fd : Field), P.underlying s = some (.struct fs) ∧ fs[f]? = some fd ∧ P.cellsOf fd.type ≠ 0 ∧ fd.offset = off := by
  unfold fieldOff at h
  split at h
  · rename_i fs hu
    split at h
    · rename_i fd hf
      split at h
      · cases h
      · rename_i hc; exact ⟨fs, fd, hu, hf, hc, Option.some.inj h⟩
    · cases h
  · cases h

theorem fieldAt_run {P : Program} {s : TypeId} {f off : Nat} (h : fieldOff P s f = some off) (p : Addr) (w : World) :
    (Instr.fieldAt s (.pointer (some p)) f).run P w = .ok (.pointer (some (p.add off))) w := by
  obtain ⟨fs, fd, hu, hf, hc, rfl⟩ := fieldOff_spec h
  obtain ⟨i, hi, hs⟩ := cellsOf_pos hc
  have hne : i.size ≠ 0 := by rw [hs]; exact hc
  simp [Instr.fieldAt, run_underlying hu, hf, Instr.sureAddr, fieldPlace, sizeOf_run hi, hne]

theorem sliceElem_spec {P : Program} {t e : TypeId} (h : sliceElem P t = some e) : P.underlying t = some (.slice e) ∧ ∃ i, P.info? e = some i ∧ i.size = P.cellsOf e := by
  unfold sliceElem at h
  split at h
  · rename_i e' hu
    split at h
    · rename_i hi
      obtain ⟨i, hi⟩ := Option.isSome_iff_exists.1 hi
      obtain rfl := Option.some.inj h
      exact ⟨hu, i, hi, by simp [Program.cellsOf, hi]⟩
    · cases h
  · cases h

theorem box_cell {w : World} {b : Nat} {cs : List Value} {t : TypeId} (h : Box w b cs t) (j : Nat) : w.cell? ⟨b, j, none⟩ = cs[j]? := by
  unfold Box at h
  simp [World.cell?, h]

theorem loadCells_box {P : Program} {w : World} {b : Nat} {cs : List Value} {t : TypeId} (h : Box w b cs t) (off n : Nat) (vs : List Value) (hv : (cs.drop off).take n = vs) (hl : vs.length = n) :
    (loadCells ⟨b, off, none⟩ n).run P w = .ok vs.toArray w := by
  subst hl
  refine run_loadCells_list w ⟨b, off, none⟩ vs fun j v hj => ?_
  have he : (⟨b, off, none⟩ : Addr).add j = ⟨b, off + j, none⟩ := by
    unfold Addr.add; split
    · rename_i h0; subst h0; rfl
    · rfl
  rw [he, box_cell h]
  rw [← hv, List.getElem?_take] at hj
  split at hj
  · simpa [List.getElem?_drop] using hj
  · cases hj

/-- A struct's literal. -/
theorem fill_list (offs : List Nat) (sizes : List Nat) (place : Nat → Option (Nat × Nat)) (hp : ∀ i, place i = (offs[i]?).bind fun o => (sizes[i]?).map fun s => (o, s)) :
    ∀ (parts : List (Nat × Value)) (cs : List Value) (r : List Value), fillL offs cs parts = some r →
      (∀ x ∈ parts, sizes[x.1]? = some x.2.cells.size) → Instr.fill place cs.toArray parts = some r.toArray
  | [], cs, r, h, _ => by simp only [fillL, Option.some.injEq] at h; subst h; rfl
  | (i, v) :: rest, cs, r, h, hs => by
    simp only [fillL] at h
    split at h
    · rename_i off hoff
      split at h
      · rename_i hle
        have hsz := hs (i, v) (by simp)
        simp only at hsz
        have ih := fill_list offs sizes place hp rest _ r h (fun x hx => hs x (by simp [hx]))
        simp only [Instr.fill, hp, hoff, hsz, Option.bind_some, Option.map_some]
        have hle' : ¬ (off + v.cells.size > cs.toArray.size) := by simpa using hle
        rw [if_neg (by simpa using hle)]
        have key : (v.cells.zipIdx.foldl (fun cs (x : Value × Nat) => cs.setIfInBounds (off + x.2) x.1) cs.toArray) = (cs.take off ++ v.cells.toList ++ cs.drop (off + v.cells.toList.length)).toArray := by
          rw [← Array.foldl_toList]
          have gen : ∀ (l : List Value) (k : Nat) (cs : List Value), off + k + l.length ≤ cs.length →
              ((l.zipIdx k).foldl (fun (cs : Array Value) (x : Value × Nat) => cs.setIfInBounds (off + x.2) x.1) cs.toArray) = (cs.take (off + k) ++ l ++ cs.drop (off + k + l.length)).toArray := by
            intro l
            induction l with
            | nil => intro k cs _; simp
            | cons x l ih =>
              intro k cs hle
              simp only [List.length_cons] at hle
              simp only [List.zipIdx_cons, List.foldl_cons]
              rw [show (cs.toArray.setIfInBounds (off + k) x) = (cs.set (off + k) x).toArray from by simp]
              rw [ih (k + 1) (cs.set (off + k) x) (by simp; omega)]
              congr 1
              have h1 : (cs.set (off + k) x).take (off + (k + 1)) = cs.take (off + k) ++ [x] := by
                rw [List.take_set, show off + (k + 1) = (off + k) + 1 by omega, List.take_succ_eq_append_getElem (by omega), List.set_append_right _ _ (by simp; omega)]
                simp [Nat.min_eq_left (show off + k ≤ cs.length by omega)]
              have h2 : (cs.set (off + k) x).drop (off + (k + 1) + l.length) = cs.drop (off + k + (l.length + 1)) := by
                rw [List.drop_set, if_pos (by omega)]
                congr 1; omega
              rw [h1, h2]; simp
          have := gen v.cells.toList 0 cs (by simpa using hle)
          simpa [Array.toList_zipIdx] using this
        have e2 : (v.cells.zipIdx.foldl (fun cs x => match x with | (c, j) => cs.setIfInBounds (off + j) c) cs.toArray) = (cs.take off ++ v.cells.toList ++ cs.drop (off + v.cells.toList.length)).toArray := by
          rw [← key]
        rw [e2]
        exact ih
      · cases h
    · cases h

theorem partsOk_spec {sizes : List Nat} : ∀ {ps : List (Nat × Value)}, partsOk sizes ps = true → ∀ x ∈ ps, sizes[x.1]? = some x.2.cells.size
  | [], _, x, hx => by cases hx
  | (i, v) :: r, h, x, hx => by
    simp only [partsOk] at h
    split at h
    · rename_i n hn
      simp only [Bool.and_eq_true, beq_iff_eq] at h
      rcases List.mem_cons.1 hx with rfl | hx
      · simp only; rw [hn, h.1]; simp
      · exact partsOk_spec h.2 x hx
    · cases h

theorem mapM_run {α β : Type} {P : Program} {w : World} (g : α → Sem β) (h : α → β) : ∀ (l : List α), (∀ x ∈ l, (g x).run P w = .ok (h x) w) → (l.mapM g).run P w = .ok (l.map h) w
  | [], _ => by simp
  | x :: l, hx => by
    have ih := mapM_run g h l (fun y hy => hx y (by simp [hy]))
    simp [List.mapM_cons, hx x (by simp), ih]

theorem build_run {P : Program} {t : TypeId} {fs : Array Field} {z : Array Value} {ps : List (Nat × Value)} {cs : List Value} (hu : P.underlying t = some (.struct fs)) (hz : (P.info? t).bind (·.zero) = some (.agg z))
    (hi : fs.toList.all (fun f => (P.info? f.type).isSome) = true) (hp : partsOk (fs.toList.map fun f => P.cellsOf f.type) ps = true)
    (hf : fillL (fs.toList.map (·.offset)) z.toList ps = some cs) (w : World) : (Instr.build t ps.toArray).run P w = .ok (.agg cs.toArray) w := by
  obtain ⟨i, hi1, hi2⟩ := Option.bind_eq_some_iff.1 hz
  have hm : (fs.mapM (m := Sem) fun f => do pure (f.offset, ← sizeOf f.type)).run P w = .ok (fs.toList.map fun f => (f.offset, P.cellsOf f.type)).toArray w := by
    have := mapM_run (P := P) (w := w) (fun f : Field => do pure (f.offset, ← sizeOf f.type)) (fun f => (f.offset, P.cellsOf f.type)) fs.toList (fun f hf => by
      obtain ⟨j, hj⟩ := Option.isSome_iff_exists.1 (List.all_eq_true.1 hi f hf)
      simp [sizeOf_run hj, Program.cellsOf, hj])
    have e : fs.mapM (m := Sem) (fun f => do pure (f.offset, ← sizeOf f.type)) = List.toArray <$> fs.toList.mapM (m := Sem) (fun f => do pure (f.offset, ← sizeOf f.type)) := by
      obtain ⟨l⟩ := fs
      exact List.mapM_toArray
    rw [e, Sem.run_map, this]
    rfl
  have hfill := fill_list (fs.toList.map (·.offset)) (fs.toList.map fun f => P.cellsOf f.type) (fun i => (fs.toList.map fun f => (f.offset, P.cellsOf f.type)).toArray[i]?)
    (fun i => by simp only [List.getElem?_toArray, List.getElem?_map]; cases fs.toList[i]? <;> rfl) ps z.toList cs hf (partsOk_spec hp)
  simp only [Instr.build, zeroValue, Sem.run_bind, typeInfo_run hi1, Result.andThen_ok, hi2, Sem.run_pure, run_underlying hu, hm, Value.cells]
  rw [Array.toArray_toList] at hfill
  simp only [hfill]
  rfl

theorem kcv_den (k : Ck) (x : Value) (st : St) : st.den (k.cv x) = x := by cases k <;> rfl
theorem kcv_ok (k : Ck) (x : Value) (st : St) : CvOk st (k.cv x) := by cases k <;> trivial

theorem sliceEnd_spec {ops : Array Oper} {st : St} {a : Act} (hE : EnvOk (Gd ops a) st a) {T : List (Nat × Bool)} (hT : Gd ops a T) {o : Option Operand} {r : Option Int} (h : sliceEnd st T o = some r) :
    (o = none ∧ r = none) ∨ ∃ b k i, o = some b ∧ r = some i ∧ a.eval b = .int k i := by
  cases o with
  | none => simp only [sliceEnd, Option.some.injEq] at h; exact .inl ⟨rfl, h.symm⟩
  | some b =>
    simp only [sliceEnd] at h
    split at h
    · rename_i k i hr
      simp only [Option.some.injEq] at h
      exact .inr ⟨b, k, i, rfl, h.symm, (rd_sound hE hT hr).1⟩
    · cases h

theorem sliceAt_run {P : Program} {t e : TypeId} (hu : P.underlying t = some (.slice e)) {i : TypeInfo} (hi : P.info? e = some i) (A : Option Addr) (n c : Nat) (lo hi' : Option Value) (l h : Option Int)
    (hl : (lo = none ∧ l = none) ∨ ∃ k x, lo = some (.int k x) ∧ l = some x) (hh : (hi' = none ∧ h = none) ∨ ∃ k x, hi' = some (.int k x) ∧ h = some x)
    (hp : ∀ q, boundP (c : Int) h (boundN n h) l = some q → q) (w : World) :
    (Instr.sliceAt t (.slice A n c) lo hi' none).run P w = .ok (.slice (reA A c (boundN 0 l) (P.cellsOf e)) (boundN n h - boundN 0 l) (c - boundN 0 l)) w := by
  have hsz : i.size = P.cellsOf e := by simp [Program.cellsOf, hi]
  rcases hh with ⟨rfl, rfl⟩ | ⟨k, y, rfl, rfl⟩ <;> rcases hl with ⟨rfl, rfl⟩ | ⟨k', x, rfl, rfl⟩ <;>
    simp only [boundP, Option.some.injEq, forall_eq', reduceCtorEq, false_implies, implies_true, boundN] at hp ⊢ <;>
    simp [Instr.sliceAt, run_underlying hu, Instr.slice, Instr.sliceBounds, Instr.sliceBound, asIntOf, sizeOf_run hi, reA, hsz, hp] <;> first | rfl | (intro h; exfalso; omega)

end Go.Cw
