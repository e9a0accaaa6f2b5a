/- The engine's words are sound, the fifth part: guards; what an effect's operation does. -/
import Derived.Test.YtfpmimnbocflpaaCwS4
import Derived.Laws.CopyRow
namespace Go.Cw
open Go

section
variable {cx : Cx} {ops : Array Oper} {dn : Nat → Bool} {st : St} {a : Act} {w wa : World}

theorem gx1_spec (hR : RelR cx ops dn st a w wa) {j d : Nat} {b g : Bool} {e : En} (hd : (ops[j]?).bind (·.dst) = some d) (he : st.env[d]? = some (some e)) (hg : gx1 st ops j b = some g) (hT : Gd ops a e.tg) :
    ∃ c, yielded ops a.tmps j = some c ∧ (g = true ↔ c = b) := by
  unfold gx1 at hg
  rw [hd] at hg
  simp only [he] at hg
  split at hg
  · rename_i c tg vr heq
    simp only [Option.some.injEq] at heq
    subst heq
    obtain ⟨h1, _⟩ := hR.env.env d _ he hT
    refine ⟨c, yielded_tmp hd h1, ?_⟩
    simp only [Option.some.injEq] at hg
    subst hg
    cases b <;> cases c <;> simp
  · cases hg

theorem gx_spec (hR : RelR cx ops dn st a w wa) : ∀ {T : List (Nat × Bool)} {g : Bool}, Coh ops st T → gx st ops T = some g → (g = true ↔ Gd ops a T)
  | [], g, _, h => by
    simp only [gx, Option.some.injEq] at h
    subst h
    simp [Gd]
  | [(j, b)], g, ⟨d, e, h1, h2, h3, _⟩, h => by
    simp only [gx] at h
    obtain ⟨c, hc, hg⟩ := gx1_spec hR h1 h2 h (by rw [h3]; intro x hx; cases hx)
    rw [hg]
    simp only [Gd, List.mem_singleton, forall_eq, hc, Option.some.injEq]
  | (j, b) :: y :: r, g, ⟨d, e, h1, h2, h3, h4⟩, h => by
    simp only [gx] at h
    split at h
    · rename_i c' d' hc' hd'
      simp only [Option.some.injEq] at h
      subst h
      have ih := gx_spec hR h4 hd'
      simp only [Bool.and_eq_true]
      constructor
      · rintro ⟨k1, k2⟩
        have hr := ih.1 k1
        obtain ⟨c, hc, hg⟩ := gx1_spec hR h1 h2 hc' (by rw [h3]; exact hr)
        intro x hx
        rcases List.mem_cons.1 hx with rfl | hx
        · simp only; rw [hc, hg.1 k2]
        · exact hr x hx
      · intro hG
        have hr : Gd ops a (y :: r) := fun x hx => hG x (List.mem_cons_of_mem _ hx)
        obtain ⟨c, hc, hg⟩ := gx1_spec hR h1 h2 hc' (by rw [h3]; exact hr)
        refine ⟨ih.2 hr, hg.2 ?_⟩
        have := hG (j, b) (by simp)
        simp only [hc, Option.some.injEq] at this
        exact this
    · cases h

theorem gImp_spec (hR : RelR cx ops dn st a w wa) {T : List (Nat × Bool)} {p : Prop} (hC : Coh ops st T) (h : gImp st ops T p) (hT : Gd ops a T) : p := by
  unfold gImp at h
  split at h
  · exact h
  · split at h
    · rename_i g hg
      exact h ((gx_spec hR hC hg).2 hT)
    · exact h.elim

theorem tagSt_spec (hR : RelR cx ops dn st a w wa) {i : Nat} {o : Oper} (hi : ops[i]? = some o) {T : List (Nat × Bool)} (h : tagSt ops dn st o = some T) :
    (∀ x ∈ T, dn x.1 = true ∧ Src ops x.1) ∧ Coh ops st T ∧ (Region.wanted o (yielded ops a.tmps) = true ↔ Gd ops a T) := by
  unfold tagSt at h
  split at h
  · rename_i hg
    simp only [Option.some.injEq] at h
    subst h
    refine ⟨fun x hx => (by cases hx), trivial, ?_⟩
    simp [Region.wanted, hg, Gd]
  · rename_i j b hg
    split at h
    · rename_i hdn
      split at h
      · rename_i d hd
        split at h
        · rename_i e he
          simp only [Option.some.injEq] at h
          subst h
          have hmem : o ∈ ops.toList := by
            rw [← Array.getElem?_toList] at hi
            exact List.mem_of_getElem? hi
          refine ⟨fun x hx => ?_, ⟨d, e, hd, he, rfl, hR.coh d e he⟩, ?_⟩
          · rcases List.mem_cons.1 hx with rfl | hx
            · exact ⟨hdn, o, hmem, b, hg⟩
            · exact hR.tags d e he x hx
          · simp only [Region.wanted, hg, beq_iff_eq]
            constructor
            · intro hy x hx
              rcases List.mem_cons.1 hx with rfl | hx
              · exact hy
              · exact hR.ci j d e b hd he hdn hy x hx
            · intro hG
              exact hG (j, b) (by simp)
        · cases h
      · cases h
    · cases h
end

/-! ### Boxes come and are written -/
theorem addBx_boxes {cx : Cx} {st : St} {w wa : World} (h : WOk cx st w wa) (l : List Value) (t : TypeId) :
    WOk cx (st.addBx wa.heap.size l t) w (wa.alloc (.cells l.toArray t)) := by
  have hlt : ∀ b ∈ st.bx, b.id < wa.heap.size := fun b hb => box_lt (h.boxes b hb)
  have hold : ∀ k, k < wa.heap.size → (wa.alloc (.cells l.toArray t)).heap[k]? = wa.heap[k]? := fun k hk => RowKit.Below.heap_alloc _ _ _ hk
  refine ⟨?_, ?_, ?_, ?_, ?_⟩
  · intro b hb
    simp only [St.addBx, List.mem_append, List.mem_singleton] at hb
    rcases hb with hb | rfl
    · have := h.boxes b hb
      unfold Box at *
      rw [hold _ (hlt b hb)]; exact this
    · unfold Box
      show (wa.heap.push _)[wa.heap.size]? = _
      rw [Array.getElem?_push_size]
      simp [Function.comp_def]
  · intro b hb
    simp only [St.addBx, List.mem_append, List.mem_singleton] at hb
    rcases hb with hb | rfl
    · exact h.own b hb
    · exact .inl h.fr.size
  · simp only [St.ids, St.addBx, List.map_append, List.map_cons, List.map_nil]
    rw [List.nodup_append]
    refine ⟨h.nodup, by simp, ?_⟩
    intro x hx y hy
    obtain ⟨b, hb, rfl⟩ := List.mem_map.1 hx
    simp only [List.mem_singleton] at hy
    subst hy
    exact Nat.ne_of_lt (hlt b hb)
  · refine ⟨h.fr.os, h.fr.tape, h.fr.output, by have := h.fr.size; simp; omega, fun k hk hM => ?_⟩
    rw [hold k (Nat.lt_of_lt_of_le hk h.fr.size)]
    exact h.fr.block k hk hM
  · simp only [St.addBx, if_true]
    have hc := h.chg
    refine ⟨hc.os, hc.tape, hc.output, by have := hc.size; simp; omega, fun k hk hn => ?_⟩
    rw [hold k (Nat.lt_of_lt_of_le hk hc.size)]
    refine hc.block k hk fun hm => hn ?_
    simp only [St.ids, List.map_append, List.mem_append] at hm ⊢
    exact .inl hm

theorem addBx_aft (st : St) (b : Nat) (l : List Value) (t : TypeId) : Aft st (st.addBx b l t) :=
  ⟨rfl, by simp [St.addBx], fun k x hx => ⟨x, by simp only [St.addBx]; rw [List.getElem?_append_left (List.getElem?_eq_some_iff.1 hx).1]; exact hx, rfl, rfl, rfl, fun _ _ h _ => h⟩⟩

theorem setRow_other (w : World) (g : Nat) (cs : Array Value) (k : Nat) (h : k ≠ g) : (w.setRow g cs).heap[k]? = w.heap[k]? := by
  simp only [World.setRow, Array.getElem?_modify]
  rw [if_neg (by omega)]

theorem upd_setRow {w : World} {b : Nat} {cs : List Value} {t : TypeId} (h : Box w b cs t) (cs' : List Value) : Upd w b cs' t (w.setRow b cs'.toArray) :=
  ⟨setRow_heap w b _ _ t _ h, rfl, rfl, rfl, by simp [World.setRow], fun k hk => setRow_other w b _ k hk⟩

theorem oneB_cell {v : Value} (h : oneB v = true) : v.oneCell' = true := by cases v <;> first | rfl | cases h

theorem store_run {P : Program} {w : World} {b o : Nat} {cs l : List Value} {t t' : TypeId} (hb : Box w b cs t) (hle : o + l.length ≤ cs.length) (h1 : l.all oneB = true) {v : Value} (hv : v.cells.toList = l)
    {i : TypeInfo} (hi : P.info? t' = some i) (hs : l.length = P.cellsOf t') :
    (Instr.storeAt t' (.pointer (some ⟨b, o, none⟩)) v).run P w = .ok () (w.setRow b (cs.take o ++ l ++ cs.drop (o + l.length)).toArray) := by
  have hr := run_storeCells_at (P := P) b o t l 0 cs.toArray w hb (by simpa using hle) (fun v hv => oneB_cell (List.all_eq_true.1 h1 v hv))
  have hsz : v.cells.size = i.size := by
    have : P.cellsOf t' = i.size := by simp [Program.cellsOf, hi]
    rw [← Array.length_toList, hv, hs, this]
  simp only [Instr.storeAt, Sem.run_bind, sureAddr_run, Result.andThen_ok, storeVar, sizeOf_run hi, hsz, ne_eq, not_true, if_false, hv]
  simpa using hr

end Go.Cw
