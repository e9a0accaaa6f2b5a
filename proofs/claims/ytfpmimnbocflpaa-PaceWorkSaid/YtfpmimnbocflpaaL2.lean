/- Laws: what a pacer does. -/
import Derived.Test.YtfpmimnbocflpaaL1
namespace Go.Proofs.Ytfpmimnbocflpaa
open Go Go.Cw
set_option linter.unusedVariables false

/-- Debts that stay, apart from the blocks of ids. -/
structure Stay (ids : List Nat) (w : World) (A : Option Addr) (l : List Int) : Prop where
  ints : Ints .u64 w A l.length l
  away : ∀ q, A = some q → q.block < w.heap.size ∧ ¬ q.block ∈ ids

theorem Stay.call {ids : List Nat} {w w' : World} {A : Option Addr} {l : List Int} (h : Stay ids w A l) (hF : Fr F0 w w') : Stay ids w' A l :=
  ⟨h.ints.kept hF.keep (fun _ _ h => h), fun q hq => ⟨Nat.lt_of_lt_of_le (h.away q hq).1 hF.size, (h.away q hq).2⟩⟩

theorem Stay.chg {ids : List Nat} {w w' : World} {A : Option Addr} {l : List Int} (h : Stay ids w A l) (hc : Chg ids w w') : Stay ids w' A l :=
  ⟨h.ints.kept hc.keep (fun q hq => (h.away q hq).2), fun q hq => ⟨Nat.lt_of_lt_of_le (h.away q hq).1 hc.size, (h.away q hq).2⟩⟩

theorem Stay.more {ids : List Nat} {w : World} {A : Option Addr} {l : List Int} (h : Stay ids w A l) {k : Nat} (hk : w.heap.size ≤ k) : Stay (ids ++ [k]) w A l :=
  ⟨h.ints, fun q hq => ⟨(h.away q hq).1, fun hm => by
    rcases List.mem_append.1 hm with hm | hm
    · exact (h.away q hq).2 hm
    · have := (h.away q hq).1
      rw [List.mem_singleton] at hm
      omega⟩⟩

theorem Mine.stay {N : Nat} {ids : List Nat} {w : World} {A : Option Addr} {l : List Int} (h : Mine N w A l) (hids : ∀ k ∈ ids, k < N) : Stay ids w A l :=
  ⟨h.ints, fun q hq => by
    rcases h with ⟨_, h⟩ | ⟨⟨_, b, r, hq', hB⟩, hN⟩
    · rw [hq] at h; cases h
    · refine ⟨?_, fun hm => ?_⟩
      · rw [hq] at hq'
        cases hq'
        exact hB.lt
      · have := hN q hq
        have := hids _ hm
        omega⟩

theorem begin_len {p : Pc} (hp : p.Typed) (x : Int) : (p.begin x).1.debts.length ≤ maxLen := by
  have := hp.len
  unfold Pc.begin
  split
  · split
    · exact this
    · exact this
  · exact Nat.zero_le _

theorem end_len {p : Pc} (hp : p.Typed) (x : Int) : (p.end_ x).1.debts.length ≤ maxLen := by
  have := hp.len
  unfold Pc.end_
  split
  · split
    · exact this
    · simpa [Pc.end1] using this
  · exact Nat.zero_le _

theorem alloc_len {p : Pc} (hp : p.Typed) (who x : Int) : (p.alloc who x).1.debts.length ≤ maxLen := by
  have := hp.len
  unfold Pc.alloc
  split
  · split
    · exact this
    · split
      · exact this
      · split
        · exact this
        · simpa [Pc.alloc1] using this
  · exact Nat.zero_le _

theorem work_len {p : Pc} (hp : p.Typed) (who : Int) (l : List Int) : (p.work who l).1.debts.length ≤ maxLen := by
  have := hp.len
  unfold Pc.work
  split
  · split
    · exact this
    · split
      · exact this
      · split
        · exact this
        · rw [(works_keep p who l).1]
          exact this
  · exact Nat.zero_le _

theorem PaceDoes_C (p : Pc) (hp : p.Typed) {A : Option Addr} {c : Nat} (n who words : Int) (hn : 0 ≤ n ∧ n < 18446744073709551616) (hw : 0 ≤ words ∧ words < 18446744073709551616) (w : World)
    (hl : Ints .u64 w A p.debts.length p.debts) {B : Option Addr} {m d : Nat} {l : List Int} (hB : Nums w B m l) :
    Ret Try.prog 4 #[p.val A p.debts.length c, .int .u64 n, .int .i64 who, .int .u64 words, .slice B m d] w fun v _ => v = .bool true := by
  refine besomlaw21_PaceDoes_W _ _ _ _ _ _ _ _ _ _ _ _ _ _ _ _ _ _ w _ ?_
  intro k0 hk0 _ w1 hc1 hF1 hlt1
  have old : ∀ {w'}, Fr F0 w w' → Ints .u64 w' A p.debts.length p.debts := fun hF => hl.kept hF.keep (fun _ _ h => h)
  have oldB : ∀ {w'}, Fr F0 w w' → Nums w' B m l := fun hF => ⟨hB.ints.kept hF.keep (fun _ _ h => h), hB.max, hB.typed⟩
  refine RetM.use (copy_C p hp.length w1 (old hF1)) fun v w4 hF4 hR => ?_
  obtain ⟨A1, c1, rfl, hrow, hN⟩ := hR
  have g := Mine.stay (.inr ⟨hrow, hN⟩) hlt1
  refine ⟨_, rfl, _, _, _, _, _, _, _, _, _, _, _, _, rfl, hF4.stp0 _ _, fun hF4' k18 hk18 _ w19 hc19 hF19 hlt19 => ?_⟩
  have g := (g.more hk18).chg hc19
  refine RetM.use (Begin_C p hp n hn w19 g.ints) fun v w22 hF22 hR => ?_
  obtain ⟨Aa, ca, rfl, hM⟩ := hR
  have a := hM.stay hlt19
  have g := g.call hF22
  refine ⟨_, rfl, _, _, _, _, _, _, _, _, _, _, _, _, _, rfl, hF22.stp0 _ _, fun hF22' k37 hk37 _ w38 hc38 hF38 hlt38 => ?_⟩
  have g := (g.more hk37).chg hc38
  have a := (a.more hk37).chg hc38
  refine RetM.use (rBegin_C p hp n hn w38 (old hF38)) fun v w41 hF41 hR => ?_
  obtain ⟨Ab, cb, rfl, hM⟩ := hR
  have b := hM.stay hlt38
  have g := g.call hF41
  have a := a.call hF41
  refine ⟨_, rfl, _, _, _, _, _, _, _, _, _, _, _, _, _, rfl, hF41.stp0 _ _, fun hF41' k56 hk56 _ w57 hc57 hF57 hlt57 => ?_⟩
  have g := (g.more hk56).chg hc57
  have a := (a.more hk56).chg hc57
  have b := (b.more hk56).chg hc57
  refine RetM.use (End_C p hp n w57 g.ints) fun v w60 hF60 hR => ?_
  obtain ⟨Ac, cc, rfl, hM⟩ := hR
  have c' := hM.stay hlt57
  have g := g.call hF60
  have a := a.call hF60
  have b := b.call hF60
  refine ⟨_, rfl, _, _, _, _, _, _, _, _, _, _, _, _, _, rfl, hF60.stp0 _ _, fun hF60' k75 hk75 _ w76 hc76 hF76 hlt76 => ?_⟩
  have g := (g.more hk75).chg hc76
  have a := (a.more hk75).chg hc76
  have b := (b.more hk75).chg hc76
  have c' := (c'.more hk75).chg hc76
  refine RetM.use (rEnd_C p hp n w76 (old hF76)) fun v w79 hF79 hR => ?_
  obtain ⟨Ad, cd, rfl, hM⟩ := hR
  have d' := hM.stay hlt76
  have g := g.call hF79
  have a := a.call hF79
  have b := b.call hF79
  have c' := c'.call hF79
  refine ⟨_, rfl, _, _, _, _, _, _, _, _, _, _, _, _, _, rfl, hF79.stp0 _ _, fun hF79' k94 hk94 _ w95 hc95 hF95 hlt95 => ?_⟩
  have g := (g.more hk94).chg hc95
  have a := (a.more hk94).chg hc95
  have b := (b.more hk94).chg hc95
  have c' := (c'.more hk94).chg hc95
  have d' := (d'.more hk94).chg hc95
  refine RetM.use (Alloc_C p hp who words hw w95 g.ints) fun v w98 hF98 hR => ?_
  obtain ⟨Ae, ce, rfl, hM⟩ := hR
  have e := hM.stay hlt95
  have g := g.call hF98
  have a := a.call hF98
  have b := b.call hF98
  have c' := c'.call hF98
  have d' := d'.call hF98
  refine ⟨_, rfl, _, _, _, _, _, _, _, _, _, _, _, _, _, _, rfl, hF98.stp0 _ _, fun hF98' k114 hk114 _ w115 hc115 hF115 hlt115 => ?_⟩
  have g := (g.more hk114).chg hc115
  have a := (a.more hk114).chg hc115
  have b := (b.more hk114).chg hc115
  have c' := (c'.more hk114).chg hc115
  have d' := (d'.more hk114).chg hc115
  have e := (e.more hk114).chg hc115
  refine RetM.use (rAlloc_C p hp who words hw w115 (old hF115)) fun v w118 hF118 hR => ?_
  obtain ⟨Af, cf, rfl, hM⟩ := hR
  have f := hM.stay hlt115
  have g := g.call hF118
  have a := a.call hF118
  have b := b.call hF118
  have c' := c'.call hF118
  have d' := d'.call hF118
  have e := e.call hF118
  refine ⟨_, rfl, _, _, _, _, _, _, _, _, _, _, _, _, _, _, rfl, hF118.stp0 _ _, fun hF118' k134 hk134 _ w135 hc135 hF135 hlt135 => ?_⟩
  have g := (g.more hk134).chg hc135
  have a := (a.more hk134).chg hc135
  have b := (b.more hk134).chg hc135
  have c' := (c'.more hk134).chg hc135
  have d' := (d'.more hk134).chg hc135
  have e := (e.more hk134).chg hc135
  have f := (f.more hk134).chg hc135
  refine RetM.use (Work_C p hp who w135 g.ints (oldB hF135)) fun v w138 hF138 hR => ?_
  obtain ⟨Ag, cg, rfl, hM⟩ := hR
  have s := hM.stay hlt135
  have g := g.call hF138
  have a := a.call hF138
  have b := b.call hF138
  have c' := c'.call hF138
  have d' := d'.call hF138
  have e := e.call hF138
  have f := f.call hF138
  refine ⟨_, rfl, _, _, _, _, _, _, _, _, _, _, _, _, _, rfl, hF138.stp0 _ _, fun hF138' k153 hk153 _ w154 hc154 hF154 hlt154 => ?_⟩
  have g := (g.more hk153).chg hc154
  have a := (a.more hk153).chg hc154
  have b := (b.more hk153).chg hc154
  have c' := (c'.more hk153).chg hc154
  have d' := (d'.more hk153).chg hc154
  have e := (e.more hk153).chg hc154
  have f := (f.more hk153).chg hc154
  have s := (s.more hk153).chg hc154
  refine RetM.use (rWork_C p hp who w154 (old hF154) (oldB hF154)) fun v w157 hF157 hR => ?_
  obtain ⟨Ah, ch, rfl, hM⟩ := hR
  have t := hM.stay hlt154
  refine ⟨_, rfl, _, _, _, _, _, _, _, _, _, _, _, _, _, rfl, hF157.stp0 _ _, fun hF157' k172 hk172 _ w173 hc173 hF173 hlt173 => ?_⟩
  have g := ((g.call hF157).more hk172).chg hc173
  have a := ((a.call hF157).more hk172).chg hc173
  have b := ((b.call hF157).more hk172).chg hc173
  have c' := ((c'.call hF157).more hk172).chg hc173
  have d' := ((d'.call hF157).more hk172).chg hc173
  have e := ((e.call hF157).more hk172).chg hc173
  have f := ((f.call hF157).more hk172).chg hc173
  have s := ((s.call hF157).more hk172).chg hc173
  have t := (t.more hk172).chg hc173
  refine RetM.use (lives_C w173) fun v w176 hF176 hR => ?_
  subst hR
  have on : ∀ {w'}, Fr F0 w173 w' → ∀ {A l}, Ints .u64 w173 A (List.length l) l → Ints .u64 w' A l.length l := fun hF _ _ h => h.kept hF.keep (fun _ _ h => h)
  refine ⟨_, rfl, _, rfl, hF176.stp0 _ _, fun hF176' _ J180 hJ180 => ⟨fun _ => ?_, fun h => by simp at h⟩⟩
  refine RetM.use (Same_C _ _ w176 (begin_len hp n) (on hF176 a.ints) (on hF176 b.ints)) fun v w220 hF220 hR => ?_
  subst hR
  rw [Pc.same_iff.2 rfl]
  refine ⟨_, rfl, _, rfl, hF220.stp0 _ _, hJ180 _ _ (hF176'.trans hF220) fun _ J184 hJ184 => ⟨fun _ => ?_, fun h => by simp at h⟩⟩
  have hG := hF176.trans hF220
  refine RetM.use (Same_C _ _ w220 (end_len hp n) (on hG c'.ints) (on hG d'.ints)) fun v w215 hF215 hR => ?_
  subst hR
  rw [Pc.same_iff.2 rfl]
  have hG := hG.trans hF215
  refine ⟨_, rfl, _, rfl, hF215.stp0 _ _, hJ184 _ _ (hF173.trans hG) fun _ J188 hJ188 => ⟨fun _ => ?_, fun h => by simp at h⟩⟩
  refine RetM.use (Same_C _ _ w215 (alloc_len hp who words) (on hG e.ints) (on hG f.ints)) fun v w210 hF210 hR => ?_
  subst hR
  rw [Pc.same_iff.2 rfl]
  have hG := hG.trans hF210
  refine ⟨_, rfl, _, rfl, hF210.stp0 _ _, hJ188 _ _ (hF173.trans hG) fun _ J192 hJ192 => ⟨fun _ => ?_, fun h => by simp at h⟩⟩
  refine RetM.use (Same_C _ _ w210 (work_len hp who l) (on hG s.ints) (on hG t.ints)) fun v w205 hF205 hR => ?_
  subst hR
  rw [Pc.same_iff.2 rfl]
  have hG := hG.trans hF205
  refine ⟨_, rfl, _, rfl, hF205.stp0 _ _, hJ192 _ _ (hF173.trans hG) fun _ J196 hJ196 => ⟨fun _ => ?_, fun h => by simp at h⟩⟩
  refine RetM.use (Same_C p p w205 hp.len (on hG g.ints) (old (hF173.trans hG))) fun v w200 hF200 hR => ?_
  subst hR
  rw [Pc.same_iff.2 rfl]
  refine ⟨_, rfl, _, rfl, hF200.stp0 _ _, hJ196 _ _ (hF173.trans (hG.trans hF200)) ?_⟩
  simp

end Go.Proofs.Ytfpmimnbocflpaa
