/- Laws: a pacer that is told is its asker's own. -/
import Derived.Test.YtfpmimnbocflpaaL2
namespace Go.Proofs.Ytfpmimnbocflpaa
open Go Go.Cw
set_option linter.unusedVariables false

/-- A literal of values of s cells each. -/
theorem semUpon_parts {P : Program} {w : World} {t e : TypeId} {i : TypeInfo} {z : Value} {s n : Nat} {R : Value → World → Prop} (hu : P.underlying t = some (.slice e)) (hi : P.info? e = some i) (hz : i.zero = some z) (hs : i.size = s) (h0 : 0 < s)
    (vs : List Value) (hv : ∀ v ∈ vs, v.cells.size = s) {parts : Array (Nat × Value)} (hp : parts.toList = (vs.zipIdx 0).map fun x => (x.2, x.1)) (hn : n = vs.length) (hn0 : 0 < n) (hsm : n * s ≤ 2 ^ 24)
    (hr : ∀ w', Fr F0 w w' → (∀ j v, vs[j]? = some v → ∀ m, m < s → w'.cell? ⟨w.heap.size, j * s + m, none⟩ = v.cells[m]?) → w.heap.size < w'.heap.size → R (.slice (some ⟨w.heap.size, 0, none⟩) n n) w') :
    semUpon P (Instr.buildSlice t n parts) w R := by
  subst hs
  obtain ⟨r, hf, hsz, hk⟩ := Great.fill_dense h0 vs 0 ((Array.range (n * i.size)).map (z.cells[· % z.cells.size]!)) hv (by simp [hn])
  have hrun := run_buildSlice (P := P) w t e n parts r i z hu hi hz (by omega) (by have := Nat.mul_pos hn0 h0; omega) (by rw [hp]; exact hf)
  unfold semUpon
  rw [hrun]
  have hh : (w.alloc (.cells r e)).heap = w.heap.push (.cells r e) := rfl
  refine hr _ (fr_alloc w _) (fun j v hj m hm => ?_) (by rw [hh]; simp)
  have hjn : j < vs.length := (List.getElem?_eq_some_iff.1 hj).1
  have hle : j * i.size + i.size ≤ vs.length * i.size := by
    have := Nat.mul_le_mul_right i.size (show j + 1 ≤ vs.length from hjn)
    rw [Nat.add_mul, Nat.one_mul] at this
    exact this
  unfold World.cell?
  have hkm := hk (j * i.size + m)
  rw [if_pos ⟨by simp, by rw [Nat.zero_add]; omega⟩] at hkm
  have hdiv : (j * i.size + m) / i.size = j := by rw [Nat.mul_comm, Nat.mul_add_div h0, Nat.div_eq_of_lt hm, Nat.add_zero]
  have hmod : (j * i.size + m) % i.size = m := by rw [Nat.mul_comm, Nat.mul_add_mod, Nat.mod_eq_of_lt hm]
  rw [hdiv, hmod, Nat.sub_zero, hj] at hkm
  simp only [hh, Array.getElem?_push_size]
  simpa using hkm

/-- Numbers of one's own, whatever they are. -/
def Has (lo : Nat) (w : World) (A : Option Addr) (n : Nat) : Prop :=
  n = 0 ∨ ∃ b cs, A = some ⟨b, 0, none⟩ ∧ lo ≤ b ∧ Box w b cs 22 ∧ n ≤ cs.length ∧ ∀ i, i < n → ∃ z, cs[i]? = some (.int .u64 z)

theorem Has.kept {lo : Nat} {w w' : World} {A : Option Addr} {n : Nat} {B : Nat → Prop} (h : Has lo w A n) (hk : Keep B w w') (hb : ∀ p, A = some p → ¬ B p.block) : Has lo w' A n := by
  rcases h with h | ⟨b, cs, rfl, hl, hB, h1, h2⟩
  · exact .inl h
  · exact .inr ⟨b, cs, rfl, hl, hB.kept hk (hb _ rfl), h1, h2⟩

theorem Box.same {w : World} {b : Nat} {cs cs' : List Value} {t t' : TypeId} (h : Box w b cs t) (h' : Box w b cs' t') : cs = cs' := by
  unfold Box at h h'
  rw [h] at h'
  injection h' with h'
  injection h' with h' _
  simpa using h'

theorem Has.upd {lo : Nat} {w w' : World} {A : Option Addr} {n b i : Nat} {cs : List Value} {z : Int} (h : Has lo w A n) (hB : Box w b cs 22) (hi : i + 1 ≤ cs.length)
    (hu : Upd w b (List.append (List.append (List.take i cs) [.int .u64 z]) (List.drop (i + 1) cs)) 22 w') : Has lo w' A n := by
  rcases h with h | ⟨b', cs', rfl, hl, hB', h1, h2⟩
  · exact .inl h
  · by_cases hb : b' = b
    · subst hb
      obtain rfl := Box.same hB hB'
      have hcs : List.append (List.append (List.take i cs) [.int .u64 z]) (List.drop (i + 1) cs) = cs.set i (.int .u64 z) := by
        show (List.take i cs ++ [.int .u64 z]) ++ List.drop (i + 1) cs = _
        rw [List.set_eq_take_append_cons_drop, if_pos (by omega), List.append_assoc]
        rfl
      have hbox := hu.box
      rw [hcs] at hbox
      refine .inr ⟨b', _, rfl, hl, hbox, by simpa using h1, fun j hj => ?_⟩
      rw [List.getElem?_set]
      by_cases hij : i = j
      · subst hij
        exact ⟨z, by simp; omega⟩
      · rw [if_neg hij]
        exact h2 j hj
    · exact .inr ⟨b', cs', rfl, hl, hB'.kept hu.keep hb, h1, h2⟩

theorem Mine.has {N : Nat} {w : World} {A : Option Addr} {l : List Int} (h : Mine N w A l) : Has N w A l.length := by
  rcases h with ⟨rfl, _⟩ | ⟨⟨_, b, r, rfl, hB⟩, hN⟩
  · exact .inl rfl
  · refine .inr ⟨b, _, rfl, hN _ rfl, hB, by simp, fun i hi => ⟨l[i], ?_⟩⟩
    rw [List.getElem?_append_left (by simpa using hi), List.getElem?_map, List.getElem?_eq_getElem hi]
    rfl

theorem Has.mono {lo lo' : Nat} {w : World} {A : Option Addr} {n : Nat} (h : Has lo w A n) (hl : lo' ≤ lo) : Has lo' w A n := by
  rcases h with h | ⟨b, cs, rfl, h0, hB, h1, h2⟩
  · exact .inl h
  · exact .inr ⟨b, cs, rfl, Nat.le_trans hl h0, hB, h1, h2⟩

/-- A pacer of one's own, apart from the blocks of ids. -/
structure Own (lo : Nat) (ids : List Nat) (w : World) (A : Option Addr) (n : Nat) : Prop where
  has : Has lo w A n
  away : ∀ q, A = some q → q.block < w.heap.size ∧ ¬ q.block ∈ ids

theorem Own.call {lo : Nat} {ids : List Nat} {w w' : World} {A : Option Addr} {n : Nat} (h : Own lo ids w A n) (hF : Fr F0 w w') : Own lo ids w' A n :=
  ⟨h.has.kept hF.keep (fun _ _ h => h), fun q hq => ⟨Nat.lt_of_lt_of_le (h.away q hq).1 hF.size, (h.away q hq).2⟩⟩

theorem Own.chg {lo : Nat} {ids : List Nat} {w w' : World} {A : Option Addr} {n : Nat} (h : Own lo ids w A n) (hc : Chg ids w w') : Own lo ids w' A n :=
  ⟨h.has.kept hc.keep (fun q hq => (h.away q hq).2), fun q hq => ⟨Nat.lt_of_lt_of_le (h.away q hq).1 hc.size, (h.away q hq).2⟩⟩

theorem Own.more {lo : Nat} {ids : List Nat} {w : World} {A : Option Addr} {n : Nat} (h : Own lo ids w A n) {k : Nat} (hk : w.heap.size ≤ k) : Own lo (ids ++ [k]) w A n :=
  ⟨h.has, fun q hq => ⟨(h.away q hq).1, fun hm => by
    rcases List.mem_append.1 hm with hm | hm
    · exact (h.away q hq).2 hm
    · have := (h.away q hq).1
      rw [List.mem_singleton] at hm
      omega⟩⟩

theorem Mine.own {N lo : Nat} {ids : List Nat} {w : World} {A : Option Addr} {l : List Int} (h : Mine N w A l) (hl : lo ≤ N) (hids : ∀ k ∈ ids, k < N) : Own lo ids w A l.length :=
  ⟨h.has.mono hl, (h.stay hids).away⟩

theorem PaceOwn_C (p : Pc) (hp : p.Typed) {A : Option Addr} {c : Nat} (who x : Int) (hx : 0 ≤ x ∧ x < 18446744073709551616) (w : World) (hl : Ints .u64 w A p.debts.length p.debts) :
    Ret Try.prog 8 #[p.val A p.debts.length c, .int .i64 who, .int .u64 x] w fun v _ => v = .bool true := by
  refine besomlaw21_PaceOwn_W _ _ _ _ _ _ _ _ _ _ _ _ _ _ w _ ?_
  intro k0 hk0 _ w1 hc1 hF1 hlt1
  have old : ∀ {w'}, Fr F0 w w' → Ints .u64 w' A p.debts.length p.debts := fun hF => hl.kept hF.keep (fun _ _ h => h)
  refine RetM.use (lives_C w1) fun v w4 hF4 hR => ?_
  subst hR
  refine ⟨_, rfl, _, rfl, hF4.stp0 _ _, fun hF4' => ⟨fun h => (by cases h), fun _ hlt4 => ?_⟩⟩
  refine RetM.use (copy_C p hp.length w4 (old hF4')) fun v w9 hF9 hR => ?_
  obtain ⟨A20, c22, rfl, hrow, hN⟩ := hR
  have g := Mine.stay (.inr ⟨hrow, hN⟩) hlt4
  refine ⟨_, rfl, _, _, _, _, _, _, _, _, _, _, _, _, rfl, hF9.stp0 _ _, fun hF9' k23 hk23 _ w24 hc24 hF24 hlt24 => ?_⟩
  have g := (g.more hk23).chg hc24
  have hg := fun q hq => (g.away q hq).1
  have hs24 := hF24.size
  refine RetM.use (Alloc_C p hp who x hx w24 (old hF24)) fun v w27 hF27 hR => ?_
  have hla := alloc_len hp who x
  generalize p.alloc who x = ra at hR hla
  obtain ⟨Aa, ca, rfl, hM⟩ := hR
  have a := hM.own (Nat.le_refl _) hlt24
  have g := g.call hF27
  refine ⟨_, rfl, _, _, _, _, _, _, _, _, _, _, _, _, _, _, rfl, hF27.stp0 _ _, fun hF27' k43 hk43 _ w44 hc44 hF44 hlt44 => ?_⟩
  have g := (g.more hk43).chg hc44
  have a := (a.more hk43).chg hc44
  refine semUpon_build intT [x] rfl rfl (by decide) fun w47 hF47 hr47 hs47 => ?_
  have g := g.call hF47
  have a := a.call hF47
  refine ⟨_, _, _, rfl, hF47.stp0 _ _, fun hF47' hlt47 => ?_⟩
  refine RetM.use (Work_C p hp who w47 (old hF47') ⟨hr47.ints, by decide, fun d hd => (List.mem_singleton.1 hd) ▸ hx⟩) fun v w53 hF53 hR => ?_
  have hlb := work_len hp who [x]
  generalize p.work who [x] = rb at hR hlb
  obtain ⟨Ab, cb, rfl, hM⟩ := hR
  have hs1 := hF27.size
  have hs2 := hc44.size
  have b := hM.own (lo := w24.heap.size) (by omega) hlt47
  have g := g.call hF53
  have a := a.call hF53
  refine ⟨_, rfl, _, _, _, _, _, _, _, _, _, _, _, _, _, rfl, hF53.stp0 _ _, fun hF53' k68 hk68 _ w69 hc69 hF69 hlt69 => ?_⟩
  have g := (g.more hk68).chg hc69
  have a := (a.more hk68).chg hc69
  have b := (b.more hk68).chg hc69
  refine RetM.use (Begin_C p hp x hx w69 (old hF69)) fun v w72 hF72 hR => ?_
  have hlc := begin_len hp x
  generalize p.begin x = rc at hR hlc
  obtain ⟨Ac, cc, rfl, hM⟩ := hR
  have hs3 := hF53.size
  have hs4 := hc69.size
  have c' := hM.own (lo := w24.heap.size) (by omega) hlt69
  have g := g.call hF72
  have a := a.call hF72
  have b := b.call hF72
  refine ⟨_, rfl, _, _, _, _, _, _, _, _, _, _, _, _, _, rfl, hF72.stp0 _ _, fun hF72' k87 hk87 _ w88 hc88 hF88 hlt88 => ?_⟩
  have g := (g.more hk87).chg hc88
  have a := (a.more hk87).chg hc88
  have b := (b.more hk87).chg hc88
  have c' := (c'.more hk87).chg hc88
  let L : List (Pc × Option Addr × Nat) := [(ra.1, Aa, ca), (rb.1, Ab, cb), (rc.1, Ac, cc)]
  have hL : ∀ y ∈ L, Own w24.heap.size [k0, k23, k43, k68, k87] w88 y.2.1 y.1.debts.length ∧ y.1.debts.length ≤ maxLen := by
    intro y hy
    rcases List.mem_cons.1 hy with rfl | hy
    · exact ⟨a, hla⟩
    · rcases List.mem_cons.1 hy with rfl | hy
      · exact ⟨b, hlb⟩
      · rw [List.mem_singleton] at hy
        subst hy
        exact ⟨c', hlc⟩
  obtain ⟨i25, hi25, hz25, hs25⟩ : ∃ i, Try.prog.info? 25 = some i ∧ (∃ z, i.zero = some z) ∧ i.size = 10 := ⟨_, rfl, ⟨_, rfl⟩, rfl⟩
  obtain ⟨z25, hz25⟩ := hz25
  have hids : ∀ k ∈ [k0, k23, k43, k68, k87], k < w88.heap.size := hlt88
  refine semUpon_parts (P := Try.prog) (t := 49) (e := 25) (i := i25) (z := z25) (s := 10) Try.underlying49 hi25 hz25 hs25 (by decide) (L.map fun y => y.1.val y.2.1 y.1.debts.length y.2.2) ?_ rfl rfl (by decide) (by decide) fun w91 hF91 hcells hs91 => ?_
  · intro v hv
    obtain ⟨y, _, rfl⟩ := List.mem_map.1 hv
    rfl
  have g := g.call hF91
  refine ⟨_, _, _, rfl, hF91.stp0 _ _, fun hF91' J95 hJ95 => ?_⟩
  -- what holds throughout
  let Inv : World → Prop := fun w' => Stay [k0, k23, k43, k68, k87] w' A20 p.debts ∧ (∀ y ∈ L, Has w24.heap.size w' y.2.1 y.1.debts.length) ∧
    (∀ (j : Nat) (v : Value), (L.map fun y => y.1.val y.2.1 y.1.debts.length y.2.2)[j]? = some v → ∀ m, m < 10 → w'.cell? ⟨w88.heap.size, j * 10 + m, none⟩ = v.cells[m]?) ∧ w91.heap.size ≤ w'.heap.size
  have hInv : Inv w91 := ⟨g, fun y hy => ((hL y hy).1.call hF91).has, hcells, Nat.le_refl _⟩
  have cellsKept : ∀ {w' w'' : World} {B : Nat → Prop}, Keep B w' w'' → ¬ B w88.heap.size → (∀ (j : Nat) (v : Value), (L.map fun y => y.1.val y.2.1 y.1.debts.length y.2.2)[j]? = some v → ∀ m, m < 10 → w'.cell? ⟨w88.heap.size, j * 10 + m, none⟩ = v.cells[m]?) →
      (∀ (j : Nat) (v : Value), (L.map fun y => y.1.val y.2.1 y.1.debts.length y.2.2)[j]? = some v → ∀ m, m < 10 → w''.cell? ⟨w88.heap.size, j * 10 + m, none⟩ = v.cells[m]?) := by
    intro w' w'' B hk hb h j v hj m hm
    have h1 := h j v hj m hm
    obtain ⟨y, _, rfl⟩ := List.mem_map.1 (List.mem_of_getElem? hj)
    have hsz : m < ((Pc.val y.1 y.2.1 y.1.debts.length y.2.2).cells).size := hm
    rw [Array.getElem?_eq_getElem hsz] at h1 ⊢
    exact cell_kept h1 hk hb
  refine ⟨fun vs w' => ∃ j : Nat, vs = [.int .i64 j] ∧ j ≤ 3 ∧ Inv w', fun vs _ => match vs with | [.int _ j] => 3 - j.toNat | _ => 0, ⟨0, rfl, by decide, hInv⟩, ?_⟩
  rintro m104 w105 hF105 ⟨j, hvs, hj, hI⟩
  obtain rfl : m104 = j := by simpa using hvs
  refine ⟨fun h => ?_, fun h => hJ95 w105 hF105 fun hlt105 => ?_⟩
  · have h := of_decide_eq_true h
    have hj3 : j < 3 := by
      have h3 : (j : Int) < 3 := by simpa using h
      omega
    obtain ⟨y, hy⟩ : ∃ y, L[j]? = some y := ⟨L[j], List.getElem?_eq_getElem hj3⟩
    have hyL : y ∈ L := List.mem_of_getElem? hy
    have hmap : (L.map fun y => y.1.val y.2.1 y.1.debts.length y.2.2)[j]? = some (y.1.val y.2.1 y.1.debts.length y.2.2) := by
      rw [List.getElem?_map, hy]; rfl
    obtain ⟨hOy, hlen⟩ := hL y hyL
    refine ⟨⟨by omega, h, rfl⟩, y.1.percent, y.1.least, y.1.live, y.1.on, y.1.est, y.1.room, y.1.credit, y.1.done, y.1.made, y.2.1, y.1.debts.length, y.2.2, ⟨_, rfl, fun m hm => ?_⟩, ?_⟩
    · rw [add_none, add_none, Nat.zero_add]
      have := hI.2.2.1 j _ hmap m hm
      rw [Int.toNat_natCast, this]
      exact List.getElem?_toArray
    intro k118 hk118 hkn J119 hJ119
    have hs105 := hI.2.2.2
    have hInv118 : ∀ {w' w'' : World}, Inv w' → w105.heap.size ≤ w'.heap.size → Chg [k0, k23, k43, k68, k87, k118] w' w'' → Inv w'' := by
      rintro w' w'' ⟨h1, h2, h3, h4⟩ hw hc
      have hne : ¬ w88.heap.size ∈ [k0, k23, k43, k68, k87, k118] := by
        intro hm
        rcases List.mem_append.1 (show w88.heap.size ∈ [k0, k23, k43, k68, k87] ++ [k118] from hm) with hm | hm
        · exact Nat.lt_irrefl _ (hids _ hm)
        · rw [List.mem_singleton] at hm
          omega
      have hAw : ∀ q, A20 = some q → ¬ q.block ∈ [k0, k23, k43, k68, k87, k118] := by
        intro q hq hm
        rcases List.mem_append.1 (show q.block ∈ [k0, k23, k43, k68, k87] ++ [k118] from hm) with hm | hm
        · exact (h1.away q hq).2 hm
        · rw [List.mem_singleton] at hm
          have := (g.away q hq).1
          omega
      refine ⟨⟨h1.ints.kept hc.keep hAw, fun q hq => ⟨Nat.lt_of_lt_of_le (h1.away q hq).1 hc.size, (h1.away q hq).2⟩⟩, fun y hy => (h2 y hy).kept hc.keep fun q hq hm => ?_, cellsKept hc.keep hne h3, Nat.le_trans h4 hc.size⟩
      rcases List.mem_append.1 (show q.block ∈ [k0, k23, k43, k68, k87] ++ [k118] from hm) with hm | hm
      · exact ((hL y hy).1.away q hq).2 hm
      · rw [List.mem_singleton] at hm
        have := ((hL y hy).1.away q hq).1
        omega
    refine ⟨fun vs w' => ∃ i : Nat, vs = [.int .i64 i] ∧ i ≤ y.1.debts.length ∧ Inv w' ∧ w105.heap.size ≤ w'.heap.size, fun vs _ => match vs with | [.int _ i] => y.1.debts.length - i.toNat | _ => 0, fun w123 hc123 hF123 => ⟨0, rfl, Nat.zero_le _, hInv118 hI (Nat.le_refl _) hc123, hc123.size⟩, ?_⟩
    rintro m124 w125 hF125 ⟨i, hvs, hi, hI, hs125⟩
    obtain rfl : m124 = i := by simpa using hvs
    refine ⟨fun h => ?_, fun h => hJ119 w125 hF125 ⟨⟨j + 1, ?_, by omega, hI⟩, ?_⟩⟩
    · have h := of_decide_eq_true h
      have hin : i < y.1.debts.length := by omega
      rcases hI.2.1 y hyL with h0 | ⟨b, cs, hA, hlo, hB, hcs, hint⟩
      · omega
      · obtain ⟨z, hz⟩ := hint i hin
        have hsome : (y.2.1).isSome = true := by rw [hA]; rfl
        have hbw := (hOy.away _ hA).1
        have hbi := (hOy.away _ hA).2
        refine ⟨⟨by omega, h, hsome⟩, z, ?_, ⟨by omega, h, hsome⟩, b, i, cs, 22, ?_, hB, by omega, .inl (by omega), ?_, fun w131 hu131 hF131 => ⟨⟨i + 1, ?_, by omega, ⟨⟨?_, ?_⟩, fun y' hy' => (hI.2.1 y' hy').upd hB (by omega) hu131, cellsKept hu131.keep ?_ hI.2.2.1, ?_⟩, ?_⟩, ?_⟩⟩
        · rw [hA]
          exact ⟨_, rfl, fun m hm => by
            obtain rfl : m = 0 := by simpa using hm
            rw [add_none, add_none, Nat.zero_add]
            simpa using hB.cell hz⟩
        · rw [hA]
          simp [offA, add_none]
        · intro hm
          rcases List.mem_append.1 (show b ∈ [k0, k23, k43, k68, k87] ++ [k118] from hm) with hm | hm
          · exact hbi hm
          · rw [List.mem_singleton] at hm
            simp only at hbw
            omega
        · rw [wrap_succ hin hlen]
        · refine hI.1.ints.kept hu131.keep fun q hq hb' => ?_
          have := hg q hq
          omega
        · intro q hq
          rw [hu131.size]
          exact hI.1.away q hq
        · simp only at hbw
          omega
        · rw [hu131.size]
          exact hI.2.2.2
        · rw [hu131.size]
          exact hs125
        · rw [wrap_succ hin hlen]
          show y.1.debts.length - ((i + 1 : Nat) : Int).toNat < y.1.debts.length - ((i : Nat) : Int).toNat
          omega
    · rw [wrap_succ (n := 3) hj3 (by unfold maxLen; omega)]
    · rw [wrap_succ (n := 3) hj3 (by unfold maxLen; omega)]
      show 3 - ((j + 1 : Nat) : Int).toNat < 3 - ((j : Nat) : Int).toNat
      omega
  · refine RetM.use (Same_C p p w105 hp.len (old hF105) hI.1.ints) fun v w99 hF99 hR => ?_
    subst hR
    rw [Pc.same_iff.2 rfl]
    exact ⟨_, rfl, _, rfl, hF99.stp0 _ _, fun _ => rfl⟩

end Go.Proofs.Ytfpmimnbocflpaa
