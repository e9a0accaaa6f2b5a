/- The engine's words are sound, the third part: a quiet operation yields what is told. -/
import Derived.Test.YtfpmimnbocflpaaCwS2
namespace Go.Cw
open Go

/-- What stays of a state behind a quiet operation: all but marks. -/
structure Like (st st' : St) : Prop where
  env : st'.env = st.env
  ctr : st'.ctr = st.ctr
  dirty : st'.dirty = st.dirty
  pins : st'.pins = st.pins
  bx : SameBx st'.bx st.bx

theorem Like.refl (st : St) : Like st st := ⟨rfl, rfl, rfl, rfl, rfl⟩
theorem Like.escs (st : St) (T : List (Nat × Bool)) (xs : List Operand) : Like st (st.escs T xs) :=
  let ⟨h1, h2, h3, h4, h5⟩ := escs_same T xs st; ⟨h1, h2, h3, h4, h5⟩
theorem Like.esc1 (st : St) (cv : CV) : Like st (st.esc1 cv) := ⟨esc1_env _ _, esc1_ctr _ _, esc1_dirty _ _, esc1_pins _ _, esc1_bx _ _⟩
theorem Like.trans {a b c : St} (h : Like a b) (k : Like b c) : Like a c :=
  ⟨k.env.trans h.env, k.ctr.trans h.ctr, k.dirty.trans h.dirty, k.pins.trans h.pins, Eq.trans k.bx h.bx⟩

/-- What a quiet operation's run comes to. -/
def Yl (P : Program) (a : Act) (o : Oper) (st : St) (cv : CV) (w : World) : Prop :=
  (execOp a.eval o).run P w = .ok (.value (st.den cv)) w ∧ CvOk st cv

section
variable {P : Program} {ops : Array Oper} {st st' : St} {T : List (Nat × Bool)} {o : Oper} {p : Option Prop} {cv : CV} {a : Act}

theorem q_generic (hq : (if isPure o && st.can T (semOpnds o) then
      match semOf (st.rho T) o with
      | some s =>
        match pureOf P s with
        | some v => some (none, .v v, st.escs T (semOpnds o))
        | none => none
      | none => none
    else none) = some (p, cv, st')) (hE : EnvOk (Gd ops a) st a) (hT : Gd ops a T) (w : World) : Yl P a o st cv w ∧ Like st st' := by
  split at hq
  · rename_i hc
    simp only [Bool.and_eq_true] at hc
    split at hq
    · rename_i s hs
      split at hq
      · rename_i v hv
        simp only [Option.some.injEq, Prod.mk.injEq] at hq
        obtain ⟨_, rfl, rfl⟩ := hq
        obtain ⟨h1, h2⟩ := semOpnds_mem hs
        refine ⟨⟨?_, trivial⟩, Like.escs _ _ _⟩
        rw [execOp_congr o h1 (fun x hx => eval_rho hE hT hc.2 x (h2 x hx)), semOf_run hs, pureOf_run hv]
        rfl
      · cases hq
    · cases hq
  · cases hq

theorem eqIn_slice (d : Nat) {t e : TypeId} {A p : Option Addr} {n c q r : Nat} (hu : P.underlying t = some (.slice e)) (hp : p = none) (w : World) :
    (Op.equalIn (d + 1) t (.slice A n c) (.slice p q r)).run P w = .ok (!A.isSome) w := by
  subst hp
  cases A <;> simp [Op.equalIn, run_underlying hu]

theorem eqIn_pointer (d : Nat) {t e : TypeId} {A p : Option Addr} (hu : P.underlying t = some (.pointer e)) (hp : p = none) (w : World) :
    (Op.equalIn (d + 1) t (.pointer A) (.pointer p)).run P w = .ok (!A.isSome) w := by
  subst hp
  cases A <;> simp [Op.equalIn, run_underlying hu]

theorem eqG_slice (op : BinOp) (x y : Operand) (t : TypeId) {A p : Option Addr} {n c q r : Nat} (w : World) : (eqGuard op t x y (.slice A n c) (.slice p q r)).run P w = .ok () w := by
  simp only [eqGuard]; split <;> rfl

theorem eqG_pointer (op : BinOp) (x y : Operand) (t : TypeId) {A p : Option Addr} (w : World) : (eqGuard op t x y (.pointer A) (.pointer p)).run P w = .ok () w := by
  simp only [eqGuard]; split <;> rfl

theorem isNilB_run {t : TypeId} {x : Operand} {v : Value} {b : Bool} (h : isNilB P st T t x v = some b) (hE : EnvOk (Gd ops a) st a) (hT : Gd ops a T) (w : World) :
    (Op.equal t (a.eval x) v).run P w = .ok b w ∧ (∀ op xo yo, (eqGuard op t xo yo (a.eval x) v).run P w = .ok () w) ∧ (binOp .eql t (a.eval x) v = do pure (.bool (← Op.equal t (a.eval x) v))) ∧ (binOp .neq t (a.eval x) v = do pure (.bool (!(← Op.equal t (a.eval x) v)))) := by
  have key : ∀ {y z : Value}, (Op.equalIn (9999 + 1) t y z).run P w = (Op.equal t y z).run P w := fun {_ _} => rfl
  unfold isNilB at h
  split at h
  · split at h
    · rename_i e A n c hu hx
      obtain ⟨h1, _⟩ := rd_sound hE hT hx
      obtain rfl := Option.some.inj h
      have h1' : a.eval x = .slice A n c := h1
      rw [h1', ← key]
      exact ⟨eqIn_slice 9999 hu rfl w, fun op xo yo => eqG_slice op xo yo t w, rfl, rfl⟩
    · cases h
  · split at h
    · rename_i e A hu hx
      obtain ⟨h1, _⟩ := rd_sound hE hT hx
      obtain rfl := Option.some.inj h
      have h1' : a.eval x = .pointer A := h1
      rw [h1', ← key]
      exact ⟨eqIn_pointer 9999 hu rfl w, fun op xo yo => eqG_pointer op xo yo t w, rfl, rfl⟩
    · rename_i e k off hu hx
      obtain ⟨h1, _⟩ := rd_sound hE hT hx
      obtain rfl := Option.some.inj h
      rw [h1, ← key]
      exact ⟨eqIn_pointer 9999 hu rfl w, fun op xo yo => eqG_pointer op xo yo t w, rfl, rfl⟩
    · rename_i e A j hu hx
      obtain ⟨h1, h2⟩ := rd_sound hE hT hx
      obtain rfl := Option.some.inj h
      obtain ⟨q, rfl⟩ := Option.isSome_iff_exists.1 h2
      rw [h1, ← key]
      exact ⟨eqIn_pointer 9999 hu rfl w, fun op xo yo => eqG_pointer op xo yo t w, rfl, rfl⟩
    · cases h
  · cases h

theorem nilCmp_run {b : Bool} (h : nilCmp P st T o = some b) (hE : EnvOk (Gd ops a) st a) (hT : Gd ops a T) (w : World) : (execOp a.eval o).run P w = .ok (.value (.bool b)) w := by
  unfold nilCmp at h
  split at h
  · rename_i t x v t' hop
    obtain ⟨h1, h2, h3, _⟩ := isNilB_run h hE hT w
    simp only [execOp, hop]
    rw [show a.eval (.const v) = v from rfl]
    simp only [Sem.run_bind, h2, Result.andThen_ok, h3, h1, Sem.run_pure]
  · rename_i t x v t' hop
    split at h
    · rename_i b' hb
      obtain rfl := Option.some.inj h
      obtain ⟨h1, h2, _, h3⟩ := isNilB_run hb hE hT w
      simp only [execOp, hop]
      rw [show a.eval (.const v) = v from rfl]
      simp only [Sem.run_bind, h2, Result.andThen_ok, h3, h1, Sem.run_pure]
    · cases h
  · cases h

theorem sureAddr_run (A : Addr) (w : World) : (Instr.sureAddr (.pointer (some A))).run P w = .ok A w := rfl

theorem addr_add (b i j : Nat) : (⟨b, i, none⟩ : Addr).add j = ⟨b, i + j, none⟩ := by
  unfold Addr.add; split
  · rename_i h; subst h; rfl
  · rfl

theorem quiet_sound (hq : quietOp P ops st T o = some (p, cv, st')) (hE : EnvOk (Gd ops a) st a) (hT : Gd ops a T) (hp : ∀ q, p = some q → q) (w : World) (hB : isLoad o = true → Boxes st w) :
    Yl P a o st cv w ∧ Like st st' := by
  unfold quietOp at hq
  split at hq
  -- move
  · rename_i x hop
    obtain ⟨c, hc, he⟩ := Option.map_eq_some_iff.1 hq
    simp only [Prod.mk.injEq] at he
    obtain ⟨_, rfl, rfl⟩ := he
    obtain ⟨h1, h2⟩ := rd_sound hE hT hc
    exact ⟨⟨by simp [execOp, hop, h1], h2⟩, .refl _⟩
  -- assign
  · rename_i x hop
    obtain ⟨c, hc, he⟩ := Option.map_eq_some_iff.1 hq
    simp only [Prod.mk.injEq] at he
    obtain ⟨_, rfl, rfl⟩ := he
    obtain ⟨h1, h2⟩ := rd_sound hE hT hc
    exact ⟨⟨by simp [execOp, hop, h1], h2⟩, .refl _⟩
  -- pick
  · rename_i c x y hop
    split at hq
    · rename_i d
      split at hq
      · rename_i j cb hj hcb
        have hd := opIdx_spec hj
        obtain ⟨hc1, _⟩ := rd_sound hE hT hcb
        have hsome : ∀ (b : Bool), cb = b → Gd ops a ((j, b) :: T) := by
          intro b hb z hz
          rcases List.mem_cons.1 hz with rfl | hz
          · refine yielded_tmp hd ?_
            have : a.eval (.tmp d) = .bool cb := hc1
            simp only [Act.eval, Array.getD_eq_getD_getElem?] at this
            cases hx : a.tmps[d]? with
            | none => simp [hx, undef] at this
            | some v => simp only [hx, Option.getD_some] at this; rw [this, hb]
          · exact hT z hz
        have hrun : (execOp a.eval o).run P w = .ok (.value (if cb then a.eval x else a.eval y)) w := by
          simp only [execOp, hop, hc1, St.den, asBool, Sem.run_bind, Sem.run_pure, Result.andThen_ok]
        split at hq
        · rename_i bx bY hx hy
          simp only [Option.some.injEq, Prod.mk.injEq] at hq
          obtain ⟨_, rfl, rfl⟩ := hq
          refine ⟨⟨?_, trivial⟩, .refl _⟩
          rw [hrun]
          cases cb with
          | true => simp only [if_true, (rd_sound hE (hsome true rfl) hx).1]; rfl
          | false => simp only [Bool.false_eq_true, if_false, (rd_sound hE (hsome false rfl) hy).1]; rfl
        · rename_i k bx k' bY hx hy
          split at hq
          · rename_i hk
            subst hk
            simp only [Option.some.injEq, Prod.mk.injEq] at hq
            obtain ⟨_, rfl, rfl⟩ := hq
            refine ⟨⟨?_, trivial⟩, .refl _⟩
            rw [hrun]
            cases cb with
            | true => simp only [if_true, (rd_sound hE (hsome true rfl) hx).1]; rfl
            | false => simp only [Bool.false_eq_true, if_false, (rd_sound hE (hsome false rfl) hy).1]; rfl
          · cases hq
        · cases hq
      · cases hq
    · cases hq
  -- nilCheck
  · rename_i x hop
    split at hq
    · rename_i k off hx
      simp only [Option.some.injEq, Prod.mk.injEq] at hq
      obtain ⟨_, rfl, rfl⟩ := hq
      obtain ⟨h1, h2⟩ := rd_sound hE hT hx
      exact ⟨⟨by simp only [execOp, hop, h1, St.den]; rfl, h2⟩, .refl _⟩
    · rename_i A j hx
      simp only [Option.some.injEq, Prod.mk.injEq] at hq
      obtain ⟨_, rfl, rfl⟩ := hq
      obtain ⟨h1, h2⟩ := rd_sound hE hT hx
      refine ⟨⟨?_, h2⟩, .refl _⟩
      obtain ⟨q, rfl⟩ := Option.isSome_iff_exists.1 h2
      simp only [execOp, hop, h1, St.den, offA_some]; rfl
    · rename_i A hx
      simp only [Option.some.injEq, Prod.mk.injEq] at hq
      obtain ⟨rfl, rfl, rfl⟩ := hq
      have hA := hp _ rfl
      obtain ⟨h1, h2⟩ := rd_sound hE hT hx
      refine ⟨⟨?_, hA⟩, .refl _⟩
      obtain ⟨q, rfl⟩ := Option.isSome_iff_exists.1 hA
      simp only [execOp, hop, h1, St.den, offA_some]; rfl
    · rename_i f x1 x2 hx
      simp only [Option.some.injEq, Prod.mk.injEq] at hq
      obtain ⟨_, rfl, rfl⟩ := hq
      obtain ⟨h1, h2⟩ := rd_sound hE hT hx
      exact ⟨⟨by simp only [execOp, hop, h1, St.den]; rfl, trivial⟩, .refl _⟩
    · cases hq
  -- fieldAddr
  · rename_i s x f hop
    split at hq
    · rename_i off k off0 hoff hx
      simp only [Option.some.injEq, Prod.mk.injEq] at hq
      obtain ⟨_, rfl, rfl⟩ := hq
      obtain ⟨h1, h2⟩ := rd_sound hE hT hx
      refine ⟨⟨?_, h2⟩, .refl _⟩
      simp only [execOp, hop, h1, St.den, Sem.run_bind, fieldAt_run hoff, Result.andThen_ok, Sem.run_pure, addr_add]
    · rename_i off A j hoff hx
      simp only [Option.some.injEq, Prod.mk.injEq] at hq
      obtain ⟨_, rfl, rfl⟩ := hq
      obtain ⟨h1, h2⟩ := rd_sound hE hT hx
      refine ⟨⟨?_, h2⟩, .refl _⟩
      obtain ⟨q, rfl⟩ := Option.isSome_iff_exists.1 h2
      simp only [execOp, hop, h1, St.den, offA_some, Sem.run_bind, fieldAt_run hoff, Result.andThen_ok, Sem.run_pure, add_add]
    · cases hq
  -- load
  · rename_i t x hop
    have hB := hB (by simp [isLoad, hop])
    split at hq
    · rename_i k off hx
      split at hq
      · rename_i b d hb hd
        obtain ⟨h1, h2⟩ := rd_sound hE hT hx
        have hid : st.idAt k = b.id := by simp [St.idAt, hb]
        have hbox := hB b (List.mem_of_getElem? hb)
        dsimp only at hq
        split at hq
        · rename_i hl
          have hvs : ((b.cs.map (·.1)).drop off).take (P.cellsOf t) = List.map (fun x => x.1) (List.take (P.cellsOf t) (List.drop off b.cs)) := by simp
          have hld := loadCells_box (P := P) hbox off (P.cellsOf t) _ hvs hl
          obtain ⟨i, hi, hsz⟩ := underlying_info hd
          split at hq
          · rename_i hag
            simp only [Option.some.injEq, Prod.mk.injEq] at hq
            obtain ⟨_, rfl, rfl⟩ := hq
            refine ⟨⟨?_, trivial⟩, .refl _⟩
            simp only [execOp, hop, h1, St.den, hid, Instr.loadAt, Sem.run_bind, sureAddr_run, Result.andThen_ok, loadVar, isAgg_run hd, hag, if_true, sizeOf_run hi, hsz, hld, Sem.run_pure]
          · rename_i hag
            split at hq
            · rename_i y k' hy hsh
              simp only [Option.some.injEq, Prod.mk.injEq] at hq
              obtain ⟨_, rfl, rfl⟩ := hq
              refine ⟨⟨?_, kcv_ok _ _ _⟩, .refl _⟩
              have hn : P.cellsOf t = 1 := by rw [← hl, hy]; rfl
              have hcell : w.cell? ⟨b.id, off, none⟩ = some y := by
                rw [box_cell hbox]
                rw [hn] at hy
                have : (List.take 1 (List.drop off b.cs)) = [] ∨ ∃ z, b.cs[off]? = some z ∧ List.take 1 (List.drop off b.cs) = [z] := by
                  cases hz : b.cs[off]? with
                  | none => left; rw [List.drop_eq_nil_of_le (List.getElem?_eq_none_iff.1 hz)]; rfl
                  | some z =>
                    right
                    obtain ⟨hlt, rfl⟩ := List.getElem?_eq_some_iff.1 hz
                    exact ⟨_, rfl, by rw [List.drop_eq_getElem_cons hlt]; rfl⟩
                rcases this with h0 | ⟨z, hz, h0⟩
                · rw [h0] at hy; cases hy
                · rw [h0] at hy
                  simp only [List.map_cons, List.map_nil, List.cons.injEq, and_true] at hy
                  simp [hz, hy]
              have hag' : aggB P t = false := by simpa using hag
              rw [kcv_den]
              simp only [execOp, hop, h1, St.den, hid, Instr.loadAt, Sem.run_bind, sureAddr_run, Result.andThen_ok, loadVar, isAgg_run hd, hag', Bool.false_eq_true, if_false, run_load, hcell, Sem.run_pure]
            · cases hq
        · cases hq
      · cases hq
    · cases hq
  -- indexAddr
  · rename_i t x i hop
    split at hq
    · rename_i e A n c k i' he hx hi
      simp only [Option.some.injEq, Prod.mk.injEq] at hq
      obtain ⟨rfl, rfl, rfl⟩ := hq
      obtain ⟨hi0, hin, hA⟩ := hp _ rfl
      obtain ⟨h1, _⟩ := rd_sound hE hT hx
      obtain ⟨h2, _⟩ := rd_sound hE hT hi
      refine ⟨⟨?_, hA⟩, .refl _⟩
      obtain ⟨q, rfl⟩ := Option.isSome_iff_exists.1 hA
      obtain ⟨hu, i, hinf, hsz⟩ := sliceElem_spec he
      simp only [execOp, hop, h1, h2, St.den]
      simp [Instr.indexAt, asIntOf, run_underlying hu, hi0, hin, sizeOf_run hinf, hsz, offA_some]
    · cases hq
  -- shl
  · rename_i t x y t' hop
    split at hq
    · rename_i k a' k' b hx hy
      obtain ⟨h1, _⟩ := rd_sound hE hT hx
      obtain ⟨h2, _⟩ := rd_sound hE hT hy
      have main : 0 ≤ b → (execOp a.eval o).run P w = .ok (.value (.int k (k.wrap (a' * 2 ^ (min b.toNat k.bits))))) w := by
        intro hb
        simp only [execOp, hop, h1, h2, St.den]
        simp [eqGuard, binOp, Op.shift, show ¬ b < 0 by omega]
      dsimp only at hq
      split at hq
      · rename_i k'' c
        have hbc : b = c := by simp only [St.rd, Option.some.injEq, CV.v.injEq, Value.int.injEq] at hy; exact hy.2.symm
        split at hq
        · simp only [Option.some.injEq, Prod.mk.injEq] at hq
          obtain ⟨_, rfl, rfl⟩ := hq
          exact ⟨⟨main (by omega), trivial⟩, .refl _⟩
        · cases hq
      · simp only [Option.some.injEq, Prod.mk.injEq] at hq
        obtain ⟨rfl, rfl, rfl⟩ := hq
        exact ⟨⟨main (hp _ rfl), trivial⟩, .refl _⟩
    · cases hq
  -- shr
  · rename_i t x y t' hop
    split at hq
    · rename_i k a' k' b hx hy
      obtain ⟨h1, _⟩ := rd_sound hE hT hx
      obtain ⟨h2, _⟩ := rd_sound hE hT hy
      have main : 0 ≤ b → (execOp a.eval o).run P w = .ok (.value (.int k (a'.fdiv (2 ^ (min b.toNat k.bits))))) w := by
        intro hb
        simp only [execOp, hop, h1, h2, St.den]
        simp [eqGuard, binOp, Op.shift, show ¬ b < 0 by omega]
      dsimp only at hq
      split at hq
      · rename_i k'' c
        have hbc : b = c := by simp only [St.rd, Option.some.injEq, CV.v.injEq, Value.int.injEq] at hy; exact hy.2.symm
        split at hq
        · simp only [Option.some.injEq, Prod.mk.injEq] at hq
          obtain ⟨_, rfl, rfl⟩ := hq
          exact ⟨⟨main (by omega), trivial⟩, .refl _⟩
        · cases hq
      · simp only [Option.some.injEq, Prod.mk.injEq] at hq
        obtain ⟨rfl, rfl, rfl⟩ := hq
        exact ⟨⟨main (hp _ rfl), trivial⟩, .refl _⟩
    · cases hq
  -- quo
  · rename_i t x y t' hop
    split at hq
    · rename_i k a' k' b hx hy
      obtain ⟨h1, _⟩ := rd_sound hE hT hx
      obtain ⟨h2, _⟩ := rd_sound hE hT hy
      split at hq
      · rename_i hk
        subst hk
        have main : b ≠ 0 → (execOp a.eval o).run P w = .ok (.value (.int k (k.wrap (a'.tdiv b)))) w := by
          intro hb
          simp only [execOp, hop, h1, h2, St.den]
          simp [eqGuard, binOp, Op.intDiv, hb]
        dsimp only at hq
        split at hq
        · rename_i k'' c
          have hbc : b = c := by simp only [St.rd, Option.some.injEq, CV.v.injEq, Value.int.injEq] at hy; exact hy.2.symm
          split at hq
          · cases hq
          · simp only [Option.some.injEq, Prod.mk.injEq] at hq
            obtain ⟨_, rfl, rfl⟩ := hq
            exact ⟨⟨main (by omega), trivial⟩, .refl _⟩
        · simp only [Option.some.injEq, Prod.mk.injEq] at hq
          obtain ⟨rfl, rfl, rfl⟩ := hq
          exact ⟨⟨main (hp _ rfl), trivial⟩, .refl _⟩
      · cases hq
    · cases hq
  -- rem
  · rename_i t x y t' hop
    split at hq
    · rename_i k a' k' b hx hy
      obtain ⟨h1, _⟩ := rd_sound hE hT hx
      obtain ⟨h2, _⟩ := rd_sound hE hT hy
      split at hq
      · rename_i hk
        subst hk
        have main : b ≠ 0 → (execOp a.eval o).run P w = .ok (.value (.int k (a'.tmod b))) w := by
          intro hb
          simp only [execOp, hop, h1, h2, St.den]
          simp [eqGuard, binOp, Op.intDiv, hb]
        dsimp only at hq
        split at hq
        · rename_i k'' c
          have hbc : b = c := by simp only [St.rd, Option.some.injEq, CV.v.injEq, Value.int.injEq] at hy; exact hy.2.symm
          split at hq
          · cases hq
          · simp only [Option.some.injEq, Prod.mk.injEq] at hq
            obtain ⟨_, rfl, rfl⟩ := hq
            exact ⟨⟨main (by omega), trivial⟩, .refl _⟩
        · simp only [Option.some.injEq, Prod.mk.injEq] at hq
          obtain ⟨rfl, rfl, rfl⟩ := hq
          exact ⟨⟨main (hp _ rfl), trivial⟩, .refl _⟩
      · cases hq
    · cases hq
  -- build
  · rename_i t parts hop
    split at hq
    · rename_i fs z hu hz hc
      dsimp only at hq
      split at hq
      · rename_i hk
        simp only [Bool.and_eq_true] at hk
        split at hq
        · rename_i cs hf
          simp only [Option.some.injEq, Prod.mk.injEq] at hq
          obtain ⟨_, rfl, rfl⟩ := hq
          refine ⟨⟨?_, trivial⟩, Like.escs _ _ _⟩
          have e : (parts.map fun x => (x.1, a.eval x.2)) = (parts.toList.map fun q => (q.1, st.rho T q.2)).toArray := by
            apply Array.ext'
            simp only [Array.toList_map]
            apply List.map_congr_left
            intro q hq
            rw [eval_rho hE hT hc q.2 (List.mem_map.2 ⟨q, hq, rfl⟩)]
          have hr := build_run hu hz hk.1 hk.2 hf w
          simp only [execOp, hop, Sem.run_bind]
          rw [show (parts.map fun x => match x with | (i, x) => (i, a.eval x)) = (parts.map fun x => (x.1, a.eval x.2)) from rfl, e, hr]
          rfl
        · cases hq
      · cases hq
    · cases hq
  -- slice
  · rename_i t x lo hi hop
    split at hq
    · rename_i e A n c h l he hx hh hl
      simp only [Option.some.injEq, Prod.mk.injEq] at hq
      obtain ⟨rfl, rfl, rfl⟩ := hq
      obtain ⟨h1, _⟩ := rd_sound hE hT hx
      refine ⟨⟨?_, trivial⟩, .refl _⟩
      obtain ⟨hu, i, hinf, hsz⟩ := sliceElem_spec he
      have hs := sliceAt_run (P := P) hu hinf A n c (lo.map a.eval) (hi.map a.eval) l h
        (by rcases sliceEnd_spec hE hT hl with ⟨rfl, rfl⟩ | ⟨b, k, x, rfl, rfl, hb⟩
            · exact .inl ⟨rfl, rfl⟩
            · exact .inr ⟨k, x, by simp [hb], rfl⟩)
        (by rcases sliceEnd_spec hE hT hh with ⟨rfl, rfl⟩ | ⟨b, k, x, rfl, rfl, hb⟩
            · exact .inl ⟨rfl, rfl⟩
            · exact .inr ⟨k, x, by simp [hb], rfl⟩) hp w
      have h1' : a.eval x = .slice A n c := h1
      simp only [execOp, hop, h1', Option.map_none, Sem.run_bind, hs, Result.andThen_ok, Sem.run_pure]
      rfl
    · cases hq
  -- the rest
  · split at hq
    · rename_i b hb
      simp only [Option.some.injEq, Prod.mk.injEq] at hq
      obtain ⟨_, rfl, rfl⟩ := hq
      exact ⟨⟨nilCmp_run hb hE hT w, trivial⟩, .refl _⟩
    · exact q_generic hq hE hT w

/-- A quiet operation changes marks alone. -/
theorem quiet_like' (hq : quietOp P ops st T o = some (p, cv, st')) : Like st st' := by
  unfold quietOp at hq
  split at hq
  · obtain ⟨c, hc, he⟩ := Option.map_eq_some_iff.1 hq; simp only [Prod.mk.injEq] at he; rw [← he.2.2]; exact .refl _
  · obtain ⟨c, hc, he⟩ := Option.map_eq_some_iff.1 hq; simp only [Prod.mk.injEq] at he; rw [← he.2.2]; exact .refl _
  all_goals
    (repeat' (first
      | (cases hq; done)
      | (have e := (Prod.mk.inj (Prod.mk.inj (Option.some.inj hq)).2).2; rw [← e]; first | exact Like.refl _ | exact Like.escs _ _ _)
      | (dsimp only at hq; split at hq)
      | split at hq))

end
end Go.Cw
