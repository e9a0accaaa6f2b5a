/- The engine: a function's contract out of the formula that is told of its code. -/
import Derived.Test.YtfpmimnbocflpaaCwS11
namespace Go.Cw
open Go

theorem RelO.like {cx : Cx} {st st' : St} {a : Act} {w wa : World} (hR : RelO cx st a w wa) (l : Like st st') : RelO cx st' a w wa := by
  have := (hR.relR #[] (fun _ => false)).like l
  refine ⟨by rw [l.env]; exact hR.size, fun t e he => ?_, this.wok, hR.defers, this.versB⟩
  have he' := he
  rw [l.env] at he'
  obtain ⟨e1, e2⟩ := this.env.env t e he (by rw [(hR.env t e he').1]; intro x hx; cases hx)
  exact ⟨(hR.env t e he').1, e1, e2, this.vers t e he⟩

def resG (tmps : Array Value) : ResultVar → Sem Value
  | .tmp t => pure (tmps.getD t undef)
  | .cell a t => do loadVar t (← asAddr (tmps.getD a undef))

theorem resOne_run {cx : Cx} {st : St} {a : Act} {w wa : World} (hR : RelO cx st a w wa) {r : ResultVar} {cv : CV} {v : Value} (h : resOne cx.P st r = some (cv, v)) : (resG a.tmps r).run cx.P wa = .ok v wa := by
  cases r with
  | tmp t =>
    simp only [resOne] at h
    split at h
    · rename_i cv' hcv
      simp only [Option.some.injEq, Prod.mk.injEq] at h
      obtain ⟨_, rfl⟩ := h
      have := (rd_out hR hcv).1
      simp only [Act.eval] at this
      simp only [resG, this, Sem.run_pure]
    · cases h
  | cell ad t =>
    simp only [resOne] at h
    split at h
    · rename_i k off hcv
      split at h
      · rename_i b d hb hd
        split at h
        · rename_i hc
          simp only [Option.some.injEq, Prod.mk.injEq] at h
          obtain ⟨_, rfl⟩ := h
          have h1 := (rd_out hR hcv).1
          simp only [Act.eval, St.den, idAt_get hb] at h1
          obtain ⟨i, hi, hsz⟩ := underlying_info hd
          have hld := loadCells_box (P := cx.P) (hR.wok.boxes b (List.mem_of_getElem? hb)) off (cx.P.cellsOf t) _ (show ((b.cs.map (·.1)).drop off).take (cx.P.cellsOf t) = List.map (fun x => x.1) (List.take (cx.P.cellsOf t) (List.drop off b.cs)) by simp) hc.1
          simp only [resG, h1, asAddr, Sem.run_bind, Sem.run_pure, Result.andThen_ok, loadVar, isAgg_run hd, hc.2, if_true, sizeOf_run hi, hsz, hld]
        · cases h
      · cases h
    · cases h

theorem resAll_run {cx : Cx} {a : Act} {w wa : World} : ∀ {l : List ResultVar} {st st' : St} {vs : List Value}, RelO cx st a w wa → resAll cx.P st l = some (st', vs) → (l.mapM (resG a.tmps)).run cx.P wa = .ok vs wa ∧ Like st st'
  | [], st, st', vs, hR, h => by
    simp only [resAll, Option.some.injEq, Prod.mk.injEq] at h
    obtain ⟨rfl, rfl⟩ := h
    exact ⟨by simp, Like.refl _⟩
  | r :: l, st, st', vs, hR, h => by
    simp only [resAll] at h
    split at h
    · rename_i cv v h1
      split at h
      · rename_i st2 vs2 h2
        simp only [Option.some.injEq, Prod.mk.injEq] at h
        obtain ⟨rfl, rfl⟩ := h
        have lk := Like.esc1 st cv
        obtain ⟨h3, h4⟩ := resAll_run (hR.like lk) h2
        refine ⟨?_, lk.trans h4⟩
        simp [List.mapM_cons, resOne_run hR h1, h3]
      · cases h
    · cases h

theorem results_run {P : Program} {fn : Func} {tmps : Array Value} {vs : List Value} {wa : World} (h : (fn.results.toList.mapM (resG tmps)).run P wa = .ok vs wa) : (results fn tmps).run P wa = .ok (retV vs) wa := by
  have key : ∀ g : ResultVar → Sem Value, (∀ x, g x = resG tmps x) → fn.results.mapM g = List.toArray <$> fn.results.toList.mapM (resG tmps) := by
    intro g hg
    obtain rfl : g = resG tmps := funext hg
    obtain ⟨l⟩ := fn.results
    exact List.mapM_toArray
  unfold results
  rw [key _ (fun x => by cases x <;> rfl)]
  simp only [Sem.run_bind, Sem.run_map, h, Result.andThen_ok, Sem.run_pure]
  congr 1
  match vs with
  | [] => rfl
  | [v] => rfl
  | v :: u :: r => simp [retV]

theorem st0_get {n : Nat} {cvs : List CV} {bx : List Bx} {t : Nat} {e : En} (h : (st0 n cvs bx).env[t]? = some (some e)) : ∃ cv, cvs[t]? = some cv ∧ e = ⟨cv, [], 0⟩ := by
  simp only [st0] at h
  rw [List.getElem?_append] at h
  split at h
  · rw [List.getElem?_map] at h
    obtain ⟨cv, h1, h2⟩ := Option.map_eq_some_iff.1 h
    exact ⟨cv, h1, (Option.some.inj h2).symm⟩
  · rw [List.getElem?_replicate] at h
    split at h
    · cases Option.some.inj h
    · cases h

theorem init_rel {cx : Cx} {n : Nat} {cvs : List CV} {bx : List Bx} (hcv : ∀ cv ∈ cvs, CvOk (st0 n cvs bx) cv) (hbox : ∀ b ∈ bx, Box cx.w0 b.id (b.cs.map (·.1)) b.ty ∧ cx.M b.id) (hnd : (bx.map (·.id)).Nodup) (hver : ∀ b ∈ bx, ∀ c ∈ b.cs, c.2 = 0) :
    RelO cx (st0 n cvs bx) { tmps := (cvs.map (st0 n cvs bx).den).toArray ++ Array.replicate (n - (cvs.map (st0 n cvs bx).den).toArray.size) undef, defers := [] } cx.w0 cx.w0 := by
  refine ⟨?_, fun t e he => ?_, ⟨fun b hb => (hbox b hb).1, fun b hb => .inr (hbox b hb).2, hnd, Fr.refl _ _, by simp [st0]⟩, rfl, fun b hb c hc => ?_⟩
  · simp [st0]
  · obtain ⟨cv, h1, rfl⟩ := st0_get he
    have hlt := (List.getElem?_eq_some_iff.1 h1).1
    refine ⟨rfl, ?_, hcv cv (List.mem_of_getElem? h1), by simp [st0]⟩
    rw [Array.getElem?_append_left (by simpa using hlt)]
    simp [h1]
  · rw [hver b hb c hc]; simp [st0]

/-- **A function's contract.** -/
theorem calls_of_cwp {cx : Cx} {f : FuncId} {fn : Func} {c : Code} {hs : Hs} (hok : OkFns cx) (hm : cx.P.follows .mixedOrders = true) (hf : cx.P.funcs[f]? = some fn) (hb : fn.body = some c) {cvs : List CV} {bx : List Bx} {fin : List Nat} {Q : Value → World → Prop}
    (hcv : ∀ cv ∈ cvs, CvOk (st0 fn.ntmps cvs bx) cv) (hbox : ∀ b ∈ bx, Box cx.w0 b.id (b.cs.map (·.1)) b.ty ∧ cx.M b.id) (hnd : (bx.map (·.id)).Nodup) (hver : ∀ b ∈ bx, ∀ c ∈ b.cs, c.2 = 0)
    (h : cwp cx hs c (st0 fn.ntmps cvs bx) cx.w0 (topK cx fn fin Q)) :
    Calls cx.P f (cvs.map (st0 fn.ntmps cvs bx).den).toArray cx.w0 fun e w' => ∃ v, e = .returned v ∧ Fr cx.M cx.w0 w' ∧ Q v w' := by
  refine calls_of_wp hf hb ?_
  refine wp_mono (cwp_sound hok hm c _ _ _ _ _ ?_ (init_rel hcv hbox hnd hver) h) ?_
  · intro ch st w h; exact h
  · rintro e a' wa' ⟨st', w', _, hR, hK⟩
    have fin' : topK cx fn fin Q .ret st' w' → a'.defers = [] ∧ ∃ v, (results fn a'.tmps).run cx.P wa' = .ok v wa' ∧ ∃ v', Ending.returned v = .returned v' ∧ Fr cx.M cx.w0 wa' ∧ Q v' wa' := by
      intro hK
      simp only [topK] at hK
      split at hK
      · rename_i st2 vs h2
        obtain ⟨h3, h4⟩ := resAll_run hR h2
        have lk : Like st2 { st2 with bx := escAll fin st2.bx } := ⟨rfl, rfl, rfl, rfl, escAll_same _ _⟩
        have hR2 := (hR.like h4).like lk
        exact ⟨hR.defers, _, results_run h3, _, rfl, hR.wok.fr, boxHyps_at (flush_at hK hR2.wok) hR2.wok.boxes⟩
      · exact hK.elim
    cases e with
    | normal => exact fin' hK
    | ret => exact fin' hK
    | exit id => exact hK.elim
    | goto l => exact hK.elim
    | panic ch => exact hK.elim
    | outgrown => exact hK.elim

/-- The same, of plain arguments. -/
theorem calls_plain {P : Program} {ok : FuncId → Bool} {f : FuncId} {fn : Func} {c : Code} {hs : Hs} (w : World) (hok : OkFns ⟨P, fun _ => False, w, ok⟩) (hm : P.follows .mixedOrders = true) (hf : P.funcs[f]? = some fn) (hb : fn.body = some c) (vs : List Value)
    {Q : Value → World → Prop} (h : cwp ⟨P, fun _ => False, w, ok⟩ hs c (st0 fn.ntmps (vs.map .v) []) w (topK ⟨P, fun _ => False, w, ok⟩ fn [] Q)) :
    Calls P f vs.toArray w fun e w' => ∃ v, e = .returned v ∧ Fr (fun _ => False) w w' ∧ Q v w' := by
  have := calls_of_cwp (cx := ⟨P, fun _ => False, w, ok⟩) (hs := hs) hok hm hf hb (cvs := vs.map .v) (bx := []) (fin := []) (Q := Q) (fun cv hcv => by obtain ⟨x, _, rfl⟩ := List.mem_map.1 hcv; trivial) (fun b hb => by cases hb) (by simp) (fun b hb => by cases hb) h
  rw [List.map_map] at this
  have e : vs.map ((st0 fn.ntmps (vs.map .v) []).den ∘ CV.v) = vs := by
    conv => rhs; rw [← List.map_id vs]
    exact List.map_congr_left fun x _ => rfl
  rw [e] at this
  exact this

end Go.Cw
