/- The engine's words are sound, the first part: quiet operations. -/
import Derived.Test.YtfpmimnbocflpaaCw
import Derived.Laws.Cells
import Derived.Laws.World
import Derived.Laws.IdiomCopy
namespace Go.Cw
open Go

theorem add_add (p : Addr) (i j : Nat) : (p.add i).add j = p.add (i + j) := by
  unfold Addr.add
  by_cases hj : j = 0
  · subst hj; simp
  · by_cases hi : i = 0
    · subst hi; simp [hj]
    · simp [hi, hj]; omega

theorem offA_some {p : Addr} {j : Nat} : offA (some p) j = some (p.add j) := rfl

theorem exK_mono {k : Ck} {K K' : Value → Prop} (h : ∀ v, K v → K' v) : exK k K → exK k K' := by
  cases k <;> simp only [exK]
  case sl => exact fun ⟨A, n, c, q⟩ => ⟨A, n, c, h _ q⟩
  all_goals exact fun ⟨x, q⟩ => ⟨x, h _ q⟩

theorem exKs_mono {ks : List Ck} : ∀ {K K' : List Value → Prop}, (∀ v, K v → K' v) → exKs ks K → exKs ks K' := by
  induction ks with
  | nil => intro K K' h q; exact h _ q
  | cons k ks ih => intro K K' h q; exact exK_mono (fun v q => ih (fun vs => h _) q) q

theorem exK_ex {k : Ck} {K : Value → Prop} (h : exK k K) : ∃ v, k.fits v = true ∧ K v := by
  cases k <;> simp only [exK] at h
  case sl => obtain ⟨A, n, c, q⟩ := h; exact ⟨_, rfl, q⟩
  all_goals obtain ⟨x, q⟩ := h; exact ⟨_, by simp [Ck.fits], q⟩

theorem exKs_ex {ks : List Ck} : ∀ {K : List Value → Prop}, exKs ks K → ∃ vs, vs.length = ks.length ∧ K vs := by
  induction ks with
  | nil => intro K h; exact ⟨[], rfl, h⟩
  | cons k ks ih =>
    intro K h
    obtain ⟨v, _, q⟩ := exK_ex h
    obtain ⟨vs, hl, q⟩ := ih q
    exact ⟨v :: vs, by simp [hl], q⟩

theorem allK_at {k : Ck} {K : Value → Prop} (h : allK k K) {v : Value} (hv : k.fits v = true) : K v := by
  cases k <;> cases v <;> simp only [Ck.fits] at hv <;> simp only [allK] at h
  case int.int => obtain rfl := of_decide_eq_true hv; exact h _
  case sl.slice => exact h _ _ _
  all_goals first | exact h _ | cases hv

/-- Values that fit kinds. -/
def Fits : List Ck → List Value → Prop
  | [], [] => True
  | k :: ks, v :: vs => k.fits v = true ∧ Fits ks vs
  | _, _ => False

theorem allKs_at {ks : List Ck} : ∀ {K : List Value → Prop} {vs : List Value}, allKs ks K → Fits ks vs → K vs := by
  induction ks with
  | nil => intro K vs h hf; cases vs <;> first | exact h | exact hf.elim
  | cons k ks ih =>
    intro K vs h hf
    cases vs with
    | nil => exact hf.elim
    | cons v vs => exact ih (K := fun vs => K (v :: vs)) (allK_at (K := fun v => allKs ks fun vs => K (v :: vs)) h hf.1) hf.2

theorem allK_of {k : Ck} {K : Value → Prop} (h : ∀ v, K v) : allK k K := by
  cases k <;> simp only [allK] <;> intros <;> exact h _

theorem allKs_of {ks : List Ck} : ∀ {K : List Value → Prop}, (∀ vs, K vs) → allKs ks K := by
  induction ks with
  | nil => intro K h; exact h _
  | cons k ks ih => intro K h; exact allK_of fun v => ih fun vs => h _

/-! ### The relation -/
def CvOk (st : St) : CV → Prop
  | .bp k _ => k < st.bx.length
  | .ep A _ => A.isSome = true
  | _ => True

/-- The guards of a list are passed. -/
def Gd (ops : Array Oper) (a : Act) (T : List (Nat × Bool)) : Prop := ∀ x ∈ T, yielded ops a.tmps x.1 = some x.2

/-- The state tells of the temporaries. G: which guards are passed. -/
structure EnvOk (G : List (Nat × Bool) → Prop) (st : St) (a : Act) : Prop where
  size : a.tmps.size = st.env.length
  env : ∀ (t : Nat) (e : En), st.env[t]? = some (some e) → G e.tg → a.tmps[t]? = some (st.den e.cv) ∧ CvOk st e.cv

/-- The boxes' blocks. -/
def Boxes (st : St) (w : World) : Prop := ∀ b ∈ st.bx, Box w b.id (b.cs.map (·.1)) b.ty

theorem tgIn_spec {T T' : List (Nat × Bool)} (h : tgIn T T' = true) : ∀ x ∈ T, x ∈ T' := by
  induction T with
  | nil => intro x hx; cases hx
  | cons t r ih =>
    simp only [tgIn, Bool.and_eq_true] at h
    intro x hx
    rcases List.mem_cons.1 hx with rfl | hx
    · simpa using h.1
    · exact ih h.2 x hx

theorem rd_sound {ops : Array Oper} {st : St} {a : Act} (hE : EnvOk (Gd ops a) st a) {T : List (Nat × Bool)} (hT : Gd ops a T) {x : Operand} {cv : CV} (h : st.rd T x = some cv) :
    a.eval x = st.den cv ∧ CvOk st cv := by
  cases x with
  | tmp t =>
    simp only [St.rd] at h
    split at h
    · rename_i e he
      split at h
      · rename_i hg
        obtain rfl := Option.some.inj h
        obtain ⟨h1, h2⟩ := hE.env t e he (fun x hx => hT x (tgIn_spec hg x hx))
        exact ⟨by simp [Act.eval, Array.getD_eq_getD_getElem?, h1], h2⟩
      · cases h
    · cases h
  | const v => obtain rfl := Option.some.inj h; exact ⟨rfl, trivial⟩
  | global g => obtain rfl := Option.some.inj h; exact ⟨rfl, trivial⟩
  | func f => obtain rfl := Option.some.inj h; exact ⟨rfl, trivial⟩

theorem rho_of {st : St} {T : List (Nat × Bool)} {x : Operand} {cv : CV} (h : st.rd T x = some cv) : st.rho T x = st.den cv := by simp [St.rho, h]

theorem can_spec {st : St} {T : List (Nat × Bool)} {xs : List Operand} (h : st.can T xs = true) : ∀ x ∈ xs, ∃ cv, st.rd T x = some cv := by
  intro x hx
  have := List.all_eq_true.1 h x hx
  exact Option.isSome_iff_exists.1 this

theorem eval_rho {ops : Array Oper} {st : St} {a : Act} (hE : EnvOk (Gd ops a) st a) {T : List (Nat × Bool)} (hT : Gd ops a T) {xs : List Operand} (h : st.can T xs = true) :
    ∀ x ∈ xs, a.eval x = st.rho T x := by
  intro x hx
  obtain ⟨cv, hcv⟩ := can_spec h x hx
  rw [rho_of hcv, (rd_sound hE hT hcv).1]

/-! ### Marks change nothing else -/
theorem esc1_env (st : St) (cv : CV) : (st.esc1 cv).env = st.env := by cases cv <;> rfl
theorem esc1_ctr (st : St) (cv : CV) : (st.esc1 cv).ctr = st.ctr := by cases cv <;> rfl
theorem esc1_dirty (st : St) (cv : CV) : (st.esc1 cv).dirty = st.dirty := by cases cv <;> rfl
theorem esc1_pins (st : St) (cv : CV) : (st.esc1 cv).pins = st.pins := by cases cv <;> rfl

/-- Two lists of boxes that differ in marks alone. -/
def SameBx (l l' : List Bx) : Prop := l.map (fun b => (b.id, b.cs, b.ty)) = l'.map (fun b => (b.id, b.cs, b.ty))

theorem modify_mark (l : List Bx) (k : Nat) : SameBx (l.modify k Bx.mark) l := by
  unfold SameBx
  induction l generalizing k with
  | nil => simp
  | cons b l ih => cases k <;> simp [Bx.mark, ih]

theorem esc1_bx (st : St) (cv : CV) : SameBx (st.esc1 cv).bx st.bx := by
  cases cv with
  | bp k off => exact modify_mark _ _
  | _ => rfl

theorem escs_same (T : List (Nat × Bool)) : ∀ (xs : List Operand) (st : St), (st.escs T xs).env = st.env ∧ (st.escs T xs).ctr = st.ctr ∧ (st.escs T xs).dirty = st.dirty ∧ (st.escs T xs).pins = st.pins ∧ SameBx (st.escs T xs).bx st.bx
  | [], st => ⟨rfl, rfl, rfl, rfl, rfl⟩
  | x :: r, st => by
    simp only [St.escs]
    split
    · rename_i cv _
      obtain ⟨h1, h2, h3, h4, h5⟩ := escs_same T r (st.esc1 cv)
      exact ⟨h1.trans (esc1_env _ _), h2.trans (esc1_ctr _ _), h3.trans (esc1_dirty _ _), h4.trans (esc1_pins _ _), Eq.trans h5 (esc1_bx _ _)⟩
    · exact escs_same T r st

theorem SameBx.length {l l' : List Bx} (h : SameBx l l') : l.length = l'.length := by simpa using congrArg List.length h
theorem SameBx.ids {l l' : List Bx} (h : SameBx l l') : l.map (·.id) = l'.map (·.id) := by
  have := congrArg (List.map (·.1)) h
  simpa [List.map_map, Function.comp_def] using this
theorem SameBx.boxes {st st' : St} (h : SameBx st'.bx st.bx) {w : World} (hB : Boxes st w) : Boxes st' w := by
  intro b hb
  have : (b.id, b.cs, b.ty) ∈ st.bx.map (fun b => (b.id, b.cs, b.ty)) := by rw [← h]; exact List.mem_map.2 ⟨b, hb, rfl⟩
  obtain ⟨b', hb', he⟩ := List.mem_map.1 this
  simp only [Prod.mk.injEq] at he
  obtain ⟨h1, h2, h3⟩ := he
  have := hB b' hb'
  rw [h1, h2, h3] at this
  exact this

theorem idAt_eq (st : St) (k : Nat) : st.idAt k = ((st.bx.map (·.id))[k]?).getD 0 := by
  simp only [St.idAt, List.getElem?_map]
  cases st.bx[k]? <;> rfl

/-- Two states whose boxes differ in marks alone read alike. -/
theorem den_same {st st' : St} (h : SameBx st'.bx st.bx) (cv : CV) : st'.den cv = st.den cv := by
  cases cv <;> simp only [St.den]
  rw [idAt_eq, idAt_eq, h.ids]

theorem cvOk_same {st st' : St} (h : SameBx st'.bx st.bx) {cv : CV} (hc : CvOk st cv) : CvOk st' cv := by
  cases cv <;> simp only [CvOk] at *
  · rw [h.length]; exact hc
  · exact hc

/-! ### What only computes -/
theorem pureOf_run {α : Type} {P : Program} : ∀ {s : Sem α} {v : α}, pureOf P s = some v → ∀ w, s.run P w = .ok v w
  | .pure a, v, h, w => by simp only [pureOf, Option.some.injEq] at h; subst h; rfl
  | .program k, v, h, w => by simp only [pureOf] at h; exact pureOf_run h w
  | .mark _ k, v, h, w => by simp only [pureOf] at h; exact pureOf_run h w
  | .load .., _, h, _ | .store .., _, h, _ | .new .., _, h, _ | .shape .., _, h, _ | .freeze .., _, h, _ | .frozen .., _, h, _ | .getObj .., _, h, _ | .setObj .., _, h, _ | .choose .., _, h, _ | .sys .., _, h, _ | .halt .., _, h, _ => by simp [pureOf] at h

theorem map_toArray (xs : Array Operand) (f : Operand → Value) : xs.map f = (xs.toList.map f).toArray := by
  apply Array.ext'; simp

theorem semOf_run {P : Program} {rho : Operand → Value} {o : Oper} {s : Sem Value} (h : semOf rho o = some s) (w : World) :
    (execOp rho o).run P w = (s.run P w).andThen fun v w' => .ok (.value v) w' := by
  obtain ⟨dst, op, type, pos, after, guard⟩ := o
  unfold semOf at h
  cases op <;> simp only [Option.some.injEq, reduceCtorEq] at h
  case call c =>
    obtain ⟨callee, args, argTypes⟩ := c
    cases callee <;> simp only [reduceCtorEq] at h
    rename_i b
    cases b <;> simp only [Option.some.injEq, reduceCtorEq] at h <;> subst h <;> simp [execOp, resolve, invoke, builtin, map_toArray]
  case makeFunc => subst h; simp [execOp, Instr.makeFunc, map_toArray]
  case buildSlice t n parts =>
    subst h
    simp only [execOp]
    rw [show (parts.map fun x => (x.1, rho x.2)) = (parts.toList.map fun p => (p.1, rho p.2)).toArray from by apply Array.ext'; simp]
    simp
  case binOp op t x y _ =>
    subst h
    simp only [execOp, Sem.run_bind]
    cases (eqGuard op t x y (rho x) (rho y)).run P w <;> rfl
  all_goals subst h; simp [execOp]

theorem semOpnds_mem {o : Oper} {rho : Operand → Value} {s : Sem Value} (h : semOf rho o = some s) : (∀ cs b, o.op ≠ .select cs b) ∧ ∀ x ∈ o.op.operands, x ∈ semOpnds o := by
  obtain ⟨dst, op, type, pos, after, guard⟩ := o
  unfold semOf at h
  cases op <;> simp only [reduceCtorEq] at h
  case call c =>
    obtain ⟨callee, args, argTypes⟩ := c
    cases callee <;> simp only [reduceCtorEq] at h
    refine ⟨by simp, fun x hx => ?_⟩
    simpa [Op.operands, Call.operands, semOpnds] using hx
  case slice t x lo hi mx =>
    refine ⟨by simp, fun y hy => ?_⟩
    cases lo <;> cases hi <;> cases mx <;> (simp only [Op.operands, semOpnds] at hy ⊢; simpa using hy)
  case makeMap t r => exact ⟨by simp, fun y hy => by cases r <;> (simp only [Op.operands, semOpnds] at hy ⊢; first | (exfalso; simp at hy; done) | simpa using hy)⟩
  all_goals exact ⟨by simp, fun x hx => by simpa [Op.operands, semOpnds] using hx⟩

end Go.Cw
