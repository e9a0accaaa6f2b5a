/- The engine: what every text of contracts uses. -/
import Derived.Test.YtfpmimnbocflpaaCwS12
namespace Go.Cw
open Go

/-- Nothing old may be written. -/
def F0 : Nat → Prop := fun _ => False

def okB (P : Program) (f : FuncId) : Bool :=
  match P.funcs[f]? with
  | some fn => !(fn.name == "runtime.NumGoroutine") && !fn.body.isNone
  | none => false

theorem okB_enter {P : Program} {f : FuncId} (h : okB P f = true) (args : Array Value) (w : World) : (callFunc f args).run P w = .ok (.enter f args) w := by
  unfold okB at h
  split at h
  · rename_i fn hf
    simp only [Bool.and_eq_true, Bool.not_eq_true'] at h
    simp only [callFunc, Sem.run_bind, run_program, Result.andThen_ok, hf, h.1, h.2, Bool.false_eq_true, if_false]
    rfl
  · cases h

/-- Of a set of functions, given by a number's bits. -/
theorem okFns_of {P : Program} {l : List Nat} (h : l.all (okB P) = true) (M : Nat → Prop) (w : World) : OkFns ⟨P, M, w, fun f => l.contains f⟩ := by
  intro f hf args w
  exact okB_enter (List.all_eq_true.1 h f (by simpa using hf)) args w

def cvsOk (n : Nat) : List CV → Bool
  | [] => true
  | .bp k _ :: r => decide (k < n) && cvsOk n r
  | .ep _ _ :: _ => false
  | _ :: r => cvsOk n r

theorem cvsOk_spec {st : St} : ∀ {l : List CV}, cvsOk st.bx.length l = true → ∀ cv ∈ l, CvOk st cv
  | [], _, cv, h => by cases h
  | x :: r, h, cv, hc => by
    have : CvOk st x ∧ cvsOk st.bx.length r = true := by
      cases x with
      | v y => exact ⟨trivial, h⟩
      | o y => exact ⟨trivial, h⟩
      | bp k off => simp only [cvsOk, Bool.and_eq_true, decide_eq_true_eq] at h; exact h
      | ep A j => cases h
    rcases List.mem_cons.1 hc with rfl | hc
    · exact this.1
    · exact cvsOk_spec this.2 cv hc

def newB : List Bx → Bool
  | [] => true
  | b :: r => (b.cs.all fun c => c.2 == 0) && newB r

theorem newB_spec : ∀ {l : List Bx}, newB l = true → ∀ b ∈ l, ∀ c ∈ b.cs, c.2 = 0
  | [], _, b, h => by cases h
  | x :: r, h, b, hb => by
    simp only [newB, Bool.and_eq_true] at h
    rcases List.mem_cons.1 hb with rfl | hb
    · intro c hc; simpa using List.all_eq_true.1 h.1 c hc
    · exact newB_spec h.2 b hb

/-- A contract out of a formula. -/
theorem calls_at {P : Program} {ok : FuncId → Bool} {f : FuncId} {fn : Func} {hs : Hs} {M : Nat → Prop} {w : World} {args : Array Value} {Q : Value → World → Prop} (hok : ∀ M w, OkFns ⟨P, M, w, ok⟩) (hm : P.follows .mixedOrders = true)
    (hf : P.funcs[f]? = some fn) (cvs : List CV) (bx : List Bx) (fin : List Nat) (hbox : ∀ b ∈ bx, Box w b.id (b.cs.map (·.1)) b.ty ∧ M b.id) (hnd : (bx.map (·.id)).Nodup)
    (hb : (fn.body.isSome && cvsOk bx.length cvs && newB bx) = true) (hargs : (cvs.map (st0 fn.ntmps cvs bx).den).toArray = args) {F : Prop} (he : cwp ⟨P, M, w, ok⟩ hs (fn.body.getD .skip) (st0 fn.ntmps cvs bx) w (topK ⟨P, M, w, ok⟩ fn fin Q) = F) (h : F) :
    Calls P f args w fun e w' => ∃ v, e = .returned v ∧ Fr M w w' ∧ Q v w' := by
  rw [← hargs]
  simp only [Bool.and_eq_true] at hb
  obtain ⟨c, hc⟩ := Option.isSome_iff_exists.1 hb.1.1
  rw [hc] at he
  exact calls_of_cwp (cx := ⟨P, M, w, ok⟩) (hok M w) hm hf hc (cvsOk_spec (st := st0 fn.ntmps cvs bx) hb.1.2) hbox hnd (newB_spec hb.2) (he ▸ h)

theorem box_one {w : World} {M : Nat → Prop} {b : Bx} (h : Box w b.id (b.cs.map (·.1)) b.ty) (hM : M b.id) : ∀ x ∈ [b], Box w x.id (x.cs.map (·.1)) x.ty ∧ M x.id := by
  intro x hx
  obtain rfl := List.mem_singleton.1 hx
  exact ⟨h, hM⟩

theorem box_two {w : World} {M : Nat → Prop} {b c : Bx} (h : Box w b.id (b.cs.map (·.1)) b.ty) (hM : M b.id) (h2 : Box w c.id (c.cs.map (·.1)) c.ty) (hM2 : M c.id) : ∀ x ∈ [b, c], Box w x.id (x.cs.map (·.1)) x.ty ∧ M x.id := by
  intro x hx
  simp only [List.mem_cons, List.not_mem_nil, or_false] at hx
  rcases hx with rfl | rfl
  · exact ⟨h, hM⟩
  · exact ⟨h2, hM2⟩

end Go.Cw
