/- Trace: the models' laws, the first part: words; what is encoded. -/
import Derived.Test.YtmhlgjmepkcniaaGreatDoorZl
namespace Go.Proofs.YtmhlgjmepkcniaaGreatDoor
open Go Go.Cw Go.Dw Go.Proofs
set_option linter.unusedVariables false
set_option linter.unusedSimpArgs false
set_option maxRecDepth 100000

theorem wi_id {x : Int} (h : -9223372036854775808 ≤ x ∧ x < 9223372036854775808) : wi x = x := wrap_i64_of h.1 h.2
theorem wu_id {x : Int} (h : 0 ≤ x ∧ x < 18446744073709551616) : wu x = x := by
 have e : wu x = x % 18446744073709551616 := by
  show IntKind.wrap .u64 x = _
  simp [IntKind.wrap, IntKind.bits, IntKind.signed]
 rw [e]; omega
theorem w8_eq (x : Int) : w8 x = x % 256 := by
 show IntKind.wrap .u8 x = _
 simp [IntKind.wrap, IntKind.bits, IntKind.signed]

def scan {β : Type} (n : Nat) (ok : Nat → Bool) (B : Nat → β) (E : β) : β := match (List.range n).find? (fun i => !ok i) with | some i => B i | none => E
theorem scan_all {β : Type} {n : Nat} {ok : Nat → Bool} {B : Nat → β} {E : β} (h : ∀ i, i < n → ok i = true) : scan n ok B E = E := by
 unfold scan
 rw [List.find?_eq_none.2 (fun i hi => by simp [h i (List.mem_range.1 hi)])]
theorem scan_cases {β : Type} (n : Nat) (ok : Nat → Bool) (B : Nat → β) (E : β) : (∃ i, i < n ∧ ok i = false ∧ scan n ok B E = B i) ∨ ((∀ i, i < n → ok i = true) ∧ scan n ok B E = E) := by
 unfold scan
 cases h : (List.range n).find? (fun i => !ok i) with
 | none => exact .inr ⟨fun i hi => by simpa using List.find?_eq_none.1 h i (List.mem_range.2 hi), rfl⟩
 | some i => exact .inl ⟨i, List.mem_range.1 (List.mem_of_find?_eq_some h), by simpa using List.find?_some h, rfl⟩

theorem loop_idx {ρ : Type} {step : List D → Option (List D ⊕ ρ)} (st : Nat → List D) (n : Nat) (hn : n < 18446744073709551615) (ok : Nat → Bool) (B : Nat → Option ρ) (E : Option ρ) {d : List D} (h0 : d = st 0) (hs : ∀ i, i < n → ok i = true → (∀ j, j < i → ok j = true) → step (st i) = some (.inl (st (i + 1)))) (hb : ∀ i, i < n → ok i = false → (∀ j, j < i → ok j = true) → step (st i) = inrO (B i)) (he : (∀ j, j < n → ok j = true) → step (st n) = inrO E) :
 loopO d step = scan n ok B E := by
 rw [h0, loopO_eq]
 have key : ∀ (m i : Nat), i ≤ n → n - i < m → (∀ j, j < i → ok j = true) → loopN step m (st i) = scan n ok B E := by
  intro m
  induction m with
  | zero => intro i _ h; exact absurd h (Nat.not_lt_zero _)
  | succ m ih =>
    intro i hi hm hall
    simp only [loopN]
    by_cases h : i < n
    ·cases hk : ok i with
     | true =>
       rw [hs i h hk hall]
       exact ih (i + 1) h (by omega) fun j hj => by
        rcases Nat.lt_or_ge j i with h1 | h1
        ·exact hall j h1
        ·obtain rfl : j = i := by omega
         exact hk
     | false =>
       rw [hb i h hk hall]
       have e : scan n ok B E = B i := by
        unfold scan
        have : (List.range n).find? (fun i => !ok i) = some i := by
         rw [List.find?_range_eq_some]
         exact ⟨by simp [hk], List.mem_range.2 h, fun j hj => by simp [hall j hj]⟩
        rw [this]
       rw [e]
       cases B i <;> rfl
    ·obtain rfl : i = n := by omega
     rw [he hall, scan_all hall]
     cases E <;> rfl
 exact key _ 0 (Nat.zero_le _) (by omega) fun j hj => absurd hj (Nat.not_lt_zero _)

theorem dlt_true {a b : Int} (h : a < b) : decide (a < b) = true := decide_eq_true h
theorem dlt_false {a b : Int} (h : b ≤ a) : decide (a < b) = false := decide_eq_false (by omega)
theorem dgt_true {a b : Int} (h : b < a) : decide (a > b) = true := decide_eq_true h
theorem dgt_false {a b : Int} (h : a ≤ b) : decide (a > b) = false := decide_eq_false (by omega)
theorem dle_true {a b : Int} (h : a ≤ b) : decide (a ≤ b) = true := decide_eq_true h
theorem dge_true {a b : Int} (h : b ≤ a) : decide (a ≥ b) = true := decide_eq_true h
theorem dge_false {a b : Int} (h : a < b) : decide (a ≥ b) = false := decide_eq_false (by omega)
theorem cnd_t {β : Type} {c : Bool} (h : c = true) (a b : β) : cond c a b = a := by rw [h]; rfl
theorem cnd_f {β : Type} {c : Bool} (h : c = false) (a b : β) : cond c a b = b := by rw [h]; rfl

structure Nt where
 thr : Bool
 who : Int
 kind : Int
 twho : Int
 times : Int
 err : Int
 sum : Int
def dN (x : Nt) : List D := [.v (.bool x.thr), .v (.int .i64 x.who), .v (.int .u8 x.kind), .v (.int .i64 x.twho), .v (.int .i64 x.times), .v (.int .i64 x.err), .v (.int .u64 x.sum)]
def byB (n : Int) : Bool := decide (n ≥ 0) && decide (n < 256)
def okN (x : Nt) : Bool := (x.times == 1) && (byB x.who && (byB x.twho && byB x.err))
def bD (l : List Int) : List (List D) := l.map fun x => [.v (.int .u8 x)]
theorem bD_app (a b : List Int) : bD (a ++ b) = bD a ++ bD b := List.map_append ..
theorem bD_len (a : List Int) : (bD a).length = a.length := List.length_map ..
def hd5 (x : Nt) : List Int := [w8 (cond x.thr 1 0), w8 x.who, x.kind, w8 x.twho, w8 x.err]
def enc1 (x : Nt) : List Int := hd5 x ++ uptoB x.sum 8
theorem enc1_len (x : Nt) : (enc1 x).length = 13 := by simp [enc1, hd5, uptoB_length]
def encL (l : List Nt) : List Int := l.flatMap enc1
theorem encL_len (l : List Nt) : (encL l).length = 13 * l.length := by
 induction l with
 | nil => rfl
 | cons x l ih => simp only [encL, List.flatMap_cons, List.length_append, enc1_len, List.length_cons] at ih ⊢; omega
theorem encL_snoc {l : List Nt} {i : Nat} {x : Nt} (h : l[i]? = some x) : encL (l.take (i + 1)) = encL (l.take i) ++ enc1 x := by
 rw [List.take_add_one, h]
 simp [encL]
theorem get_of {l : List Nt} {i : Nat} (h : i < l.length) : ∃ x, l[i]? = some x := ⟨_, List.getElem?_eq_getElem h⟩
def okI (l : List Nt) (i : Nat) : Bool := match l[i]? with | some x => okN x | none => true

theorem small_of (l : List Int) (hl : l.length < 1000) : s13_F [[.l (l.map fun n => [.v (.int .i64 n)])]] = some [[.v (.bool (l.all byB))]] := by
 unfold s13_F s24_F s38_F
 have hlen : (l.map fun n => [D.v (.int .i64 n)]).length = l.length := List.length_map ..
 simp only [aC, aI, aB, aT, aL, aP, aF, aN, aZ, oC_cons, oZ_nil, oN_nil, oI_v, oB_v, oL_l, oP_p, oF_f, oR_of, joinO_eq, joinsO_eq, inrO_some, inlO_some, oK_true, if_true, condO_true, condO_false, cond_true, cond_false]
 rw [loop_idx (d := [.v (.int .i64 0)]) (fun i => [.v (.int .i64 (i : Int))]) l.length (by omega) (fun i => match l[i]? with | some n => byB n | none => true) (fun i => some [[.v (.int .i64 (i : Int))]]) (some [[.v (.int .i64 (-1))]]) rfl]
 ·rcases scan_cases l.length (fun i => match l[i]? with | some n => byB n | none => true) (fun i => some [[D.v (.int .i64 (i : Int))]]) (some [[D.v (.int .i64 (-1))]]) with ⟨i, hi, hb, he⟩ | ⟨ha, he⟩
  ·rw [he]
   have : l.all byB = false := by
    rw [List.getElem?_eq_getElem hi] at hb
    exact List.all_eq_false.2 ⟨_, List.getElem_mem hi, by simpa using hb⟩
   simp only [aC, aI, aB, aT, aL, aP, aF, aN, aZ, oC_cons, oZ_nil, oN_nil, oI_v, oB_v, oL_l, oP_p, oF_f, oR_of, joinO_eq, joinsO_eq, inrO_some, inlO_some, oK_true, if_true, condO_true, condO_false, cond_true, cond_false, this, dge_true (show (0 : Int) ≤ (i : Int) by omega), Bool.not_true]
  ·rw [he]
   have : l.all byB = true := List.all_eq_true.2 fun x hx => by
    obtain ⟨i, hi, rfl⟩ := List.getElem_of_mem hx
    have := ha i hi
    rw [List.getElem?_eq_getElem hi] at this
    exact this
   simp only [aC, aI, aB, aT, aL, aP, aF, aN, aZ, oC_cons, oZ_nil, oN_nil, oI_v, oB_v, oL_l, oP_p, oF_f, oR_of, joinO_eq, joinsO_eq, inrO_some, inlO_some, oK_true, if_true, condO_true, condO_false, cond_true, cond_false, this]
   rfl
 ·intro i hi hk _
  obtain ⟨n, hn⟩ : ∃ n, l[i]? = some n := ⟨_, List.getElem?_eq_getElem hi⟩
  rw [hn] at hk
  unfold byB at hk
  simp only [Bool.and_eq_true, decide_eq_true_eq] at hk
  unfold s25_F
  simp only [aC, aI, aB, aT, aL, aP, aF, aN, aZ, oC_cons, oZ_nil, oN_nil, oI_v, oB_v, oL_l, oP_p, oF_f, oR_of, joinO_eq, joinsO_eq, inrO_some, inlO_some, oK_true, if_true, condO_true, condO_false, cond_true, cond_false, hlen, dlt_true (show (i : Int) < (l.length : Int) by omega), oX_map hn, dlt_false hk.1, dgt_false (show n ≤ 255 by omega), Bool.or_self]
  rw [wi_id (by omega)]; rfl
 ·intro i hi hk _
  obtain ⟨n, hn⟩ : ∃ n, l[i]? = some n := ⟨_, List.getElem?_eq_getElem hi⟩
  rw [hn] at hk
  have hb : (decide (n < 0) || decide (n > 255)) = true := by
   simp only [byB, Bool.and_eq_false_iff, decide_eq_false_iff_not] at hk
   simp only [Bool.or_eq_true, decide_eq_true_eq]
   omega
  unfold s25_F
  simp only [aC, aI, aB, aT, aL, aP, aF, aN, aZ, oC_cons, oZ_nil, oN_nil, oI_v, oB_v, oL_l, oP_p, oF_f, oR_of, joinO_eq, joinsO_eq, inrO_some, inlO_some, oK_true, if_true, condO_true, condO_false, cond_true, cond_false, hlen, dlt_true (show (i : Int) < (l.length : Int) by omega), oX_map hn, hb]
 ·intro _
  simp only [aC, aI, aB, aT, aL, aP, aF, aN, aZ, oC_cons, oZ_nil, oN_nil, oI_v, oB_v, oL_l, oP_p, oF_f, oR_of, joinO_eq, joinsO_eq, inrO_some, inlO_some, oK_true, if_true, condO_true, condO_false, cond_true, cond_false, hlen, dlt_false (show (l.length : Int) ≤ (l.length : Int) from Int.le_refl _)]
end Go.Proofs.YtmhlgjmepkcniaaGreatDoor
