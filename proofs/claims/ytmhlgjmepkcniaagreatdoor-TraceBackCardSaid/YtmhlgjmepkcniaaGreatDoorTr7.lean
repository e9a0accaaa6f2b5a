/- Trace: the laws on trees that are handed in. -/
import Derived.Test.YtmhlgjmepkcniaaGreatDoorTr6
import Derived.Test.YtmhlgjmepkcniaaGreatDoorE5
namespace Go.Proofs.YtmhlgjmepkcniaaGreatDoor
open Go Go.Cw Go.Dw Go.Proofs
set_option linter.unusedVariables false

theorem wf_i {k : IntKind} {n : Int} (h : (Lit.int k n).wf = true) : k.min ≤ n ∧ n ≤ k.max := by
 simpa only [Lit.wf, Bool.and_eq_true, decide_eq_true_eq] using h
abbrev shN : List Shp := [.v .bool, .v (.int .i64), .v (.int .u8), .v (.int .i64), .v (.int .i64), .v (.int .i64), .v (.int .u64)]
theorem note_in {P : Program} {r : List D} (h : okDs P shN r) : ∃ x : Nt, r = dN x ∧ x.In := by
 obtain ⟨_, _, rfl, ⟨b, rfl⟩, _, _, rfl, ⟨n1, rfl, w1⟩, _, _, rfl, ⟨n2, rfl, w2⟩, _, _, rfl, ⟨n3, rfl, w3⟩, _, _, rfl, ⟨n4, rfl, w4⟩, _, _, rfl, ⟨n5, rfl, w5⟩, _, _, rfl, ⟨n6, rfl, w6⟩, rfl⟩ := h
 refine ⟨⟨b, n1, n2, n3, n4, n5, n6⟩, rfl, ?_⟩
 have q2 := wf_i w2
 have q6 := wf_i w6
 have e1 : IntKind.u8.min = 0 := rfl
 have e2 : IntKind.u8.max = 255 := rfl
 have e3 : IntKind.u64.min = 0 := rfl
 have e4 : IntKind.u64.max = 18446744073709551615 := rfl
 unfold Nt.In
 simp only
 omega
theorem notes_in {P : Program} : ∀ {es : List (List D)}, (∀ r ∈ es, okDs P shN r) → ∃ l : List Nt, es = l.map dN ∧ ∀ x ∈ l, x.In
 | [], _ => ⟨[], rfl, fun _ h => by cases h⟩
 | r :: es, h => by
   obtain ⟨x, rfl, h1⟩ := note_in (h r (List.mem_cons_self ..))
   obtain ⟨l, rfl, h2⟩ := notes_in fun r hr => h r (List.mem_cons_of_mem _ hr)
   exact ⟨x :: l, rfl, fun y hy => by
    rcases List.mem_cons.1 hy with rfl | hy
    ·exact h1
    ·exact h2 y hy⟩
theorem bytesN42 : Tryz.prog.bytesOf 42 = 56 := by kernel_rfl
theorem list_in {x : List D} (h : okDs Tryz.prog [.l 2 42 shN] x) : ∃ l : List Nt, x = [.l (l.map dN)] ∧ (∀ y ∈ l, y.In) ∧ l.length < 9223372036854775807 := by
 obtain ⟨_, _, rfl, ⟨es, rfl, _, h1, h2⟩, rfl⟩ := h
 obtain ⟨l, rfl, h3⟩ := notes_in h2
 rw [bytesN42, List.length_map] at h1
 unfold reachBytes at h1
 exact ⟨l, rfl, h3, by omega⟩
theorem str_in {x : List D} (h : okDs Tryz.prog [.v .str] x) : ∃ s, x = [.v (.string s)] ∧ s.size ≤ 9223372036854775807 := by
 obtain ⟨_, _, rfl, ⟨s, rfl, h1⟩, rfl⟩ := h
 exact ⟨s, rfl, h1⟩
theorem codes_law (x0 x1 x2 : List D) (h0 : okDs Tryz.prog [.l 2 42 shN] x0) (h1 : okDs Tryz.prog [.l 2 42 shN] x1) (h2 : okDs Tryz.prog [.v .str] x2) : s3_F [x0, x1, x2] = some [[.v (.bool true)]] := by
 obtain ⟨l, rfl, _, hl⟩ := list_in h0
 obtain ⟨m, rfl, _, hm⟩ := list_in h1
 obtain ⟨s, rfl, hs⟩ := str_in h2
 exact law_codes l m s hl hm hs
theorem back_law (x0 x1 : List D) (h0 : okDs Tryz.prog [.l 2 42 shN] x0) (h1 : okDs Tryz.prog [.v .str] x1) : s4_F [x0, x1] = some [[.v (.bool true)]] := by
 obtain ⟨l, rfl, h, hl⟩ := list_in h0
 obtain ⟨s, rfl, hs⟩ := str_in h1
 exact law_back l s hl h hs
end Go.Proofs.YtmhlgjmepkcniaaGreatDoor
