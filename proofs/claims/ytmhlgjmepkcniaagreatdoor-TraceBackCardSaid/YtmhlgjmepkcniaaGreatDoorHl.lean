/- lives' contract, for the third layer: it answers true. -/
import Derived.Test.YtmhlgjmepkcniaaGreatDoorEvZ
import Derived.Test.YtmhlgjmepkcniaaGreatDoorZh
namespace Go.Proofs.YtmhlgjmepkcniaaGreatDoor
open Go Go.Cw Go.Dw
theorem vrs_ints : ∀ l : List Int, Ev.VRs (fun _ => none) (l.map fun n => Value.int .u8 n) (l.map fun n => Value.int .u8 n)
 | [] => .nil
 | _ :: r => .cons .int (vrs_ints r)
theorem deb_eq : debT = deb := by kernel_rfl
theorem glo_of {w : World} {Q : Nat → Prop} (h : GOk glT w Q) : ∀ x ∈ cxR.gl, ∃ cs' rest t, Box w x.1 (cs' ++ rest) t ∧ Ev.VRs (fun _ => none) x.2 cs' := by
 intro x hx
 obtain rfl : x = (0, deb) := List.mem_singleton.1 hx
 obtain ⟨_, rest, t, hb⟩ := h (0, debT) (List.mem_singleton.2 rfl)
 exact ⟨debT, rest, t, hb, by rw [deb_eq]; exact vrs_ints debN⟩
def s11_F (a : List (List D)) : Option (List (List D)) := aZ a (some [[.v (.bool true)]])
def s11 : FSp := ⟨[], [⟨false, [.v .bool], false⟩], [], s11_F⟩
theorem s11_ok : FOk Tryz.prog glT 11 s11 := by
 intro a w Z vs f hpre hR hn hd hz h0 hG
 have hR : RepA w Z [] a vs f := hR
 cases hR
 refine Calls.mono (lives_ok (glo_of hG)) ?_
 rintro e w' ⟨rfl, hF⟩
 refine ⟨[.bool true], rfl, hF.mono (fun _ _ h => h.elim), [], Z, .nil, (fun _ h => by cases h), fun m q hq => ⟨.inl hq, by simp, Nat.lt_of_lt_of_le (hz m q hq).1 hF.size⟩, ?_⟩
 show RepA _ _ _ _ ([.bool true] ++ []) []
 exact .cons (f := []) (fs := []) (p := ⟨false, [.v .bool], false⟩) (ys := [.bool true]) (.cons (f := []) (fs := []) (.v rfl (by simp [Ck.fits])) .nil) (fun _ => rfl) .nil
end Go.Proofs.YtmhlgjmepkcniaaGreatDoor
