/- Contracts by hand, for the third layer: what is reached, but never run, tells nothing. -/
import Derived.Test.YtmhlgjmepkcniaaGreatDoorE4
import Derived.Test.YtmhlgjmepkcniaaGreatDoorShT
namespace Go.Proofs.YtmhlgjmepkcniaaGreatDoor
open Go Go.Cw Go.Dw
abbrev LD := List (List D)
def debT : List Value := Lib.deBruijn64tab.map fun n => .int .u8 (n : Nat)
def glT : List (Nat × List Value) := [(0, debT)]
theorem none_ok {P : Program} {Gl : List (Nat × List Value)} {g : FuncId} {ps rs : List Pm} {af : List (Nat × Shp)} : FOk P Gl g ⟨ps, rs, af, fun _ => none⟩ := by
 intro a w Z vs f hpre
 cases hpre
theorem tabAt_of {w : World} {Q : Nat → Prop} (h : GOk glT w Q) : TabAt 0 Lib.deBruijn64tab w := by
 intro j hj
 obtain ⟨_, rest, t, hb⟩ := h (0, debT) (List.mem_singleton.2 rfl)
 rw [box_cell hb]
 have h1 : debT[j]? = some (.int .u8 ((Lib.deBruijn64tab.getD j 0 : Nat) : Int)) := by
  unfold debT
  rw [List.getElem?_map, List.getD_eq_getElem?_getD, List.getElem?_eq_getElem hj]
  rfl
 rw [List.getElem?_append_left (List.getElem?_eq_some_iff.1 h1).1]; exact h1
def tzG (x : Int) : Option Int := if 0 ≤ x ∧ x < 18446744073709551616 then some (Lib.ctz 64 x.toNat) else none
def s239_F (a : LD) : Option LD := aC a fun r a => aI .u64 r fun x r => aN r <| aZ a <| (tzG x).map fun y => [[.v (.int .i64 y)]]
def s239 : FSp := ⟨[⟨false, [.v (.int .u64)], false⟩], [⟨false, [.v (.int .i64)], false⟩], [], s239_F⟩
theorem s239_ok : FOk Tryz.prog glT 239 s239 := ok_iiG tzG fun x y w Q hG h => by
 unfold tzG at h
 split at h
 ·rename_i hx
  obtain rfl := Option.some.inj h
  have := Tryz.tz64_calls x.toNat (by omega) w (fun _ => tabAt_of hG)
  rwa [Int.toNat_of_nonneg hx.1] at this
 ·cases h
end Go.Proofs.YtmhlgjmepkcniaaGreatDoor
