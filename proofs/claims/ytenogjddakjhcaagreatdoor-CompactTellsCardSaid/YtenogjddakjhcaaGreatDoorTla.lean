/- CompactTells: the law's call. -/
import Derived.Test.YtenogjddakjhcaaGreatDoorTm2
import Derived.Test.YtenogjddakjhcaaGreatDoorMo
namespace Go.Proofs.YtenogjddakjhcaaGreatDoor
open Go Go.Cw Go.Dw Go.Proofs
set_option linter.unusedVariables false
theorem tells_C (zs ys : List Mv) (id : Int) (A B : Option Addr) (ca cb : Nat) (w : World) (hA : MvsAt w.heap.size w (.slice A zs.length ca) zs) (hB : MvsAt w.heap.size w (.slice B ys.length cb) ys) (la : zs.length ≤ ca) (lb : ys.length ≤ cb) (sa : zs.length * 16 ≤ 140737488351232) (sb : ys.length * 16 ≤ 140737488351232)
 (hG : ∃ rest t, Box w 0 (debT ++ rest) t) : Calls Tryz.prog 3 #[.slice A zs.length ca, .slice B ys.length cb, .int .u64 id] w fun e w' => e = .returned (.bool true) ∧ Fr F0 w w' :=
 law_of (s := s3) (a := [[.l (dM zs)], [.l (dM ys)], [.v (.int .u64 id)]]) (vs := [.slice A zs.length ca, .slice B ys.length cb, .int .u64 id]) s3_ok rfl rfl (law_tells zs ys id sa sb) (repA_moves hA la sa (fun _ h => h) (repA_moves hB lb sb (fun _ h => h) (repA_int .nil))) (fun x hx => by obtain rfl := List.mem_singleton.1 hx; exact hG) (by
  obtain ⟨rest, t, hb⟩ := hG
  have := (Array.getElem?_eq_some_iff.1 hb).1
  omega)
end Go.Proofs.YtenogjddakjhcaaGreatDoor
