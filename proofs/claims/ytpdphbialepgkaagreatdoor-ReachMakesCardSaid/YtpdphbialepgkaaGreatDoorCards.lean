/-
  DERIVED. GIVEN WITH THE SEED: THE CARDS: each row of YtpdphbialepgkaaGreatDoorRows.lean that lists a variable, with what it lists TIED to the program's text (the seventh form; the later family's looks); each row that meets fmt, with fmt's text TOLD by the authors' own Lean function (tested against real Go, not proved from fmt's source: count such statements apart). THE CARD IS WHAT COUNTS. Prove the row's statement (the work); the ties are given (YtpdphbialepgkaaGreatDoorTie.lean); close each card by the builder's one call (the guide's Derived/Test/ToyasCard.lean, 'card_holds'). Laid BY PROGRAM, IN A SANDBOX (cutbox-door.mjs). By AI agents, Wed Nov 11 2026. No macro, syntax, notation, axiom, sorry.
-/
import Derived.Test.YtpdphbialepgkaaGreatDoorRows
import GoSem.ClaimSeven
namespace Go.Proofs.YtpdphbialepgkaaGreatDoor
namespace Rows

/-- THE TIED CARD OF 'besomlaw15.ReachMakes'. -/
def reachMakesCard : Claim7 := { stood := { row := reachMakesRow, standIns := [], harness := (true, "82c8c6b4cd22c44b915f9146d8eb9a063614e79f817b85e71de8b8051825e09b"), looks := false }, kinds := [], alts := [], laidByText := true, laidKinds := [.data], laidTests := true, laidLooks := .later }
def ReachMakesCardSaid : Prop := Claim7.holds Tryz.pinned (.plain (OpenSpec.ofChange reachMakesSpec)) reachMakesCard

/-- THE SECOND FORM's CARD OF 'besomlaw15.ReachMakes'. -/
def reachMakesUptoCard : Claim7 := { stood := { row := reachMakesUptoRow, standIns := [], harness := (true, "82c8c6b4cd22c44b915f9146d8eb9a063614e79f817b85e71de8b8051825e09b"), looks := false }, kinds := [], alts := [], laidByText := true, laidKinds := [.data], laidTests := true, laidLooks := .later }
def ReachMakesUptoCardSaid : Prop := Claim7.holds Tryz.pinned (.plain (OpenSpec.upto reachMakesSpec)) reachMakesUptoCard
end Rows
end Go.Proofs.YtpdphbialepgkaaGreatDoor
