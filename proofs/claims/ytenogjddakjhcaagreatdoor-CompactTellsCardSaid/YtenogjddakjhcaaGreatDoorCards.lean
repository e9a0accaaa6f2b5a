/-
  DERIVED. GIVEN WITH THE SEED: THE CARDS: each row of YtenogjddakjhcaaGreatDoorRows.lean that lists a variable, with what it lists TIED to the program's text (the seventh form; the later family's looks); each row that meets fmt, with fmt's text TOLD by the authors' own Lean function (tested against real Go, not proved from fmt's source: count such statements apart). THE CARD IS WHAT COUNTS. Prove the row's statement (the work); the ties are given (YtenogjddakjhcaaGreatDoorTie.lean); close each card by the builder's one call (the guide's Derived/Test/ToyasCard.lean, 'card_holds'). Laid BY PROGRAM, IN A SANDBOX (cutbox-door.mjs). By AI agents, Wed Nov 11 2026. No macro, syntax, notation, axiom, sorry.
-/
import Derived.Test.YtenogjddakjhcaaGreatDoorRows
import GoSem.ClaimSeven
namespace Go.Proofs.YtenogjddakjhcaaGreatDoor
namespace Rows

/-- THE TIED CARD OF 'besomlaw33.CompactTells'. -/
def compactTellsCard : Claim7 := { stood := { row := compactTellsRow, standIns := [], harness := (true, "936c2e7385b2cc619c56fac4277ee7aa0d6536f3be9ffd934bd283107cc3fb9f"), looks := false }, kinds := [], alts := [], laidByText := true, laidKinds := [.data], laidTests := true, laidLooks := .later }
def CompactTellsCardSaid : Prop := Claim7.holds Tryz.pinned (.plain (OpenSpec.ofChange compactTellsSpec)) compactTellsCard

/-- THE TIED CARD OF 'besomlaw33.CompactThen'. -/
def compactThenCard : Claim7 := { stood := { row := compactThenRow, standIns := [], harness := (true, "936c2e7385b2cc619c56fac4277ee7aa0d6536f3be9ffd934bd283107cc3fb9f"), looks := false }, kinds := [], alts := [], laidByText := true, laidKinds := [.data], laidTests := true, laidLooks := .later }
def CompactThenCardSaid : Prop := Claim7.holds Tryz.pinned (.plain (OpenSpec.ofChange compactThenSpec)) compactThenCard

/-- THE SECOND FORM's CARD OF 'besomlaw33.CompactTells'. -/
def compactTellsUptoCard : Claim7 := { stood := { row := compactTellsUptoRow, standIns := [], harness := (true, "936c2e7385b2cc619c56fac4277ee7aa0d6536f3be9ffd934bd283107cc3fb9f"), looks := false }, kinds := [], alts := [], laidByText := true, laidKinds := [.data], laidTests := true, laidLooks := .later }
def CompactTellsUptoCardSaid : Prop := Claim7.holds Tryz.pinned (.plain (OpenSpec.upto compactTellsSpec)) compactTellsUptoCard

/-- THE SECOND FORM's CARD OF 'besomlaw33.CompactThen'. -/
def compactThenUptoCard : Claim7 := { stood := { row := compactThenUptoRow, standIns := [], harness := (true, "936c2e7385b2cc619c56fac4277ee7aa0d6536f3be9ffd934bd283107cc3fb9f"), looks := false }, kinds := [], alts := [], laidByText := true, laidKinds := [.data], laidTests := true, laidLooks := .later }
def CompactThenUptoCardSaid : Prop := Claim7.holds Tryz.pinned (.plain (OpenSpec.upto compactThenSpec)) compactThenUptoCard
end Rows
end Go.Proofs.YtenogjddakjhcaaGreatDoor
