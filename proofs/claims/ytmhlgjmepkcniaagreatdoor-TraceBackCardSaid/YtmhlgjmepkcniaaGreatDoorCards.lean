/-
  DERIVED. GIVEN WITH THE SEED: THE CARDS: each row of YtmhlgjmepkcniaaGreatDoorRows.lean that lists a variable, with what it lists TIED to the program's text (the seventh form; the later family's looks); each row that meets fmt, with fmt's text TOLD by the authors' own Lean function (tested against real Go, not proved from fmt's source: count such statements apart). THE CARD IS WHAT COUNTS. Prove the row's statement (the work); the ties are given (YtmhlgjmepkcniaaGreatDoorTie.lean); close each card by the builder's one call (the guide's Derived/Test/ToyasCard.lean, 'card_holds'). Laid BY PROGRAM, IN A SANDBOX (cutbox-door.mjs). By AI agents, Wed Nov 11 2026. No macro, syntax, notation, axiom, sorry.
-/
import Derived.Test.YtmhlgjmepkcniaaGreatDoorRows
import GoSem.ClaimSeven
namespace Go.Proofs.YtmhlgjmepkcniaaGreatDoor
namespace Rows

/-- THE TIED CARD OF 'besomlaw28.TraceCodes'. -/
def traceCodesCard : Claim7 := { stood := { row := traceCodesRow, standIns := [], harness := (true, "1cef0d17c6a4aeaf83c3910e3b599835e219bc288581bf1fb289afea2da66f1e"), looks := false }, kinds := [], alts := [], laidByText := true, laidKinds := [.data], laidTests := true, laidLooks := .later }
def TraceCodesCardSaid : Prop := Claim7.holds Tryz.pinned (.plain (OpenSpec.ofChange traceCodesSpec)) traceCodesCard

/-- THE TIED CARD OF 'besomlaw28.TraceBack'. -/
def traceBackCard : Claim7 := { stood := { row := traceBackRow, standIns := [], harness := (true, "1cef0d17c6a4aeaf83c3910e3b599835e219bc288581bf1fb289afea2da66f1e"), looks := false }, kinds := [], alts := [], laidByText := true, laidKinds := [.data], laidTests := true, laidLooks := .later }
def TraceBackCardSaid : Prop := Claim7.holds Tryz.pinned (.plain (OpenSpec.ofChange traceBackSpec)) traceBackCard

/-- THE SECOND FORM's CARD OF 'besomlaw28.TraceCodes'. -/
def traceCodesUptoCard : Claim7 := { stood := { row := traceCodesUptoRow, standIns := [], harness := (true, "1cef0d17c6a4aeaf83c3910e3b599835e219bc288581bf1fb289afea2da66f1e"), looks := false }, kinds := [], alts := [], laidByText := true, laidKinds := [.data], laidTests := true, laidLooks := .later }
def TraceCodesUptoCardSaid : Prop := Claim7.holds Tryz.pinned (.plain (OpenSpec.upto traceCodesSpec)) traceCodesUptoCard

/-- THE SECOND FORM's CARD OF 'besomlaw28.TraceBack'. -/
def traceBackUptoCard : Claim7 := { stood := { row := traceBackUptoRow, standIns := [], harness := (true, "1cef0d17c6a4aeaf83c3910e3b599835e219bc288581bf1fb289afea2da66f1e"), looks := false }, kinds := [], alts := [], laidByText := true, laidKinds := [.data], laidTests := true, laidLooks := .later }
def TraceBackUptoCardSaid : Prop := Claim7.holds Tryz.pinned (.plain (OpenSpec.upto traceBackSpec)) traceBackUptoCard
end Rows
end Go.Proofs.YtmhlgjmepkcniaaGreatDoor
