/-
  No cell of these rows narrows 'for every input' (looked for: loops, veiled, ifaces, maps, wideKeys, modest, calm, conditions, laid).
  DERIVED. THE GIVEN ROWS OF THIS SEAT. 6 by the template 'for every input the law returns true; each argument reads behind the call as it read before'; 0 by the template 'total and deterministic' (their statements: YtfpmimnbocflpaaTotals.lean).
  GIVEN WITH THE SEED: the statements are not yours to turn. If you find one false, say at which input.
  Laid BY PROGRAM, IN A SANDBOX (cutbox-rows.mjs): the forced cells as the released guide's own fill.sh prints them over the translation 71fd90d0d942792b… (all of the seat's roots in one cut). By AI agents, Wed Nov 11 2026. No macro, syntax, notation, axiom, sorry.
-/
import Derived.Test.YtfpmimnbocflpaaChecked
import GoSem.Claim
import GoSem.ClaimJoined
import GoSem.ClaimMapViews
import Derived.JoinedTies
import Derived.KernelRfl
namespace Go.Proofs.Ytfpmimnbocflpaa
/- THE CELL 'sum', in the pinned program and in every row, IS THE sha256 OF THE DUMP (.gsa) THAT YtfpmimnbocflpaaProg.lean LOADS. Nothing in Lean hashes anything: it is a label: what it is worth is what the hold of that sum in a sandbox is worth. -/
noncomputable def Try.pinned : Pinned := { name := "ytfpmimnbocflpaa", sum := "71fd90d0d942792bc0109625208cbdc5e83c5df26cfed78920eed00c14e77fa2", checked := Try.checked }
namespace Rows
def none {H : Type} : Left H := { results := [], args := [] }

/-- 'besomlaw21.PaceAsks': WHATEVER THE INPUT: true; the input reads as it did. -/
def paceAsksSpec : ChangeSpec := { name := "paceAsks", fn := fun _ => fun
  | [d1, d2, d3, d4, d5] => { results := [.lit (.bool true)], args := [d1, d2, d3, d4, d5] }
  | _ => none }
def paceAsksRow : OpenClaim := { program := "ytfpmimnbocflpaa", sum := "71fd90d0d942792bc0109625208cbdc5e83c5df26cfed78920eed00c14e77fa2", func := "besom/besomlaw21.PaceAsks", spec := "paceAsks", unfollowed := true, recurses := true, apart := false }
def PaceAsksSaid : Prop := paceAsksRow.holds Try.pinned (OpenSpec.ofChange paceAsksSpec)

/-- ITS FALSE NEIGHBOUR: 'it returns false'. Refute it at one input. -/
def paceAsksWrong : ChangeSpec := { name := "paceAsks", fn := fun _ => fun
  | [d1, d2, d3, d4, d5] => { results := [.lit (.bool false)], args := [d1, d2, d3, d4, d5] }
  | _ => none }
def PaceAsksWrongFalsely : Prop := paceAsksRow.holds Try.pinned (OpenSpec.ofChange paceAsksWrong)

/-- 'besomlaw21.PaceDoes': WHATEVER THE INPUT: true; the input reads as it did. -/
def paceDoesSpec : ChangeSpec := { name := "paceDoes", fn := fun _ => fun
  | [d1, d2, d3, d4, d5] => { results := [.lit (.bool true)], args := [d1, d2, d3, d4, d5] }
  | _ => none }
def paceDoesRow : OpenClaim := { program := "ytfpmimnbocflpaa", sum := "71fd90d0d942792bc0109625208cbdc5e83c5df26cfed78920eed00c14e77fa2", func := "besom/besomlaw21.PaceDoes", spec := "paceDoes", unfollowed := true, recurses := true, apart := false }
def PaceDoesSaid : Prop := paceDoesRow.holds Try.pinned (OpenSpec.ofChange paceDoesSpec)

/-- ITS FALSE NEIGHBOUR: 'it returns false'. Refute it at one input. -/
def paceDoesWrong : ChangeSpec := { name := "paceDoes", fn := fun _ => fun
  | [d1, d2, d3, d4, d5] => { results := [.lit (.bool false)], args := [d1, d2, d3, d4, d5] }
  | _ => none }
def PaceDoesWrongFalsely : Prop := paceDoesRow.holds Try.pinned (OpenSpec.ofChange paceDoesWrong)

/-- 'besomlaw21.PaceOrder': WHATEVER THE INPUT: true; the input reads as it did. -/
def paceOrderSpec : ChangeSpec := { name := "paceOrder", fn := fun _ => fun
  | [d1, d2] => { results := [.lit (.bool true)], args := [d1, d2] }
  | _ => none }
def paceOrderRow : OpenClaim := { program := "ytfpmimnbocflpaa", sum := "71fd90d0d942792bc0109625208cbdc5e83c5df26cfed78920eed00c14e77fa2", func := "besom/besomlaw21.PaceOrder", spec := "paceOrder", unfollowed := true, recurses := true, apart := false }
def PaceOrderSaid : Prop := paceOrderRow.holds Try.pinned (OpenSpec.ofChange paceOrderSpec)

/-- ITS FALSE NEIGHBOUR: 'it returns false'. Refute it at one input. -/
def paceOrderWrong : ChangeSpec := { name := "paceOrder", fn := fun _ => fun
  | [d1, d2] => { results := [.lit (.bool false)], args := [d1, d2] }
  | _ => none }
def PaceOrderWrongFalsely : Prop := paceOrderRow.holds Try.pinned (OpenSpec.ofChange paceOrderWrong)

/-- 'besomlaw21.PacePaid': WHATEVER THE INPUT: true; the input reads as it did. -/
def pacePaidSpec : ChangeSpec := { name := "pacePaid", fn := fun _ => fun
  | [d1, d2, d3, d4] => { results := [.lit (.bool true)], args := [d1, d2, d3, d4] }
  | _ => none }
def pacePaidRow : OpenClaim := { program := "ytfpmimnbocflpaa", sum := "71fd90d0d942792bc0109625208cbdc5e83c5df26cfed78920eed00c14e77fa2", func := "besom/besomlaw21.PacePaid", spec := "pacePaid", unfollowed := true, recurses := true, apart := false }
def PacePaidSaid : Prop := pacePaidRow.holds Try.pinned (OpenSpec.ofChange pacePaidSpec)

/-- ITS FALSE NEIGHBOUR: 'it returns false'. Refute it at one input. -/
def pacePaidWrong : ChangeSpec := { name := "pacePaid", fn := fun _ => fun
  | [d1, d2, d3, d4] => { results := [.lit (.bool false)], args := [d1, d2, d3, d4] }
  | _ => none }
def PacePaidWrongFalsely : Prop := pacePaidRow.holds Try.pinned (OpenSpec.ofChange pacePaidWrong)

/-- 'besomlaw21.PaceWork': WHATEVER THE INPUT: true; the input reads as it did. -/
def paceWorkSpec : ChangeSpec := { name := "paceWork", fn := fun _ => fun
  | [d1, d2, d3] => { results := [.lit (.bool true)], args := [d1, d2, d3] }
  | _ => none }
def paceWorkRow : OpenClaim := { program := "ytfpmimnbocflpaa", sum := "71fd90d0d942792bc0109625208cbdc5e83c5df26cfed78920eed00c14e77fa2", func := "besom/besomlaw21.PaceWork", spec := "paceWork", unfollowed := true, recurses := true, apart := false }
def PaceWorkSaid : Prop := paceWorkRow.holds Try.pinned (OpenSpec.ofChange paceWorkSpec)

/-- ITS FALSE NEIGHBOUR: 'it returns false'. Refute it at one input. -/
def paceWorkWrong : ChangeSpec := { name := "paceWork", fn := fun _ => fun
  | [d1, d2, d3] => { results := [.lit (.bool false)], args := [d1, d2, d3] }
  | _ => none }
def PaceWorkWrongFalsely : Prop := paceWorkRow.holds Try.pinned (OpenSpec.ofChange paceWorkWrong)

/-- 'besomlaw21.PaceOwn': WHATEVER THE INPUT: true; the input reads as it did. -/
def paceOwnSpec : ChangeSpec := { name := "paceOwn", fn := fun _ => fun
  | [d1, d2, d3] => { results := [.lit (.bool true)], args := [d1, d2, d3] }
  | _ => none }
def paceOwnRow : OpenClaim := { program := "ytfpmimnbocflpaa", sum := "71fd90d0d942792bc0109625208cbdc5e83c5df26cfed78920eed00c14e77fa2", func := "besom/besomlaw21.PaceOwn", spec := "paceOwn", unfollowed := true, recurses := true, apart := false }
def PaceOwnSaid : Prop := paceOwnRow.holds Try.pinned (OpenSpec.ofChange paceOwnSpec)

/-- ITS FALSE NEIGHBOUR: 'it returns false'. Refute it at one input. -/
def paceOwnWrong : ChangeSpec := { name := "paceOwn", fn := fun _ => fun
  | [d1, d2, d3] => { results := [.lit (.bool false)], args := [d1, d2, d3] }
  | _ => none }
def PaceOwnWrongFalsely : Prop := paceOwnRow.holds Try.pinned (OpenSpec.ofChange paceOwnWrong)

/- THE SECOND FORM. 'bulk': how many values and letters a reading holds, each counted each time it is reached (what is shared counts as often as it is met; a slice's spare places count too). A statement '..UptoSaid' is the law's where the arguments, and the package variables that the reading takes, are together of bulk at most 1048576: NARROWER than '..Said'. Prove '..Said' where nothing that the law and all that it calls make is longer than what came in: it says more and counts as full. Else prove '..UptoSaid'. A law counts once. -/
mutual
def uptoBulk {H : Type} : DataW H → Nat
  | .lit (.string bytes) => bytes.length + 1
  | .lit _ => 1
  | .nil => 1
  | .ptr d => uptoBulk d + 1
  | .slice elems spare => uptoBulkAll elems + uptoBulkAll spare + 1
  | .agg parts => uptoBulkAll parts + 1
  | .iface _ d => uptoBulk d + 1
  | .map entries => uptoBulkEntries entries + 1
  | .held _ => 1
def uptoBulkAll {H : Type} : List (DataW H) → Nat
  | [] => 0
  | d :: r => uptoBulk d + uptoBulkAll r
def uptoBulkEntries {H : Type} : List (Lit × DataW H) → Nat
  | [] => 0
  | x :: r => uptoBulkEntry x + uptoBulkEntries r
def uptoBulkEntry {H : Type} : Lit × DataW H → Nat
  | (.string bytes, d) => bytes.length + uptoBulk d + 1
  | (_, d) => uptoBulk d + 1
 end
def uptoSmall : (H : Type) → List (DataW H) → Bool := fun _ ds => decide (uptoBulkAll ds ≤ 1048576)
def OpenSpec.upto (s : _root_.Go.ChangeSpec) : _root_.Go.OpenSpec := { _root_.Go.OpenSpec.ofChange s with cond := some uptoSmall }

/-- 'besomlaw21.PaceAsks', WHERE WHAT IT READS IS OF BULK AT MOST 1048576: true; the input reads as it did. -/
def paceAsksUptoRow : OpenClaim := { program := "ytfpmimnbocflpaa", sum := "71fd90d0d942792bc0109625208cbdc5e83c5df26cfed78920eed00c14e77fa2", func := "besom/besomlaw21.PaceAsks", spec := "paceAsks", unfollowed := true, recurses := true, apart := false, narrowed := true }
def PaceAsksUptoSaid : Prop := paceAsksUptoRow.holds Try.pinned (OpenSpec.upto paceAsksSpec)

/-- 'besomlaw21.PaceDoes', WHERE WHAT IT READS IS OF BULK AT MOST 1048576: true; the input reads as it did. -/
def paceDoesUptoRow : OpenClaim := { program := "ytfpmimnbocflpaa", sum := "71fd90d0d942792bc0109625208cbdc5e83c5df26cfed78920eed00c14e77fa2", func := "besom/besomlaw21.PaceDoes", spec := "paceDoes", unfollowed := true, recurses := true, apart := false, narrowed := true }
def PaceDoesUptoSaid : Prop := paceDoesUptoRow.holds Try.pinned (OpenSpec.upto paceDoesSpec)

/-- 'besomlaw21.PaceOrder', WHERE WHAT IT READS IS OF BULK AT MOST 1048576: true; the input reads as it did. -/
def paceOrderUptoRow : OpenClaim := { program := "ytfpmimnbocflpaa", sum := "71fd90d0d942792bc0109625208cbdc5e83c5df26cfed78920eed00c14e77fa2", func := "besom/besomlaw21.PaceOrder", spec := "paceOrder", unfollowed := true, recurses := true, apart := false, narrowed := true }
def PaceOrderUptoSaid : Prop := paceOrderUptoRow.holds Try.pinned (OpenSpec.upto paceOrderSpec)

/-- 'besomlaw21.PacePaid', WHERE WHAT IT READS IS OF BULK AT MOST 1048576: true; the input reads as it did. -/
def pacePaidUptoRow : OpenClaim := { program := "ytfpmimnbocflpaa", sum := "71fd90d0d942792bc0109625208cbdc5e83c5df26cfed78920eed00c14e77fa2", func := "besom/besomlaw21.PacePaid", spec := "pacePaid", unfollowed := true, recurses := true, apart := false, narrowed := true }
def PacePaidUptoSaid : Prop := pacePaidUptoRow.holds Try.pinned (OpenSpec.upto pacePaidSpec)

/-- 'besomlaw21.PaceWork', WHERE WHAT IT READS IS OF BULK AT MOST 1048576: true; the input reads as it did. -/
def paceWorkUptoRow : OpenClaim := { program := "ytfpmimnbocflpaa", sum := "71fd90d0d942792bc0109625208cbdc5e83c5df26cfed78920eed00c14e77fa2", func := "besom/besomlaw21.PaceWork", spec := "paceWork", unfollowed := true, recurses := true, apart := false, narrowed := true }
def PaceWorkUptoSaid : Prop := paceWorkUptoRow.holds Try.pinned (OpenSpec.upto paceWorkSpec)

/-- 'besomlaw21.PaceOwn', WHERE WHAT IT READS IS OF BULK AT MOST 1048576: true; the input reads as it did. -/
def paceOwnUptoRow : OpenClaim := { program := "ytfpmimnbocflpaa", sum := "71fd90d0d942792bc0109625208cbdc5e83c5df26cfed78920eed00c14e77fa2", func := "besom/besomlaw21.PaceOwn", spec := "paceOwn", unfollowed := true, recurses := true, apart := false, narrowed := true }
def PaceOwnUptoSaid : Prop := paceOwnUptoRow.holds Try.pinned (OpenSpec.upto paceOwnSpec)

end Rows
end Go.Proofs.Ytfpmimnbocflpaa
