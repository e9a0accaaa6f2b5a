/- What a pacer is and does: plain functions, no program in sight. -/
import Derived.Test.YtfpmimnbocflpaaCwLib3
namespace Go.Proofs.Ytfpmimnbocflpaa
open Go Go.Cw

/-- A pacer. -/
structure Pc where
  percent : Int
  least : Int
  live : Int
  on : Bool
  est : Int
  room : Int
  credit : Int
  done : Int
  made : Int
  debts : List Int

namespace Pc

/-- Its value: the debts lie at A. -/
abbrev val (p : Pc) (A : Option Addr) (n c : Nat) : Value :=
  .agg #[.int .i64 p.percent, .int .u64 p.least, .int .u64 p.live, .bool p.on, .int .u64 p.est, .int .u64 p.room, .int .u64 p.credit, .int .u64 p.done, .int .u64 p.made, .slice A n c]

/-- Its fields' values. -/
abbrev vals (p : Pc) (A : Option Addr) (n c : Nat) : List Value :=
  [.int .i64 p.percent, .int .u64 p.least, .int .u64 p.live, .bool p.on, .int .u64 p.est, .int .u64 p.room, .int .u64 p.credit, .int .u64 p.done, .int .u64 p.made, .slice A n c]

/-- The numbers are of their kinds. -/
structure Typed (p : Pc) : Prop where
  percent : -9223372036854775808 ≤ p.percent ∧ p.percent < 9223372036854775808
  least : 0 ≤ p.least ∧ p.least < 18446744073709551616
  live : 0 ≤ p.live ∧ p.live < 18446744073709551616
  est : 0 ≤ p.est ∧ p.est < 18446744073709551616
  room : 0 ≤ p.room ∧ p.room < 18446744073709551616
  credit : 0 ≤ p.credit ∧ p.credit < 18446744073709551616
  done : 0 ≤ p.done ∧ p.done < 18446744073709551616
  made : 0 ≤ p.made ∧ p.made < 18446744073709551616
  debts : ∀ d ∈ p.debts, 0 ≤ d ∧ d < 18446744073709551616
  length : p.debts.length * 8 ≤ 140737488355328 - 4096

/-- All numbers are at most the most. -/
def Small (p : Pc) : Prop := p.least ≤ 1099511627776 ∧ p.live ≤ 1099511627776 ∧ p.est ≤ 1099511627776 ∧ p.room ≤ 1099511627776 ∧ p.credit ≤ 1099511627776 ∧ p.done ≤ 1099511627776 ∧ p.made ≤ 1099511627776 ∧ ∀ d ∈ p.debts, d ≤ 1099511627776

/-- One that is not on has nothing. -/
def Still (p : Pc) : Prop := p.est = 0 ∧ p.room = 0 ∧ p.credit = 0 ∧ p.done = 0 ∧ p.made = 0 ∧ ∀ d ∈ p.debts, d = 0

/-- A right one. -/
def Right (p : Pc) : Prop :=
  (1 ≤ p.debts.length ∧ p.debts.length ≤ 4) ∧ (1 ≤ p.percent ∧ p.percent ≤ 10000) ∧ 1 ≤ p.least ∧ p.Small ∧ (p.on = true → 1 ≤ p.est ∧ 1 ≤ p.room) ∧ (p.on = false → p.Still)

instance (p : Pc) : Decidable p.Small := inferInstanceAs (Decidable (_ ∧ _))
instance (p : Pc) : Decidable p.Still := inferInstanceAs (Decidable (_ ∧ _))
instance (p : Pc) : Decidable p.Right := inferInstanceAs (Decidable (_ ∧ _))

/-- Why it is not right. -/
def check (p : Pc) : Int := if p.Right then 0 else 2

def goal (p : Pc) : Int := min 1099511627776 (max p.least (p.live + p.live * p.percent / 100))

def trigger (p : Pc) : Int := p.live + (p.goal - p.live) * 7 / 10

end Pc

end Go.Proofs.Ytfpmimnbocflpaa
