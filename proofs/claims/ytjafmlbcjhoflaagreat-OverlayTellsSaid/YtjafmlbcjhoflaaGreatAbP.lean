/- Sets of numbers, as maps. Conditions: none. -/
import Derived.Test.YtjafmlbcjhoflaaGreatAbT
set_option linter.unusedSimpArgs false
namespace Go.Ab
open Go.Proofs
section
variable {C : Tab}

/-- A set of numbers, in the order in which they came. -/
def setD (s : List Int) (g : Nat) : D := .mp (s.map fun n => .lit (.int .i64 n)) (s.map fun _ => .lit (.bool true)) g

/-- What an iterator has handed out, as numbers. -/
def seenD (l : List Int) : List D := l.map fun n => .lit (.int .i64 n)
end
end Go.Ab
