/- Transactions: few, and the same; the document's functions. Conditions: none. -/
import Derived.Test.YtnagdbamieahgaaTxS
set_option linter.unusedSimpArgs false
namespace Go.Ab
open Go.Proofs

theorem eqB_op (a b : OpR) : eqB (opD a) (opD b) = decide (a = b) := eqB_eq (by
  cases a; cases b
  simp [and_assoc])
theorem eqB_op' (a b : OpR) : eqB (.agg [.lit (.int .i64 a.kind), .lit (.string a.key), .lit (.string a.field), .lit (.int .i64 a.inner), .lit (.int .i64 a.act), .lit (.int .i64 a.n), .lit (.string a.text), markD a.rp a.rs a.ri])
    (.agg [.lit (.int .i64 b.kind), .lit (.string b.key), .lit (.string b.field), .lit (.int .i64 b.inner), .lit (.int .i64 b.act), .lit (.int .i64 b.n), .lit (.string b.text), markD b.rp b.rs b.ri]) = decide (a = b) := eqB_op a b
theorem eqB_vec (a b : List Int) : eqB (ints a) (ints b) = decide (a = b) := eqB_ints a b

def sameTx (a b : TxR) : Bool := decide (a.peer = b.peer) && decide (a.seq = b.seq) && decide (a.deps = b.deps) && decide (a.time = b.time) && decide (a.ops = b.ops)
end Go.Ab
