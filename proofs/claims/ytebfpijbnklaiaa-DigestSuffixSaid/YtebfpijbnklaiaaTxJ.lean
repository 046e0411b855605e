/- What lists of transactions look like. Conditions: none. -/
import Derived.Test.YtebfpijbnklaiaaTxI
import Derived.Test.YtebfpijbnklaiaaStF
namespace Go.Ab
open Go.Proofs
theorem inv_txs {d : D} (h : HasTy CT 22 d) : ∃ l : List TxR, d = txsD l ∧ TxsOk l ∧ l.length ≤ maxLen := by
  obtain ⟨os, rfl, ho1, ho2⟩ := h.inv_slice ty22
  obtain ⟨l, rfl, hl⟩ := all_of (enc := txD) (Q := fun t => t.deps.length = 13 ∧ t.ops.length ≤ 9223372036854775807) fun x hx => inv_tx (ho2 x hx)
  exact ⟨l, rfl, hl, by simpa using ho1⟩
end Go.Ab
