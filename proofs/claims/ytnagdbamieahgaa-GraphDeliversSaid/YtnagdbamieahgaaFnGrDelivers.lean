/- GraphDelivers holds for every input. Conditions: none. -/
import Derived.Test.YtnagdbamieahgaaGrLe
import Derived.Test.YtnagdbamieahgaaRows
namespace Go.Proofs.Ytnagdbamieahgaa
open Go.Ab Go.RowKit

theorem graphDelivers_lifted (os : Os) (started : os.Started) (H : Type) (enc : TypeId × Value → H) :
    ReturnsInHanded {} Try.checked os 6 .any (Rows.graphDeliversSpec.pre6 enc Try.prog Try.f6 Rows.graphDeliversRow.domain false) (Rows.graphDeliversSpec.post enc Try.prog Try.f6 false true false false) := by
  refine law_lifted (C := CT) (K := Try.checked) hT (by kernel_rfl) (R := [3, 22, 42, 39, 35, 40, 75, 58, 9]) (by kernel_rfl) (by kernel_rfl) started (by kernel_rfl) Try.func6
    (ChangeSpec.witness6 (enc := enc) (C := Try.checked) false ⟨#[], #[.slice none 0 0, .int .i64 0], []⟩ 8 (by kernel_rfl) (by kernel_rfl) (by kernel_rfl) (by kernel_rfl))
    rfl ?_ (tb := 4) rfl (by kernel_rfl) (by kernel_rfl) ?_
  · intro H ds hl
    match ds, hl with
    | [d0, d1], _ => rfl
  · intro args h
    have hlen := h.1
    match args, h with
    | [x0, x1], h =>
      obtain ⟨ql, h⟩ := h.head
      obtain ⟨qn, h⟩ := h.head
      obtain ⟨l, rfl, hl, rl⟩ := inv_txs35 ql
      obtain ⟨n, rfl, rn⟩ := qn.inv_i64 ty3
      exact law_grdelivers l hl n
    | [], h => exact absurd h.1 (by simp [Try.f6])
    | [_], h => exact absurd h.1 (by simp [Try.f6])
    | _ :: _ :: _ :: _, h => exact absurd h.1 (by simp [Try.f6])
theorem graphDelivers_holds : Rows.GraphDeliversSaid := by
  exact OpenClaim.holds_of_wide 6 Try.f6 rfl rfl rfl rfl rfl rfl rfl ⟨rfl, rfl, rfl, rfl, rfl⟩ rfl rfl rfl rfl rfl (by kernel_rfl) Try.func6 (by kernel_rfl)
    (of_decide_eq_true (by kernel_rfl)) (by unfold Func.isWrapper; first | (rw [if_pos (by decide +kernel)]; kernel_rfl) | (rw [if_neg (by decide +kernel)]; exact ⟨rfl, rfl⟩))
    (fun os started H enc _ => graphDelivers_lifted os started H enc)
end Go.Proofs.Ytnagdbamieahgaa
