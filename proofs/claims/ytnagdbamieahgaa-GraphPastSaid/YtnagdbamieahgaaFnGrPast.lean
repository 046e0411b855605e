/- GraphPast holds for every input. Conditions: none. -/
import Derived.Test.YtnagdbamieahgaaGrLp
import Derived.Test.YtnagdbamieahgaaRows
namespace Go.Proofs.Ytnagdbamieahgaa
open Go.Ab Go.RowKit

theorem graphPast_lifted (os : Os) (started : os.Started) (H : Type) (enc : TypeId × Value → H) :
    ReturnsInHanded {} Try.checked os 5 .any (Rows.graphPastSpec.pre6 enc Try.prog Try.f5 Rows.graphPastRow.domain false) (Rows.graphPastSpec.post enc Try.prog Try.f5 false true false false) := by
  refine law_lifted (C := CT) (K := Try.checked) hT (by kernel_rfl) (R := [3, 22, 42, 39, 35, 40, 75, 58, 9]) (by kernel_rfl) (by kernel_rfl) started (by kernel_rfl) Try.func5
    (ChangeSpec.witness6 (enc := enc) (C := Try.checked) false ⟨#[], #[.slice none 0 0, .int .i64 0, .int .i64 0, .int .i64 0], []⟩ 8 (by kernel_rfl) (by kernel_rfl) (by kernel_rfl) (by kernel_rfl))
    rfl ?_ (tb := 4) rfl (by kernel_rfl) (by kernel_rfl) ?_
  · intro H ds hl
    match ds, hl with
    | [d0, d1, d2, d3], _ => rfl
  · intro args h
    have hlen := h.1
    match args, h with
    | [x0, x1, x2, x3], h =>
      obtain ⟨ql, h⟩ := h.head
      obtain ⟨qi, h⟩ := h.head
      obtain ⟨qk, h⟩ := h.head
      obtain ⟨qj, h⟩ := h.head
      obtain ⟨l, rfl, hl, rl⟩ := inv_txs35 ql
      obtain ⟨i, rfl, ri⟩ := qi.inv_i64 ty3
      obtain ⟨k, rfl, rk⟩ := qk.inv_i64 ty3
      obtain ⟨j, rfl, rj⟩ := qj.inv_i64 ty3
      exact law_grpast l hl i k j
    | [], h => exact absurd h.1 (by simp [Try.f5])
    | [_], h => exact absurd h.1 (by simp [Try.f5])
    | [_, _], h => exact absurd h.1 (by simp [Try.f5])
    | [_, _, _], h => exact absurd h.1 (by simp [Try.f5])
    | _ :: _ :: _ :: _ :: _ :: _, h => exact absurd h.1 (by simp [Try.f5])
theorem graphPast_holds : Rows.GraphPastSaid := by
  exact OpenClaim.holds_of_wide 5 Try.f5 rfl rfl rfl rfl rfl rfl rfl ⟨rfl, rfl, rfl, rfl, rfl⟩ rfl rfl rfl rfl rfl (by kernel_rfl) Try.func5 (by kernel_rfl)
    (of_decide_eq_true (by kernel_rfl)) (by unfold Func.isWrapper; first | (rw [if_pos (by decide +kernel)]; kernel_rfl) | (rw [if_neg (by decide +kernel)]; exact ⟨rfl, rfl⟩))
    (fun os started H enc _ => graphPast_lifted os started H enc)
end Go.Proofs.Ytnagdbamieahgaa
