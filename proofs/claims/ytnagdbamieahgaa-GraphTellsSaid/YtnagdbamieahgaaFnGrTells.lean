/- GraphTells holds for every input. Conditions: none. -/
import Derived.Test.YtnagdbamieahgaaGrX
import Derived.Test.YtnagdbamieahgaaRows
namespace Go.Proofs.Ytnagdbamieahgaa
open Go.Ab Go.RowKit

theorem graphTells_lifted (os : Os) (started : os.Started) (H : Type) (enc : TypeId × Value → H) :
    ReturnsInHanded {} Try.checked os 3 .any (Rows.graphTellsSpec.pre6 enc Try.prog Try.f3 Rows.graphTellsRow.domain false) (Rows.graphTellsSpec.post enc Try.prog Try.f3 false true false false) := by
  refine law_lifted (C := CT) (K := Try.checked) hT (by kernel_rfl) (R := [3, 22, 42, 39, 35, 40, 75, 58, 9]) (by kernel_rfl) (by kernel_rfl) started (by kernel_rfl) Try.func3
    (ChangeSpec.witness6 (enc := enc) (C := Try.checked) false ⟨#[], #[.slice none 0 0, .int .i64 0, .int .i64 0], []⟩ 8 (by kernel_rfl) (by kernel_rfl) (by kernel_rfl) (by kernel_rfl))
    rfl ?_ (tb := 4) rfl (by kernel_rfl) (by kernel_rfl) ?_
  · intro H ds hl
    match ds, hl with
    | [d0, d1, d2], _ => rfl
  · intro args h
    have hlen := h.1
    match args, h with
    | [x0, x1, x2], h =>
      obtain ⟨ql, h⟩ := h.head
      obtain ⟨qi, h⟩ := h.head
      obtain ⟨qk, h⟩ := h.head
      obtain ⟨l, rfl, hl, rl⟩ := inv_txs35 ql
      obtain ⟨i, rfl, ri⟩ := qi.inv_i64 ty3
      obtain ⟨k, rfl, rk⟩ := qk.inv_i64 ty3
      exact law_grtells l hl i k
    | [], h => exact absurd h.1 (by simp [Try.f3])
    | [_], h => exact absurd h.1 (by simp [Try.f3])
    | [_, _], h => exact absurd h.1 (by simp [Try.f3])
    | _ :: _ :: _ :: _ :: _, h => exact absurd h.1 (by simp [Try.f3])
theorem graphTells_holds : Rows.GraphTellsSaid := by
  exact OpenClaim.holds_of_wide 3 Try.f3 rfl rfl rfl rfl rfl rfl rfl ⟨rfl, rfl, rfl, rfl, rfl⟩ rfl rfl rfl rfl rfl (by kernel_rfl) Try.func3 (by kernel_rfl)
    (of_decide_eq_true (by kernel_rfl)) (by unfold Func.isWrapper; first | (rw [if_pos (by decide +kernel)]; kernel_rfl) | (rw [if_neg (by decide +kernel)]; exact ⟨rfl, rfl⟩))
    (fun os started H enc _ => graphTells_lifted os started H enc)
end Go.Proofs.Ytnagdbamieahgaa
