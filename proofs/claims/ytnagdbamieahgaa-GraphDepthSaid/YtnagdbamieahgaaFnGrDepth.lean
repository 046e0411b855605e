/- GraphDepth holds for every input. Conditions: none. -/
import Derived.Test.YtnagdbamieahgaaGrLd
import Derived.Test.YtnagdbamieahgaaRows
namespace Go.Proofs.Ytnagdbamieahgaa
open Go.Ab Go.RowKit

theorem graphDepth_lifted (os : Os) (started : os.Started) (H : Type) (enc : TypeId × Value → H) :
    ReturnsInHanded {} Try.checked os 7 .any (Rows.graphDepthSpec.pre6 enc Try.prog Try.f7 Rows.graphDepthRow.domain false) (Rows.graphDepthSpec.post enc Try.prog Try.f7 false true false false) := by
  refine law_lifted (C := CT) (K := Try.checked) hT (by kernel_rfl) (R := [3, 22, 42, 39, 35, 40, 75, 58, 9]) (by kernel_rfl) (by kernel_rfl) started (by kernel_rfl) Try.func7
    (ChangeSpec.witness6 (enc := enc) (C := Try.checked) false ⟨#[], #[.slice none 0 0], []⟩ 8 (by kernel_rfl) (by kernel_rfl) (by kernel_rfl) (by kernel_rfl))
    rfl ?_ (tb := 4) rfl (by kernel_rfl) (by kernel_rfl) ?_
  · intro H ds hl
    match ds, hl with
    | [d0], _ => rfl
  · intro args h
    have hlen := h.1
    match args, h with
    | [x0], h =>
      obtain ⟨ql, h⟩ := h.head
      obtain ⟨l, rfl, hl, rl⟩ := inv_txs35 ql
      exact law_grdepth l hl
    | [], h => exact absurd h.1 (by simp [Try.f7])
    | _ :: _ :: _, h => exact absurd h.1 (by simp [Try.f7])
theorem graphDepth_holds : Rows.GraphDepthSaid := by
  exact OpenClaim.holds_of_wide 7 Try.f7 rfl rfl rfl rfl rfl rfl rfl ⟨rfl, rfl, rfl, rfl, rfl⟩ rfl rfl rfl rfl rfl (by kernel_rfl) Try.func7 (by kernel_rfl)
    (of_decide_eq_true (by kernel_rfl)) (by unfold Func.isWrapper; first | (rw [if_pos (by decide +kernel)]; kernel_rfl) | (rw [if_neg (by decide +kernel)]; exact ⟨rfl, rfl⟩))
    (fun os started H enc _ => graphDepth_lifted os started H enc)
end Go.Proofs.Ytnagdbamieahgaa
