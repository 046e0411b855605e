/- CellClears holds for every input. Conditions: none. -/
import Derived.Test.YtehcjnendfpbaaaGreatCeN
import Derived.Test.YtehcjnendfpbaaaGreatRows
namespace Go.Proofs.YtehcjnendfpbaaaGreat
open Go.Ab Go.RowKit

theorem cellClears_lifted (os : Os) (started : os.Started) (H : Type) (enc : TypeId × Value → H) :
    ReturnsInHanded {} Tryz.checked os 4 .any (Rows.cellClearsSpec.pre6 enc Tryz.prog Tryz.f4 Rows.cellClearsRow.domain false) (Rows.cellClearsSpec.post enc Tryz.prog Tryz.f4 false true false false) := by
  refine law_lifted (C := CT) (K := Tryz.checked) hT (by kernel_rfl) (R := [3, 27, 22, 72, 23, 64, 24, 67, 25, 69, 65, 36, 29, 9, 4, 34, 31, 32, 38]) (by kernel_rfl) (by kernel_rfl) started (by kernel_rfl) Tryz.func4
    (ChangeSpec.witness6 (enc := enc) (C := Tryz.checked) false ⟨#[], #[.agg #[.int .i64 0, .int .i64 0, .slice none 0 0, .slice none 0 0, .slice none 0 0, .slice none 0 0], .agg (Array.replicate 16 (.int .i64 0) ++ #[.slice none 0 0])], []⟩ 8 (by kernel_rfl) (by kernel_rfl) (by kernel_rfl) (by kernel_rfl))
    rfl ?_ (tb := 4) rfl (by kernel_rfl) (by kernel_rfl) ?_
  · intro H ds hl
    match ds, hl with
    | [d0, d1], _ => rfl
  · intro args h
    have hlen := h.1
    match args, h with
    | [x0, x1], h =>
      obtain ⟨qc, h⟩ := h.head
      obtain ⟨qt, h⟩ := h.head
      obtain ⟨c, rfl, hc⟩ := inv_cell qc
      obtain ⟨t, rfl, ht, rt⟩ := inv_tx qt
      exact law_cellclears c t hc ht
    | [], h => exact absurd h.1 (by simp [Tryz.f4])
    | [_], h => exact absurd h.1 (by simp [Tryz.f4])
    | _ :: _ :: _ :: _, h => exact absurd h.1 (by simp [Tryz.f4])
theorem cellClears_holds : Rows.CellClearsSaid := by
  exact OpenClaim.holds_of_wide 4 Tryz.f4 rfl rfl rfl rfl rfl rfl rfl ⟨rfl, rfl, rfl, rfl, rfl⟩ rfl rfl rfl rfl rfl (by kernel_rfl) Tryz.func4 (by kernel_rfl)
    (of_decide_eq_true (by kernel_rfl)) (by unfold Func.isWrapper; first | (rw [if_pos (by decide +kernel)]; kernel_rfl) | (rw [if_neg (by decide +kernel)]; exact ⟨rfl, rfl⟩))
    (fun os started H enc _ => cellClears_lifted os started H enc)
end Go.Proofs.YtehcjnendfpbaaaGreat
