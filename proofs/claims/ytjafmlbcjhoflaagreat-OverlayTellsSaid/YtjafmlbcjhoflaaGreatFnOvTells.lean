/- OverlayTells holds for every input. Conditions: none. -/
import Derived.Test.YtjafmlbcjhoflaaGreatOvTf
import Derived.Test.YtjafmlbcjhoflaaGreatRows
namespace Go.Proofs.YtjafmlbcjhoflaaGreat
open Go.Ab Go.RowKit

theorem overlayTells_lifted (os : Os) (started : os.Started) (H : Type) (enc : TypeId × Value → H) :
    ReturnsInHanded {} Tryz.checked os 4 .any (Rows.overlayTellsSpec.pre6 enc Tryz.prog Tryz.f4 Rows.overlayTellsRow.domain false) (Rows.overlayTellsSpec.post enc Tryz.prog Tryz.f4 false true false false) := by
  refine law_lifted (C := CT) (K := Tryz.checked) hT (by kernel_rfl) (R := [3, 24, 22, 45, 37, 32, 34, 35, 89, 87, 9, 4, 38, 5, 43, 41, 39]) (by kernel_rfl) (by kernel_rfl) started (by kernel_rfl) Tryz.func4
    (ChangeSpec.witness6 (enc := enc) (C := Tryz.checked) false ⟨#[], #[.agg #[.int .i64 0, .slice none 0 0, .slice none 0 0], .agg (Array.replicate 19 (.int .i64 0) ++ #[.slice none 0 0] ++ Array.replicate 26 (.int .i64 0) ++ #[.bool false] ++ Array.replicate 3 (.int .i64 0) ++ #[.slice none 0 0, .int .i64 0, .slice none 0 0, .int .i64 0, .slice none 0 0, .slice none 0 0]), .int .i64 0, .int .i64 0], []⟩ 8 (by kernel_rfl) (by kernel_rfl) (by kernel_rfl) (by kernel_rfl))
    rfl ?_ (tb := 4) rfl (by kernel_rfl) (by kernel_rfl) ?_
  · intro H ds hl
    match ds, hl with
    | [d0, d1, d2, d3], _ => rfl
  · intro args h
    have hlen := h.1
    match args, h with
    | [x0, x1, x2, x3], h =>
      obtain ⟨qv, h⟩ := h.head
      obtain ⟨qy, h⟩ := h.head
      obtain ⟨qp, h⟩ := h.head
      obtain ⟨qd, h⟩ := h.head
      obtain ⟨v, rfl, hv, rv⟩ := inv_view qv
      obtain ⟨y, rfl, hy⟩ := inv_msg qy
      obtain ⟨p, rfl, rp⟩ := qp.inv_i64 ty3
      obtain ⟨d, rfl, rd⟩ := qd.inv_i64 ty3
      exact law_ovtells v y p d hy
    | [], h => exact absurd h.1 (by simp [Tryz.f4])
    | [_], h => exact absurd h.1 (by simp [Tryz.f4])
    | [_, _], h => exact absurd h.1 (by simp [Tryz.f4])
    | [_, _, _], h => exact absurd h.1 (by simp [Tryz.f4])
    | _ :: _ :: _ :: _ :: _ :: _, h => exact absurd h.1 (by simp [Tryz.f4])
theorem overlayTells_holds : Rows.OverlayTellsSaid := by
  exact OpenClaim.holds_of_wide 4 Tryz.f4 rfl rfl rfl rfl rfl rfl rfl ⟨rfl, rfl, rfl, rfl, rfl⟩ rfl rfl rfl rfl rfl (by kernel_rfl) Tryz.func4 (by kernel_rfl)
    (of_decide_eq_true (by kernel_rfl)) (by unfold Func.isWrapper; first | (rw [if_pos (by decide +kernel)]; kernel_rfl) | (rw [if_neg (by decide +kernel)]; exact ⟨rfl, rfl⟩))
    (fun os started H enc _ => overlayTells_lifted os started H enc)
end Go.Proofs.YtjafmlbcjhoflaaGreat
