/- OverlayMeets holds for every input. Conditions: none. -/
import Derived.Test.YtjafmlbcjhoflaaGreatOvL
import Derived.Test.YtjafmlbcjhoflaaGreatRows
namespace Go.Proofs.YtjafmlbcjhoflaaGreat
open Go.Ab Go.RowKit

theorem overlayMeets_lifted (os : Os) (started : os.Started) (H : Type) (enc : TypeId × Value → H) :
    ReturnsInHanded {} Tryz.checked os 3 .any (Rows.overlayMeetsSpec.pre6 enc Tryz.prog Tryz.f3 Rows.overlayMeetsRow.domain false) (Rows.overlayMeetsSpec.post enc Tryz.prog Tryz.f3 false true false false) := by
  refine law_lifted (C := CT) (K := Tryz.checked) hT (by kernel_rfl) (R := [3, 24, 22]) (by kernel_rfl) (by kernel_rfl) started (by kernel_rfl) Tryz.func3
    (ChangeSpec.witness6 (enc := enc) (C := Tryz.checked) false ⟨#[], #[.agg #[.int .i64 0, .slice none 0 0, .slice none 0 0], .agg #[.int .i64 0, .slice none 0 0, .slice none 0 0], .int .i64 0, .int .i64 0], []⟩ 8 (by kernel_rfl) (by kernel_rfl) (by kernel_rfl) (by kernel_rfl))
    rfl ?_ (tb := 4) rfl (by kernel_rfl) (by kernel_rfl) ?_
  · intro H ds hl
    match ds, hl with
    | [d0, d1, d2, d3], _ => rfl
  · intro args h
    have hlen := h.1
    match args, h with
    | [x0, x1, x2, x3], h =>
      obtain ⟨qa, h⟩ := h.head
      obtain ⟨qb, h⟩ := h.head
      obtain ⟨qd, h⟩ := h.head
      obtain ⟨qo, h⟩ := h.head
      obtain ⟨a, rfl, ha, ra⟩ := inv_view qa
      obtain ⟨b, rfl, hb, rb⟩ := inv_view qb
      obtain ⟨d, rfl, rd⟩ := qd.inv_i64 ty3
      obtain ⟨o, rfl, ro⟩ := qo.inv_i64 ty3
      exact law_ovmeets a b d o
    | [], h => exact absurd h.1 (by simp [Tryz.f3])
    | [_], h => exact absurd h.1 (by simp [Tryz.f3])
    | [_, _], h => exact absurd h.1 (by simp [Tryz.f3])
    | [_, _, _], h => exact absurd h.1 (by simp [Tryz.f3])
    | _ :: _ :: _ :: _ :: _ :: _, h => exact absurd h.1 (by simp [Tryz.f3])
theorem overlayMeets_holds : Rows.OverlayMeetsSaid := by
  exact OpenClaim.holds_of_wide 3 Tryz.f3 rfl rfl rfl rfl rfl rfl rfl ⟨rfl, rfl, rfl, rfl, rfl⟩ rfl rfl rfl rfl rfl (by kernel_rfl) Tryz.func3 (by kernel_rfl)
    (of_decide_eq_true (by kernel_rfl)) (by unfold Func.isWrapper; first | (rw [if_pos (by decide +kernel)]; kernel_rfl) | (rw [if_neg (by decide +kernel)]; exact ⟨rfl, rfl⟩))
    (fun os started H enc _ => overlayMeets_lifted os started H enc)
end Go.Proofs.YtjafmlbcjhoflaaGreat
