/- OverlayEnds holds for every input. Conditions: none. -/
import Derived.Test.YtjafmlbcjhoflaaGreatOvEc
import Derived.Test.YtjafmlbcjhoflaaGreatRows
namespace Go.Proofs.YtjafmlbcjhoflaaGreat
open Go.Ab Go.RowKit

theorem overlayEnds_lifted (os : Os) (started : os.Started) (H : Type) (enc : TypeId × Value → H) :
    ReturnsInHanded {} Tryz.checked os 6 .any (Rows.overlayEndsSpec.pre6 enc Tryz.prog Tryz.f6 Rows.overlayEndsRow.domain false) (Rows.overlayEndsSpec.post enc Tryz.prog Tryz.f6 false true false false) := by
  refine law_lifted (C := CT) (K := Tryz.checked) hT (by kernel_rfl) (R := [3, 54, 24, 22]) (by kernel_rfl) (by kernel_rfl) started (by kernel_rfl) Tryz.func6
    (ChangeSpec.witness6 (enc := enc) (C := Tryz.checked) false ⟨#[], #[.slice none 0 0, .int .i64 0, .int .i64 0, .slice none 0 0], []⟩ 8 (by kernel_rfl) (by kernel_rfl) (by kernel_rfl) (by kernel_rfl))
    rfl ?_ (tb := 4) rfl (by kernel_rfl) (by kernel_rfl) ?_
  · intro H ds hl
    match ds, hl with
    | [d0, d1, d2, d3], _ => rfl
  · intro args h
    have hlen := h.1
    match args, h with
    | [x0, x1, x2, x3], h =>
      obtain ⟨ql, h⟩ := h.head
      obtain ⟨qw, h⟩ := h.head
      obtain ⟨qb, h⟩ := h.head
      obtain ⟨qs, h⟩ := h.head
      obtain ⟨l, rfl, hl⟩ := inv_views ql
      obtain ⟨w, rfl, rw⟩ := qw.inv_i64 ty3
      obtain ⟨b, rfl, rb⟩ := qb.inv_i64 ty3
      obtain ⟨s, rfl, hs, rs⟩ := qs.inv_intList ty22 ty3
      exact law_ovends l w b s hl hs
    | [], h => exact absurd h.1 (by simp [Tryz.f6])
    | [_], h => exact absurd h.1 (by simp [Tryz.f6])
    | [_, _], h => exact absurd h.1 (by simp [Tryz.f6])
    | [_, _, _], h => exact absurd h.1 (by simp [Tryz.f6])
    | _ :: _ :: _ :: _ :: _ :: _, h => exact absurd h.1 (by simp [Tryz.f6])
theorem overlayEnds_holds : Rows.OverlayEndsSaid := by
  exact OpenClaim.holds_of_wide 6 Tryz.f6 rfl rfl rfl rfl rfl rfl rfl ⟨rfl, rfl, rfl, rfl, rfl⟩ rfl rfl rfl rfl rfl (by kernel_rfl) Tryz.func6 (by kernel_rfl)
    (of_decide_eq_true (by kernel_rfl)) (by unfold Func.isWrapper; first | (rw [if_pos (by decide +kernel)]; kernel_rfl) | (rw [if_neg (by decide +kernel)]; exact ⟨rfl, rfl⟩))
    (fun os started H enc _ => overlayEnds_lifted os started H enc)
end Go.Proofs.YtjafmlbcjhoflaaGreat
