/- ViewKeeps holds for every input. Conditions: none. -/
import Derived.Test.YtgliaanopmlmfaaViI
import Derived.Test.YtgliaanopmlmfaaRows
namespace Go.Proofs.Ytgliaanopmlmfaa
open Go.Ab Go.RowKit

theorem viewKeeps_lifted (os : Os) (started : os.Started) (H : Type) (enc : TypeId × Value → H) :
    ReturnsInHanded {} Try.checked os 8 .any (Rows.viewKeepsSpec.pre6 enc Try.prog Try.f8 Rows.viewKeepsRow.domain false) (Rows.viewKeepsSpec.post enc Try.prog Try.f8 false true false false) := by
  refine law_lifted (C := CT) (K := Try.checked) hT (by kernel_rfl) (R := [3, 44, 22]) (by kernel_rfl) (by kernel_rfl) started (by kernel_rfl) Try.func8
    (ChangeSpec.witness6 (enc := enc) (C := Try.checked) false ⟨#[], #[.agg #[.int .i64 0, .slice none 0 0, .slice none 0 0], .int .i64 0, .int .i64 0], []⟩ 8 (by kernel_rfl) (by kernel_rfl) (by kernel_rfl) (by kernel_rfl))
    rfl ?_ (tb := 4) rfl (by kernel_rfl) (by kernel_rfl) ?_
  · intro H ds hl
    match ds, hl with
    | [d0, d1, d2], _ => rfl
  · intro args h
    have hlen := h.1
    match args, h with
    | [x0, x1, x2], h =>
      obtain ⟨qv, h⟩ := h.head
      obtain ⟨qp, h⟩ := h.head
      obtain ⟨qd, h⟩ := h.head
      obtain ⟨v, rfl, hv, rv⟩ := inv_view qv
      obtain ⟨p, rfl, rp⟩ := qp.inv_i64 ty3
      obtain ⟨d, rfl, rd⟩ := qd.inv_i64 ty3
      exact law_vkeeps v p d (by simpa [maxLen] using hv) (by simpa [maxLen] using rv)
    | [], h => exact absurd h.1 (by simp [Try.f8])
    | [_], h => exact absurd h.1 (by simp [Try.f8])
    | [_, _], h => exact absurd h.1 (by simp [Try.f8])
    | _ :: _ :: _ :: _ :: _, h => exact absurd h.1 (by simp [Try.f8])
theorem viewKeeps_holds : Rows.ViewKeepsSaid := by
  exact OpenClaim.holds_of_wide 8 Try.f8 rfl rfl rfl rfl rfl rfl rfl ⟨rfl, rfl, rfl, rfl, rfl⟩ rfl rfl rfl rfl rfl (by kernel_rfl) Try.func8 (by kernel_rfl)
    (of_decide_eq_true (by kernel_rfl)) (by unfold Func.isWrapper; first | (rw [if_pos (by decide +kernel)]; kernel_rfl) | (rw [if_neg (by decide +kernel)]; exact ⟨rfl, rfl⟩))
    (fun os started H enc _ => viewKeeps_lifted os started H enc)
end Go.Proofs.Ytgliaanopmlmfaa
