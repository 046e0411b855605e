/- ViewTells holds for every input. Conditions: none. -/
import Derived.Test.YtgliaanopmlmfaaViI
import Derived.Test.YtgliaanopmlmfaaRows
namespace Go.Proofs.Ytgliaanopmlmfaa
open Go.Ab Go.RowKit

theorem viewTells_lifted (os : Os) (started : os.Started) (H : Type) (enc : TypeId × Value → H) :
    ReturnsInHanded {} Try.checked os 7 .any (Rows.viewTellsSpec.pre6 enc Try.prog Try.f7 Rows.viewTellsRow.domain false) (Rows.viewTellsSpec.post enc Try.prog Try.f7 false true false false) := by
  refine law_lifted (C := CT) (K := Try.checked) hT (by kernel_rfl) (R := [3, 44, 22]) (by kernel_rfl) (by kernel_rfl) started (by kernel_rfl) Try.func7
    (ChangeSpec.witness6 (enc := enc) (C := Try.checked) false ⟨#[], #[.agg #[.int .i64 0, .slice none 0 0, .slice none 0 0], .int .i64 0, .int .i64 0, .slice none 0 0, .slice none 0 0], []⟩ 8 (by kernel_rfl) (by kernel_rfl) (by kernel_rfl) (by kernel_rfl))
    rfl ?_ (tb := 4) rfl (by kernel_rfl) (by kernel_rfl) ?_
  · intro H ds hl
    match ds, hl with
    | [d0, d1, d2, d3, d4], _ => rfl
  · intro args h
    have hlen := h.1
    match args, h with
    | [x0, x1, x2, x3, x4], h =>
      obtain ⟨qv, h⟩ := h.head
      obtain ⟨qp, h⟩ := h.head
      obtain ⟨qd, h⟩ := h.head
      obtain ⟨ql, h⟩ := h.head
      obtain ⟨qm, h⟩ := h.head
      obtain ⟨v, rfl, hv, rv⟩ := inv_view qv
      obtain ⟨p, rfl, rp⟩ := qp.inv_i64 ty3
      obtain ⟨d, rfl, rd⟩ := qd.inv_i64 ty3
      obtain ⟨l, rfl, hl, rl⟩ := ql.inv_intList ty22 ty3
      obtain ⟨m, rfl, hm, rm⟩ := qm.inv_intList ty22 ty3
      exact law_vtells v p d l m (by simpa [maxLen] using hv) (by simpa [maxLen] using rv) (by simpa [maxLen] using hl) (by simpa [maxLen] using hm)
    | [], h => exact absurd h.1 (by simp [Try.f7])
    | [_], h => exact absurd h.1 (by simp [Try.f7])
    | [_, _], h => exact absurd h.1 (by simp [Try.f7])
    | [_, _, _], h => exact absurd h.1 (by simp [Try.f7])
    | [_, _, _, _], h => exact absurd h.1 (by simp [Try.f7])
    | _ :: _ :: _ :: _ :: _ :: _ :: _, h => exact absurd h.1 (by simp [Try.f7])
theorem viewTells_holds : Rows.ViewTellsSaid := by
  exact OpenClaim.holds_of_wide 7 Try.f7 rfl rfl rfl rfl rfl rfl rfl ⟨rfl, rfl, rfl, rfl, rfl⟩ rfl rfl rfl rfl rfl (by kernel_rfl) Try.func7 (by kernel_rfl)
    (of_decide_eq_true (by kernel_rfl)) (by unfold Func.isWrapper; first | (rw [if_pos (by decide +kernel)]; kernel_rfl) | (rw [if_neg (by decide +kernel)]; exact ⟨rfl, rfl⟩))
    (fun os started H enc _ => viewTells_lifted os started H enc)
end Go.Proofs.Ytgliaanopmlmfaa
