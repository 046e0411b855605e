/- OrsetGoes holds for every input. Conditions: none. -/
import Derived.Test.YtnagdbamieahgaaOsR
import Derived.Test.YtnagdbamieahgaaRows
namespace Go.Proofs.Ytnagdbamieahgaa
open Go.Ab Go.RowKit

theorem orsetGoes_lifted (os : Os) (started : os.Started) (H : Type) (enc : TypeId × Value → H) :
    ReturnsInHanded {} Try.checked os 8 .any (Rows.orsetGoesSpec.pre6 enc Try.prog Try.f8 Rows.orsetGoesRow.domain false) (Rows.orsetGoesSpec.post enc Try.prog Try.f8 false true false false) := by
  refine law_lifted (C := CT) (K := Try.checked) hT (by kernel_rfl) (R := [3, 49, 44, 107, 45, 95, 46, 55, 47, 97, 53, 58, 39, 9, 4, 42, 35, 40, 75]) (by kernel_rfl) (by kernel_rfl) started (by kernel_rfl) Try.func8
    (ChangeSpec.witness6 (enc := enc) (C := Try.checked) false ⟨#[], #[.agg #[.int .i64 0, .int .i64 0, .slice none 0 0, .slice none 0 0, .slice none 0 0, .slice none 0 0], .agg (Array.replicate 16 (.int .i64 0) ++ #[.slice none 0 0]), .string ⟨#[]⟩], []⟩ 8 (by kernel_rfl) (by kernel_rfl) (by kernel_rfl) (by kernel_rfl))
    rfl ?_ (tb := 4) rfl (by kernel_rfl) (by kernel_rfl) ?_
  · intro H ds hl
    match ds, hl with
    | [d0, d1, d2], _ => rfl
  · intro args h
    have hlen := h.1
    match args, h with
    | [x0, x1, x2], h =>
      obtain ⟨qc, h⟩ := h.head
      obtain ⟨qt, h⟩ := h.head
      obtain ⟨qs, h⟩ := h.head
      obtain ⟨c, rfl, hc⟩ := inv_cell qc
      obtain ⟨t, rfl, ht, rt⟩ := inv_tx qt
      obtain ⟨s, rfl, rs⟩ := qs.inv_str ty9
      exact law_osgoes c t s hc ht
    | [], h => exact absurd h.1 (by simp [Try.f8])
    | [_], h => exact absurd h.1 (by simp [Try.f8])
    | [_, _], h => exact absurd h.1 (by simp [Try.f8])
    | _ :: _ :: _ :: _ :: _, h => exact absurd h.1 (by simp [Try.f8])
theorem orsetGoes_holds : Rows.OrsetGoesSaid := by
  exact OpenClaim.holds_of_wide 8 Try.f8 rfl rfl rfl rfl rfl rfl rfl ⟨rfl, rfl, rfl, rfl, rfl⟩ rfl rfl rfl rfl rfl (by kernel_rfl) Try.func8 (by kernel_rfl)
    (of_decide_eq_true (by kernel_rfl)) (by unfold Func.isWrapper; first | (rw [if_pos (by decide +kernel)]; kernel_rfl) | (rw [if_neg (by decide +kernel)]; exact ⟨rfl, rfl⟩))
    (fun os started H enc _ => orsetGoes_lifted os started H enc)
end Go.Proofs.Ytnagdbamieahgaa
