/- VecMissing holds for every input. Conditions: none. -/
import Derived.Test.YtebfpijbnklaiaaAbLc
import Derived.Test.YtebfpijbnklaiaaRows
namespace Go.Proofs.Ytebfpijbnklaiaa
open Go.Ab Go.RowKit

theorem vecMissing_lifted (os : Os) (started : os.Started) (H : Type) (enc : TypeId × Value → H) :
    ReturnsInHanded {} Try.checked os 9 .any (Rows.vecMissingSpec.pre6 enc Try.prog Try.f9 Rows.vecMissingRow.domain false) (Rows.vecMissingSpec.post enc Try.prog Try.f9 false true false false) := by
  refine law_lifted (C := CT) (K := Try.checked) hT (by kernel_rfl) (R := [3, 24]) (by kernel_rfl) (by kernel_rfl) started (by kernel_rfl) Try.func9
    (ChangeSpec.witness6 (enc := enc) (C := Try.checked) false ⟨#[], #[.agg (Array.replicate 13 (.int .i64 0)), .agg (Array.replicate 13 (.int .i64 0))], []⟩ 8 (by kernel_rfl) (by kernel_rfl) (by kernel_rfl) (by kernel_rfl))
    rfl ?_ (tb := 4) rfl (by kernel_rfl) (by kernel_rfl) ?_
  · intro H ds hl
    match ds, hl with
    | [d0, d1], _ => rfl
  · intro args h
    have hlen := h.1
    match args, h with
    | [x0, x1], h =>
      obtain ⟨qa, h⟩ := h.head
      obtain ⟨qb, h⟩ := h.head
      obtain ⟨a, rfl, ha, ra⟩ := qa.inv_ints ty24 ty3
      obtain ⟨b, rfl, hb, rb⟩ := qb.inv_ints ty24 ty3
      exact law_missing a b ha hb
    | [], h => exact absurd h.1 (by simp [Try.f9])
    | [_], h => exact absurd h.1 (by simp [Try.f9])
    | _ :: _ :: _ :: _, h => exact absurd h.1 (by simp [Try.f9])
theorem vecMissing_holds : Rows.VecMissingSaid := by
  exact OpenClaim.holds_of_wide 9 Try.f9 rfl rfl rfl rfl rfl rfl rfl ⟨rfl, rfl, rfl, rfl, rfl⟩ rfl rfl rfl rfl rfl (by kernel_rfl) Try.func9 (by kernel_rfl)
    (of_decide_eq_true (by kernel_rfl)) (by unfold Func.isWrapper; first | (rw [if_pos (by decide +kernel)]; kernel_rfl) | (rw [if_neg (by decide +kernel)]; exact ⟨rfl, rfl⟩))
    (fun os started H enc _ => vecMissing_lifted os started H enc)
end Go.Proofs.Ytebfpijbnklaiaa
