/- VecBounds holds for every input. Conditions: none. -/
import Derived.Test.YtebfpijbnklaiaaAbLb
import Derived.Test.YtebfpijbnklaiaaRows
namespace Go.Proofs.Ytebfpijbnklaiaa
open Go.Ab Go.RowKit

theorem vecBounds_lifted (os : Os) (started : os.Started) (H : Type) (enc : TypeId × Value → H) :
    ReturnsInHanded {} Try.checked os 7 .any (Rows.vecBoundsSpec.pre6 enc Try.prog Try.f7 Rows.vecBoundsRow.domain false) (Rows.vecBoundsSpec.post enc Try.prog Try.f7 false true false false) := by
  refine law_lifted (C := CT) (K := Try.checked) hT (by kernel_rfl) (R := [3, 24]) (by kernel_rfl) (by kernel_rfl) started (by kernel_rfl) Try.func7
    (ChangeSpec.witness6 (enc := enc) (C := Try.checked) false ⟨#[], #[.agg (Array.replicate 13 (.int .i64 0)), .agg (Array.replicate 13 (.int .i64 0)), .agg (Array.replicate 13 (.int .i64 0))], []⟩ 8 (by kernel_rfl) (by kernel_rfl) (by kernel_rfl) (by kernel_rfl))
    rfl ?_ (tb := 4) rfl (by kernel_rfl) (by kernel_rfl) ?_
  · intro H ds hl
    match ds, hl with
    | [d0, d1, d2], _ => rfl
  · intro args h
    have hlen := h.1
    match args, h with
    | [x0, x1, x2], h =>
      obtain ⟨qa, h⟩ := h.head
      obtain ⟨qb, h⟩ := h.head
      obtain ⟨qc, h⟩ := h.head
      obtain ⟨a, rfl, ha, ra⟩ := qa.inv_ints ty24 ty3
      obtain ⟨b, rfl, hb, rb⟩ := qb.inv_ints ty24 ty3
      obtain ⟨c, rfl, hc, rc⟩ := qc.inv_ints ty24 ty3
      exact law_bounds a b c ha hb hc
    | [], h => exact absurd h.1 (by simp [Try.f7])
    | [_], h => exact absurd h.1 (by simp [Try.f7])
    | [_, _], h => exact absurd h.1 (by simp [Try.f7])
    | _ :: _ :: _ :: _ :: _, h => exact absurd h.1 (by simp [Try.f7])
theorem vecBounds_holds : Rows.VecBoundsSaid := by
  exact OpenClaim.holds_of_wide 7 Try.f7 rfl rfl rfl rfl rfl rfl rfl ⟨rfl, rfl, rfl, rfl, rfl⟩ rfl rfl rfl rfl rfl (by kernel_rfl) Try.func7 (by kernel_rfl)
    (of_decide_eq_true (by kernel_rfl)) (by unfold Func.isWrapper; first | (rw [if_pos (by decide +kernel)]; kernel_rfl) | (rw [if_neg (by decide +kernel)]; exact ⟨rfl, rfl⟩))
    (fun os started H enc _ => vecBounds_lifted os started H enc)
end Go.Proofs.Ytebfpijbnklaiaa
