/- StableTells holds for every input. Conditions: none. -/
import Derived.Test.YtebfpijbnklaiaaAbSe
import Derived.Test.YtebfpijbnklaiaaRows
namespace Go.Proofs.Ytebfpijbnklaiaa
open Go.Ab Go.RowKit

theorem stableTells_lifted (os : Os) (started : os.Started) (H : Type) (enc : TypeId × Value → H) :
    ReturnsInHanded {} Try.checked os 11 .any (Rows.stableTellsSpec.pre6 enc Try.prog Try.f11 Rows.stableTellsRow.domain false) (Rows.stableTellsSpec.post enc Try.prog Try.f11 false true false false) := by
  refine law_lifted (C := CT) (K := Try.checked) hT (by kernel_rfl) (R := [3, 58, 24, 59]) (by kernel_rfl) (by kernel_rfl) started (by kernel_rfl) Try.func11
    (ChangeSpec.witness6 (enc := enc) (C := Try.checked) false ⟨#[], #[.agg (Array.replicate 169 (.int .i64 0)), .int .i64 0, .agg (Array.replicate 13 (.int .i64 0)), .agg (Array.replicate 13 (.int .i64 0)), .slice none 0 0], []⟩ 8 (by kernel_rfl) (by kernel_rfl) (by kernel_rfl) (by kernel_rfl))
    rfl ?_ (tb := 4) rfl (by kernel_rfl) (by kernel_rfl) ?_
  · intro H ds hl
    match ds, hl with
    | [d0, d1, d2, d3, d4], _ => rfl
  · intro args h
    have hlen := h.1
    match args, h with
    | [x0, x1, x2, x3, x4], h =>
      obtain ⟨qrows, h⟩ := h.head
      obtain ⟨qp, h⟩ := h.head
      obtain ⟨qrow, h⟩ := h.head
      obtain ⟨qv, h⟩ := h.head
      obtain ⟨qlive, h⟩ := h.head
      obtain ⟨rows, rfl, hrows, lrows, rrows⟩ := qrows.inv_tab ty58 ty24 ty3
      obtain ⟨p, rfl, rp⟩ := qp.inv_i64 ty3
      obtain ⟨row, rfl, hrow, rrow⟩ := qrow.inv_ints ty24 ty3
      obtain ⟨v, rfl, hv, rv⟩ := qv.inv_ints ty24 ty3
      obtain ⟨live, rfl, hlive, rlive⟩ := qlive.inv_intList ty59 ty3
      exact law_stable_tells rows p row v live hrows lrows hrow hv
    | [], h => exact absurd h.1 (by simp [Try.f11])
    | [_], h => exact absurd h.1 (by simp [Try.f11])
    | [_, _], h => exact absurd h.1 (by simp [Try.f11])
    | [_, _, _], h => exact absurd h.1 (by simp [Try.f11])
    | [_, _, _, _], h => exact absurd h.1 (by simp [Try.f11])
    | _ :: _ :: _ :: _ :: _ :: _ :: _, h => exact absurd h.1 (by simp [Try.f11])
theorem stableTells_holds : Rows.StableTellsSaid := by
  exact OpenClaim.holds_of_wide 11 Try.f11 rfl rfl rfl rfl rfl rfl rfl ⟨rfl, rfl, rfl, rfl, rfl⟩ rfl rfl rfl rfl rfl (by kernel_rfl) Try.func11 (by kernel_rfl)
    (of_decide_eq_true (by kernel_rfl)) (by unfold Func.isWrapper; first | (rw [if_pos (by decide +kernel)]; kernel_rfl) | (rw [if_neg (by decide +kernel)]; exact ⟨rfl, rfl⟩))
    (fun os started H enc _ => stableTells_lifted os started H enc)
end Go.Proofs.Ytebfpijbnklaiaa
