/- StableAll holds for every input. Conditions: none. -/
import Derived.Test.YtebfpijbnklaiaaAbSf
import Derived.Test.YtebfpijbnklaiaaRows
namespace Go.Proofs.Ytebfpijbnklaiaa
open Go.Ab Go.RowKit

theorem stableAll_lifted (os : Os) (started : os.Started) (H : Type) (enc : TypeId × Value → H) :
    ReturnsInHanded {} Try.checked os 10 .any (Rows.stableAllSpec.pre6 enc Try.prog Try.f10 Rows.stableAllRow.domain false) (Rows.stableAllSpec.post enc Try.prog Try.f10 false true false false) := by
  refine law_lifted (C := CT) (K := Try.checked) hT (by kernel_rfl) (R := [3, 58, 24, 59]) (by kernel_rfl) (by kernel_rfl) started (by kernel_rfl) Try.func10
    (ChangeSpec.witness6 (enc := enc) (C := Try.checked) false ⟨#[], #[.agg (Array.replicate 169 (.int .i64 0)), .int .i64 0, .agg (Array.replicate 13 (.int .i64 0)), .slice none 0 0], []⟩ 8 (by kernel_rfl) (by kernel_rfl) (by kernel_rfl) (by kernel_rfl))
    rfl ?_ (tb := 4) rfl (by kernel_rfl) (by kernel_rfl) ?_
  · intro H ds hl
    match ds, hl with
    | [d0, d1, d2, d3], _ => rfl
  · intro args h
    have hlen := h.1
    match args, h with
    | [x0, x1, x2, x3], h =>
      obtain ⟨qrows, h⟩ := h.head
      obtain ⟨qself, h⟩ := h.head
      obtain ⟨qown, h⟩ := h.head
      obtain ⟨qlive, h⟩ := h.head
      obtain ⟨rows, rfl, hrows, lrows, rrows⟩ := qrows.inv_tab ty58 ty24 ty3
      obtain ⟨self, rfl, rself⟩ := qself.inv_i64 ty3
      obtain ⟨own, rfl, hown, rown⟩ := qown.inv_ints ty24 ty3
      obtain ⟨live, rfl, hlive, rlive⟩ := qlive.inv_intList ty59 ty3
      exact law_stable_all rows self own live hrows lrows hown
    | [], h => exact absurd h.1 (by simp [Try.f10])
    | [_], h => exact absurd h.1 (by simp [Try.f10])
    | [_, _], h => exact absurd h.1 (by simp [Try.f10])
    | [_, _, _], h => exact absurd h.1 (by simp [Try.f10])
    | _ :: _ :: _ :: _ :: _ :: _, h => exact absurd h.1 (by simp [Try.f10])
theorem stableAll_holds : Rows.StableAllSaid := by
  exact OpenClaim.holds_of_wide 10 Try.f10 rfl rfl rfl rfl rfl rfl rfl ⟨rfl, rfl, rfl, rfl, rfl⟩ rfl rfl rfl rfl rfl (by kernel_rfl) Try.func10 (by kernel_rfl)
    (of_decide_eq_true (by kernel_rfl)) (by unfold Func.isWrapper; first | (rw [if_pos (by decide +kernel)]; kernel_rfl) | (rw [if_neg (by decide +kernel)]; exact ⟨rfl, rfl⟩))
    (fun os started H enc _ => stableAll_lifted os started H enc)
end Go.Proofs.Ytebfpijbnklaiaa
