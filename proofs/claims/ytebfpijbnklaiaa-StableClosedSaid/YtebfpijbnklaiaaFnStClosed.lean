/- StableClosed holds for every input. Conditions: none. -/
import Derived.Test.YtebfpijbnklaiaaTxJ
import Derived.Test.YtebfpijbnklaiaaRows
namespace Go.Proofs.Ytebfpijbnklaiaa
open Go.Ab Go.RowKit

theorem stableClosed_lifted (os : Os) (started : os.Started) (H : Type) (enc : TypeId × Value → H) :
    ReturnsInHanded {} Try.checked os 13 .any (Rows.stableClosedSpec.pre6 enc Try.prog Try.f13 Rows.stableClosedRow.domain false) (Rows.stableClosedSpec.post enc Try.prog Try.f13 false true false false) := by
  refine law_lifted (C := CT) (K := Try.checked) hT (by kernel_rfl) (R := [3, 22, 33, 30, 24, 31, 71, 69, 9, 59]) (by kernel_rfl) (by kernel_rfl) started (by kernel_rfl) Try.func13
    (ChangeSpec.witness6 (enc := enc) (C := Try.checked) false ⟨#[], #[.slice none 0 0, .slice none 0 0, .slice none 0 0], []⟩ 8 (by kernel_rfl) (by kernel_rfl) (by kernel_rfl) (by kernel_rfl))
    rfl ?_ (tb := 4) rfl (by kernel_rfl) (by kernel_rfl) ?_
  · intro H ds hl
    match ds, hl with
    | [d0, d1, d2], _ => rfl
  · intro args h
    have hlen := h.1
    match args, h with
    | [x0, x1, x2], h =>
      obtain ⟨ql, h⟩ := h.head
      obtain ⟨qfroms, h⟩ := h.head
      obtain ⟨qmany, h⟩ := h.head
      obtain ⟨l, rfl, hl, rl⟩ := inv_txs ql
      obtain ⟨froms, rfl, hfroms, rfroms⟩ := qfroms.inv_intList ty59 ty3
      obtain ⟨many, rfl, hmany, rmany⟩ := qmany.inv_intList ty59 ty3
      exact law_stable_closed l froms many hl (by simpa [maxLen] using hfroms) (by simpa [maxLen] using hmany)
    | [], h => exact absurd h.1 (by simp [Try.f13])
    | [_], h => exact absurd h.1 (by simp [Try.f13])
    | [_, _], h => exact absurd h.1 (by simp [Try.f13])
    | _ :: _ :: _ :: _ :: _, h => exact absurd h.1 (by simp [Try.f13])
theorem stableClosed_holds : Rows.StableClosedSaid := by
  exact OpenClaim.holds_of_wide 13 Try.f13 rfl rfl rfl rfl rfl rfl rfl ⟨rfl, rfl, rfl, rfl, rfl⟩ rfl rfl rfl rfl rfl (by kernel_rfl) Try.func13 (by kernel_rfl)
    (of_decide_eq_true (by kernel_rfl)) (by unfold Func.isWrapper; first | (rw [if_pos (by decide +kernel)]; kernel_rfl) | (rw [if_neg (by decide +kernel)]; exact ⟨rfl, rfl⟩))
    (fun os started H enc _ => stableClosed_lifted os started H enc)
end Go.Proofs.Ytebfpijbnklaiaa
