/- DigestParts holds for every input. Conditions: none. -/
import Derived.Test.YtebfpijbnklaiaaDiE
import Derived.Test.YtebfpijbnklaiaaRows
namespace Go.Proofs.Ytebfpijbnklaiaa
open Go.Ab Go.RowKit

theorem digestParts_lifted (os : Os) (started : os.Started) (H : Type) (enc : TypeId × Value → H) :
    ReturnsInHanded {} Try.checked os 3 .any (Rows.digestPartsSpec.pre6 enc Try.prog Try.f3 Rows.digestPartsRow.domain false) (Rows.digestPartsSpec.post enc Try.prog Try.f3 false true false false) := by
  refine law_lifted (C := CT) (K := Try.checked) hT (by kernel_rfl) (R := [3, 22, 33, 30, 24, 31, 71, 69, 9]) (by kernel_rfl) (by kernel_rfl) started (by kernel_rfl) Try.func3
    (ChangeSpec.witness6 (enc := enc) (C := Try.checked) false ⟨#[], #[.slice none 0 0, .agg (Array.replicate 13 (.int .i64 0))], []⟩ 8 (by kernel_rfl) (by kernel_rfl) (by kernel_rfl) (by kernel_rfl))
    rfl ?_ (tb := 4) rfl (by kernel_rfl) (by kernel_rfl) ?_
  · intro H ds hl
    match ds, hl with
    | [d0, d1], _ => rfl
  · intro args h
    have hlen := h.1
    match args, h with
    | [x0, x1], h =>
      obtain ⟨ql, h⟩ := h.head
      obtain ⟨qv, h⟩ := h.head
      obtain ⟨l, rfl, hl, rl⟩ := inv_txs ql
      obtain ⟨v, rfl, hv, rv⟩ := qv.inv_ints ty24 ty3
      exact law_dparts l v hl hv
    | [], h => exact absurd h.1 (by simp [Try.f3])
    | [_], h => exact absurd h.1 (by simp [Try.f3])
    | _ :: _ :: _ :: _, h => exact absurd h.1 (by simp [Try.f3])
theorem digestParts_holds : Rows.DigestPartsSaid := by
  exact OpenClaim.holds_of_wide 3 Try.f3 rfl rfl rfl rfl rfl rfl rfl ⟨rfl, rfl, rfl, rfl, rfl⟩ rfl rfl rfl rfl rfl (by kernel_rfl) Try.func3 (by kernel_rfl)
    (of_decide_eq_true (by kernel_rfl)) (by unfold Func.isWrapper; first | (rw [if_pos (by decide +kernel)]; kernel_rfl) | (rw [if_neg (by decide +kernel)]; exact ⟨rfl, rfl⟩))
    (fun os started H enc _ => digestParts_lifted os started H enc)
end Go.Proofs.Ytebfpijbnklaiaa
