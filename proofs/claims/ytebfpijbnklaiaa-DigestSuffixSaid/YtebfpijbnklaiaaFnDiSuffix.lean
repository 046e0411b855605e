/- DigestSuffix holds for every input. Conditions: none. -/
import Derived.Test.YtebfpijbnklaiaaDiH
import Derived.Test.YtebfpijbnklaiaaRows
namespace Go.Proofs.Ytebfpijbnklaiaa
open Go.Ab Go.RowKit

theorem digestSuffix_lifted (os : Os) (started : os.Started) (H : Type) (enc : TypeId × Value → H) :
    ReturnsInHanded {} Try.checked os 5 .any (Rows.digestSuffixSpec.pre6 enc Try.prog Try.f5 Rows.digestSuffixRow.domain false) (Rows.digestSuffixSpec.post enc Try.prog Try.f5 false true false false) := by
  refine law_lifted (C := CT) (K := Try.checked) hT (by kernel_rfl) (R := [3, 22, 33, 30, 24, 31, 71, 69, 9]) (by kernel_rfl) (by kernel_rfl) started (by kernel_rfl) Try.func5
    (ChangeSpec.witness6 (enc := enc) (C := Try.checked) false ⟨#[], #[.slice none 0 0, .int .i64 0, .int .i64 0, .int .i64 0, .int .i64 0, .int .i64 0], []⟩ 8 (by kernel_rfl) (by kernel_rfl) (by kernel_rfl) (by kernel_rfl))
    rfl ?_ (tb := 4) rfl (by kernel_rfl) (by kernel_rfl) ?_
  · intro H ds hl
    match ds, hl with
    | [d0, d1, d2, d3, d4, d5], _ => rfl
  · intro args h
    have hlen := h.1
    match args, h with
    | [x0, x1, x2, x3, x4, x5], h =>
      obtain ⟨ql, h⟩ := h.head
      obtain ⟨qa, h⟩ := h.head
      obtain ⟨qb, h⟩ := h.head
      obtain ⟨qc, h⟩ := h.head
      obtain ⟨qd, h⟩ := h.head
      obtain ⟨qe, h⟩ := h.head
      obtain ⟨l, rfl, hl, rl⟩ := inv_txs ql
      obtain ⟨a, rfl, ra⟩ := qa.inv_i64 ty3
      obtain ⟨b, rfl, rb⟩ := qb.inv_i64 ty3
      obtain ⟨c, rfl, rc⟩ := qc.inv_i64 ty3
      obtain ⟨d, rfl, rd⟩ := qd.inv_i64 ty3
      obtain ⟨e, rfl, re⟩ := qe.inv_i64 ty3
      exact law_dsuffix l a b c d e hl
    | [], h => exact absurd h.1 (by simp [Try.f5])
    | [_], h => exact absurd h.1 (by simp [Try.f5])
    | [_, _], h => exact absurd h.1 (by simp [Try.f5])
    | [_, _, _], h => exact absurd h.1 (by simp [Try.f5])
    | [_, _, _, _], h => exact absurd h.1 (by simp [Try.f5])
    | [_, _, _, _, _], h => exact absurd h.1 (by simp [Try.f5])
    | _ :: _ :: _ :: _ :: _ :: _ :: _ :: _, h => exact absurd h.1 (by simp [Try.f5])
theorem digestSuffix_holds : Rows.DigestSuffixSaid := by
  exact OpenClaim.holds_of_wide 5 Try.f5 rfl rfl rfl rfl rfl rfl rfl ⟨rfl, rfl, rfl, rfl, rfl⟩ rfl rfl rfl rfl rfl (by kernel_rfl) Try.func5 (by kernel_rfl)
    (of_decide_eq_true (by kernel_rfl)) (by unfold Func.isWrapper; first | (rw [if_pos (by decide +kernel)]; kernel_rfl) | (rw [if_neg (by decide +kernel)]; exact ⟨rfl, rfl⟩))
    (fun os started H enc _ => digestSuffix_lifted os started H enc)
end Go.Proofs.Ytebfpijbnklaiaa
