/- DigestRow holds for every input. Conditions: none. -/
import Derived.Test.YtebfpijbnklaiaaDiE
import Derived.Test.YtebfpijbnklaiaaRows
namespace Go.Proofs.Ytebfpijbnklaiaa
open Go.Ab Go.RowKit

theorem digestRow_lifted (os : Os) (started : os.Started) (H : Type) (enc : TypeId × Value → H) :
    ReturnsInHanded {} Try.checked os 6 .any (Rows.digestRowSpec.pre6 enc Try.prog Try.f6 Rows.digestRowRow.domain false) (Rows.digestRowSpec.post enc Try.prog Try.f6 false true false false) := by
  refine law_lifted (C := CT) (K := Try.checked) hT (by kernel_rfl) (R := [3, 24, 36]) (by kernel_rfl) (by kernel_rfl) started (by kernel_rfl) Try.func6
    (ChangeSpec.witness6 (enc := enc) (C := Try.checked) false ⟨#[], #[.agg (Array.replicate 13 (.int .i64 0)), .slice none 0 0, .agg (Array.replicate 13 (.int .i64 0))], []⟩ 8 (by kernel_rfl) (by kernel_rfl) (by kernel_rfl) (by kernel_rfl))
    rfl ?_ (tb := 4) rfl (by kernel_rfl) (by kernel_rfl) ?_
  · intro H ds hl
    match ds, hl with
    | [d0, d1, d2], _ => rfl
  · intro args h
    have hlen := h.1
    match args, h with
    | [x0, x1, x2], h =>
      obtain ⟨qd, h⟩ := h.head
      obtain ⟨qop, h⟩ := h.head
      obtain ⟨qv, h⟩ := h.head
      obtain ⟨d, rfl, hd, rd⟩ := qd.inv_ints ty24 ty3
      obtain ⟨op, rfl, hop, lop, rop⟩ := qop.inv_vecs ty36 ty24 ty3
      obtain ⟨v, rfl, hv, rv⟩ := qv.inv_ints ty24 ty3
      exact law_drow d op v hd lop hv (by simpa [maxLen] using hop)
    | [], h => exact absurd h.1 (by simp [Try.f6])
    | [_], h => exact absurd h.1 (by simp [Try.f6])
    | [_, _], h => exact absurd h.1 (by simp [Try.f6])
    | _ :: _ :: _ :: _ :: _, h => exact absurd h.1 (by simp [Try.f6])
theorem digestRow_holds : Rows.DigestRowSaid := by
  exact OpenClaim.holds_of_wide 6 Try.f6 rfl rfl rfl rfl rfl rfl rfl ⟨rfl, rfl, rfl, rfl, rfl⟩ rfl rfl rfl rfl rfl (by kernel_rfl) Try.func6 (by kernel_rfl)
    (of_decide_eq_true (by kernel_rfl)) (by unfold Func.isWrapper; first | (rw [if_pos (by decide +kernel)]; kernel_rfl) | (rw [if_neg (by decide +kernel)]; exact ⟨rfl, rfl⟩))
    (fun os started H enc _ => digestRow_lifted os started H enc)
end Go.Proofs.Ytebfpijbnklaiaa
