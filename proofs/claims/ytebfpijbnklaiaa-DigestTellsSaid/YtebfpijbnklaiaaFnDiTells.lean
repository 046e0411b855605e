/- DigestTells holds for every input. Conditions: none. -/
import Derived.Test.YtebfpijbnklaiaaDiE
import Derived.Test.YtebfpijbnklaiaaRows
namespace Go.Proofs.Ytebfpijbnklaiaa
open Go.Ab Go.RowKit

theorem digestTells_lifted (os : Os) (started : os.Started) (H : Type) (enc : TypeId × Value → H) :
    ReturnsInHanded {} Try.checked os 4 .any (Rows.digestTellsSpec.pre6 enc Try.prog Try.f4 Rows.digestTellsRow.domain false) (Rows.digestTellsSpec.post enc Try.prog Try.f4 false true false false) := by
  refine law_lifted (C := CT) (K := Try.checked) hT (by kernel_rfl) (R := [3, 22, 33, 30, 24, 31, 71, 69, 9, 36]) (by kernel_rfl) (by kernel_rfl) started (by kernel_rfl) Try.func4
    (ChangeSpec.witness6 (enc := enc) (C := Try.checked) false ⟨#[], #[.slice none 0 0, .agg (Array.replicate 13 (.int .i64 0)), .agg (Array.replicate 13 (.int .i64 0)), .agg (Array.replicate 13 (.int .i64 0)), .agg (Array.replicate 13 (.int .i64 0)), .slice none 0 0], []⟩ 8 (by kernel_rfl) (by kernel_rfl) (by kernel_rfl) (by kernel_rfl))
    rfl ?_ (tb := 4) rfl (by kernel_rfl) (by kernel_rfl) ?_
  · intro H ds hl
    match ds, hl with
    | [d0, d1, d2, d3, d4, d5], _ => rfl
  · intro args h
    have hlen := h.1
    match args, h with
    | [x0, x1, x2, x3, x4, x5], h =>
      obtain ⟨ql, h⟩ := h.head
      obtain ⟨qa, h⟩ := h.head
      obtain ⟨qb, h⟩ := h.head
      obtain ⟨qc, h⟩ := h.head
      obtain ⟨qd, h⟩ := h.head
      obtain ⟨qop, h⟩ := h.head
      obtain ⟨l, rfl, hl, rl⟩ := inv_txs ql
      obtain ⟨a, rfl, ha, ra⟩ := qa.inv_ints ty24 ty3
      obtain ⟨b, rfl, hb, rb⟩ := qb.inv_ints ty24 ty3
      obtain ⟨c, rfl, hc, rc⟩ := qc.inv_ints ty24 ty3
      obtain ⟨d, rfl, hd, rd⟩ := qd.inv_ints ty24 ty3
      obtain ⟨op, rfl, hop, lop, rop⟩ := qop.inv_vecs ty36 ty24 ty3
      exact law_dtells l a b c d op hl ha hb hc hd lop (by simpa [maxLen] using hop)
    | [], h => exact absurd h.1 (by simp [Try.f4])
    | [_], h => exact absurd h.1 (by simp [Try.f4])
    | [_, _], h => exact absurd h.1 (by simp [Try.f4])
    | [_, _, _], h => exact absurd h.1 (by simp [Try.f4])
    | [_, _, _, _], h => exact absurd h.1 (by simp [Try.f4])
    | [_, _, _, _, _], h => exact absurd h.1 (by simp [Try.f4])
    | _ :: _ :: _ :: _ :: _ :: _ :: _ :: _, h => exact absurd h.1 (by simp [Try.f4])
theorem digestTells_holds : Rows.DigestTellsSaid := by
  exact OpenClaim.holds_of_wide 4 Try.f4 rfl rfl rfl rfl rfl rfl rfl ⟨rfl, rfl, rfl, rfl, rfl⟩ rfl rfl rfl rfl rfl (by kernel_rfl) Try.func4 (by kernel_rfl)
    (of_decide_eq_true (by kernel_rfl)) (by unfold Func.isWrapper; first | (rw [if_pos (by decide +kernel)]; kernel_rfl) | (rw [if_neg (by decide +kernel)]; exact ⟨rfl, rfl⟩))
    (fun os started H enc _ => digestTells_lifted os started H enc)
end Go.Proofs.Ytebfpijbnklaiaa
