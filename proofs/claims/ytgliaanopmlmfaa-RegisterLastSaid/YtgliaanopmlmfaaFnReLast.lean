/- RegisterLast holds for every input. Conditions: none. -/
import Derived.Test.YtgliaanopmlmfaaReV
import Derived.Test.YtgliaanopmlmfaaRows
namespace Go.Proofs.Ytgliaanopmlmfaa
open Go.Ab Go.RowKit

theorem registerLast_lifted (os : Os) (started : os.Started) (H : Type) (enc : TypeId × Value → H) :
    ReturnsInHanded {} Try.checked os 12 .any (Rows.registerLastSpec.pre6 enc Try.prog Try.f12 Rows.registerLastRow.domain false) (Rows.registerLastSpec.post enc Try.prog Try.f12 false true false false) := by
  refine law_lifted (C := CT) (K := Try.checked) hT (by kernel_rfl) (R := [3, 59, 54, 114, 55, 65, 56, 102, 57, 104, 100, 62, 29, 9, 4, 34, 31, 32, 89]) (by kernel_rfl) (by kernel_rfl) started (by kernel_rfl) Try.func12
    (ChangeSpec.witness6 (enc := enc) (C := Try.checked) false ⟨#[], #[.agg #[.int .i64 0, .int .i64 0, .slice none 0 0, .slice none 0 0, .slice none 0 0, .slice none 0 0], .agg (Array.replicate 16 (.int .i64 0) ++ #[.slice none 0 0]), .string ⟨#[]⟩], []⟩ 8 (by kernel_rfl) (by kernel_rfl) (by kernel_rfl) (by kernel_rfl))
    rfl ?_ (tb := 4) rfl (by kernel_rfl) (by kernel_rfl) ?_
  · intro H ds hl
    match ds, hl with
    | [d0, d1, d2], _ => rfl
  · intro args h
    have hlen := h.1
    match args, h with
    | [x0, x1, x2], h =>
      obtain ⟨qc, h⟩ := h.head
      obtain ⟨qt, h⟩ := h.head
      obtain ⟨qs, h⟩ := h.head
      obtain ⟨c, rfl, hc⟩ := inv_cell qc
      obtain ⟨t, rfl, ht, rt⟩ := inv_tx qt
      obtain ⟨s, rfl, rs⟩ := qs.inv_str ty9
      exact law_reglast c t s hc ht
    | [], h => exact absurd h.1 (by simp [Try.f12])
    | [_], h => exact absurd h.1 (by simp [Try.f12])
    | [_, _], h => exact absurd h.1 (by simp [Try.f12])
    | _ :: _ :: _ :: _ :: _, h => exact absurd h.1 (by simp [Try.f12])
theorem registerLast_holds : Rows.RegisterLastSaid := by
  exact OpenClaim.holds_of_wide 12 Try.f12 rfl rfl rfl rfl rfl rfl rfl ⟨rfl, rfl, rfl, rfl, rfl⟩ rfl rfl rfl rfl rfl (by kernel_rfl) Try.func12 (by kernel_rfl)
    (of_decide_eq_true (by kernel_rfl)) (by unfold Func.isWrapper; first | (rw [if_pos (by decide +kernel)]; kernel_rfl) | (rw [if_neg (by decide +kernel)]; exact ⟨rfl, rfl⟩))
    (fun os started H enc _ => registerLast_lifted os started H enc)
end Go.Proofs.Ytgliaanopmlmfaa
