/- RegisterAll holds for every input. Conditions: none. -/
import Derived.Test.YtgliaanopmlmfaaReX
import Derived.Test.YtgliaanopmlmfaaRows
namespace Go.Proofs.Ytgliaanopmlmfaa
open Go.Ab Go.RowKit

theorem registerAll_lifted (os : Os) (started : os.Started) (H : Type) (enc : TypeId × Value → H) :
    ReturnsInHanded {} Try.checked os 9 .any (Rows.registerAllSpec.pre6 enc Try.prog Try.f9 Rows.registerAllRow.domain false) (Rows.registerAllSpec.post enc Try.prog Try.f9 false true false false) := by
  refine law_lifted (C := CT) (K := Try.checked) hT (by kernel_rfl) (R := [3, 59, 54, 114, 55, 65, 56, 102, 57, 104, 100, 62, 29, 9, 4, 34, 31, 32, 89]) (by kernel_rfl) (by kernel_rfl) started (by kernel_rfl) Try.func9
    (ChangeSpec.witness6 (enc := enc) (C := Try.checked) false ⟨#[], #[.agg #[.int .i64 0, .int .i64 0, .slice none 0 0, .slice none 0 0, .slice none 0 0, .slice none 0 0], .agg (Array.replicate 16 (.int .i64 0) ++ #[.slice none 0 0]), .agg (Array.replicate 16 (.int .i64 0) ++ #[.slice none 0 0]), .string ⟨#[]⟩, .string ⟨#[]⟩], []⟩ 8 (by kernel_rfl) (by kernel_rfl) (by kernel_rfl) (by kernel_rfl))
    rfl ?_ (tb := 4) rfl (by kernel_rfl) (by kernel_rfl) ?_
  · intro H ds hl
    match ds, hl with
    | [d0, d1, d2, d3, d4], _ => rfl
  · intro args h
    have hlen := h.1
    match args, h with
    | [x0, x1, x2, x3, x4], h =>
      obtain ⟨qc, h⟩ := h.head
      obtain ⟨qt, h⟩ := h.head
      obtain ⟨qu, h⟩ := h.head
      obtain ⟨qa, h⟩ := h.head
      obtain ⟨qb, h⟩ := h.head
      obtain ⟨c, rfl, hc⟩ := inv_cell qc
      obtain ⟨t, rfl, ht, rt⟩ := inv_tx qt
      obtain ⟨u, rfl, hu, ru⟩ := inv_tx qu
      obtain ⟨a, rfl, ra⟩ := qa.inv_str ty9
      obtain ⟨b, rfl, rb⟩ := qb.inv_str ty9
      exact law_regall c t u a b hc ht hu
    | [], h => exact absurd h.1 (by simp [Try.f9])
    | [_], h => exact absurd h.1 (by simp [Try.f9])
    | [_, _], h => exact absurd h.1 (by simp [Try.f9])
    | [_, _, _], h => exact absurd h.1 (by simp [Try.f9])
    | [_, _, _, _], h => exact absurd h.1 (by simp [Try.f9])
    | _ :: _ :: _ :: _ :: _ :: _ :: _, h => exact absurd h.1 (by simp [Try.f9])
theorem registerAll_holds : Rows.RegisterAllSaid := by
  exact OpenClaim.holds_of_wide 9 Try.f9 rfl rfl rfl rfl rfl rfl rfl ⟨rfl, rfl, rfl, rfl, rfl⟩ rfl rfl rfl rfl rfl (by kernel_rfl) Try.func9 (by kernel_rfl)
    (of_decide_eq_true (by kernel_rfl)) (by unfold Func.isWrapper; first | (rw [if_pos (by decide +kernel)]; kernel_rfl) | (rw [if_neg (by decide +kernel)]; exact ⟨rfl, rfl⟩))
    (fun os started H enc _ => registerAll_lifted os started H enc)
end Go.Proofs.Ytgliaanopmlmfaa
