/- VecOrder holds for every input: vectors are ordered. Conditions: none. -/
import Derived.Test.YtebfpijbnklaiaaAbLa
import Derived.Test.YtebfpijbnklaiaaRows
namespace Go.Proofs.Ytebfpijbnklaiaa
open Go.Ab Go.RowKit

theorem vecOrder_lifted (os : Os) (started : os.Started) (H : Type) (enc : TypeId × Value → H) :
    ReturnsInHanded {} Try.checked os 8 .any (Rows.vecOrderSpec.pre6 enc Try.prog Try.f8 Rows.vecOrderRow.domain false) (Rows.vecOrderSpec.post enc Try.prog Try.f8 false true false false) := by
  refine law_lifted (C := CT) (K := Try.checked) hT (by kernel_rfl) (R := [24, 3]) (by kernel_rfl) (by kernel_rfl) started (by kernel_rfl) Try.func8
    (ChangeSpec.witness6 (enc := enc) (C := Try.checked) false ⟨#[], #[.agg (Array.replicate 13 (.int .i64 0)), .agg (Array.replicate 13 (.int .i64 0)), .agg (Array.replicate 13 (.int .i64 0))], []⟩ 8 (by kernel_rfl) (by kernel_rfl) (by kernel_rfl) (by kernel_rfl))
    rfl ?_ (tb := 4) rfl (by kernel_rfl) (by kernel_rfl) ?_
  · intro H ds hl
    match ds, hl with
    | [d1, d2, d3], _ => rfl
  · intro args h
    match args, h with
    | [x1, x2, x3], h =>
      obtain ⟨h1, h⟩ := h.head
      obtain ⟨h2, h⟩ := h.head
      obtain ⟨h3, h⟩ := h.head
      obtain ⟨a, rfl, ha, _⟩ := h1.inv_ints ty24 ty3
      obtain ⟨b, rfl, hb, _⟩ := h2.inv_ints ty24 ty3
      obtain ⟨c, rfl, hc, _⟩ := h3.inv_ints ty24 ty3
      exact law_order a b c ha hb hc
    | [], h => exact absurd h.1 (by simp [Try.f8])
    | [_], h => exact absurd h.1 (by simp [Try.f8])
    | [_, _], h => exact absurd h.1 (by simp [Try.f8])
    | _ :: _ :: _ :: _ :: _, h => exact absurd h.1 (by simp [Try.f8])
theorem vecOrder_holds : Rows.VecOrderSaid := by
  exact OpenClaim.holds_of_wide 8 Try.f8 rfl rfl rfl rfl rfl rfl rfl ⟨rfl, rfl, rfl, rfl, rfl⟩ rfl rfl rfl rfl rfl (by kernel_rfl) Try.func8 (by kernel_rfl)
    (of_decide_eq_true (by kernel_rfl)) (by unfold Func.isWrapper; first | (rw [if_pos (by decide +kernel)]; kernel_rfl) | (rw [if_neg (by decide +kernel)]; exact ⟨rfl, rfl⟩))
    (fun os started H enc _ => vecOrder_lifted os started H enc)
end Go.Proofs.Ytebfpijbnklaiaa
