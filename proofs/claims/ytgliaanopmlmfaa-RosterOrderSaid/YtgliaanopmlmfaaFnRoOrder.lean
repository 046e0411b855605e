/- RosterOrder holds for every input. Conditions: none. -/
import Derived.Test.YtgliaanopmlmfaaRoI
import Derived.Test.YtgliaanopmlmfaaRows
namespace Go.Proofs.Ytgliaanopmlmfaa
open Go.Ab Go.RowKit

theorem rosterOrder_lifted (os : Os) (started : os.Started) (H : Type) (enc : TypeId × Value → H) :
    ReturnsInHanded {} Try.checked os 5 .any (Rows.rosterOrderSpec.pre6 enc Try.prog Try.f5 Rows.rosterOrderRow.domain false) (Rows.rosterOrderSpec.post enc Try.prog Try.f5 false true false false) := by
  refine law_lifted (C := CT) (K := Try.checked) hT (by kernel_rfl) (R := [3, 22, 34, 29, 31, 32, 89, 62, 9]) (by kernel_rfl) (by kernel_rfl) started (by kernel_rfl) Try.func5
    (ChangeSpec.witness6 (enc := enc) (C := Try.checked) false ⟨#[], #[.slice none 0 0, .slice none 0 0, .agg (Array.replicate 16 (.int .i64 0) ++ #[.slice none 0 0]), .agg (Array.replicate 16 (.int .i64 0) ++ #[.slice none 0 0])], []⟩ 8 (by kernel_rfl) (by kernel_rfl) (by kernel_rfl) (by kernel_rfl))
    rfl ?_ (tb := 4) rfl (by kernel_rfl) (by kernel_rfl) ?_
  · intro H ds hl
    match ds, hl with
    | [d0, d1, d2, d3], _ => rfl
  · intro args h
    have hlen := h.1
    match args, h with
    | [x0, x1, x2, x3], h =>
      obtain ⟨qj, h⟩ := h.head
      obtain ⟨ql, h⟩ := h.head
      obtain ⟨qt, h⟩ := h.head
      obtain ⟨qu, h⟩ := h.head
      obtain ⟨j, rfl, hj, rj⟩ := qj.inv_intList ty22 ty3
      obtain ⟨l, rfl, hl, rl⟩ := ql.inv_intList ty22 ty3
      obtain ⟨t, rfl, ht, rt⟩ := inv_tx qt
      obtain ⟨u, rfl, hu, ru⟩ := inv_tx qu
      exact law_rorder j l t u ht hu
    | [], h => exact absurd h.1 (by simp [Try.f5])
    | [_], h => exact absurd h.1 (by simp [Try.f5])
    | [_, _], h => exact absurd h.1 (by simp [Try.f5])
    | [_, _, _], h => exact absurd h.1 (by simp [Try.f5])
    | _ :: _ :: _ :: _ :: _ :: _, h => exact absurd h.1 (by simp [Try.f5])
theorem rosterOrder_holds : Rows.RosterOrderSaid := by
  exact OpenClaim.holds_of_wide 5 Try.f5 rfl rfl rfl rfl rfl rfl rfl ⟨rfl, rfl, rfl, rfl, rfl⟩ rfl rfl rfl rfl rfl (by kernel_rfl) Try.func5 (by kernel_rfl)
    (of_decide_eq_true (by kernel_rfl)) (by unfold Func.isWrapper; first | (rw [if_pos (by decide +kernel)]; kernel_rfl) | (rw [if_neg (by decide +kernel)]; exact ⟨rfl, rfl⟩))
    (fun os started H enc _ => rosterOrder_lifted os started H enc)
end Go.Proofs.Ytgliaanopmlmfaa
