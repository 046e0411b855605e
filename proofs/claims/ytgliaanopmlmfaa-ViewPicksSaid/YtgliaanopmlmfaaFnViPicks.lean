/- ViewPicks holds for every input. Conditions: none. -/
import Derived.Test.YtgliaanopmlmfaaViI
import Derived.Test.YtgliaanopmlmfaaRows
namespace Go.Proofs.Ytgliaanopmlmfaa
open Go.Ab Go.RowKit

theorem viewPicks_lifted (os : Os) (started : os.Started) (H : Type) (enc : TypeId × Value → H) :
    ReturnsInHanded {} Try.checked os 6 .any (Rows.viewPicksSpec.pre6 enc Try.prog Try.f6 Rows.viewPicksRow.domain false) (Rows.viewPicksSpec.post enc Try.prog Try.f6 false true false false) := by
  refine law_lifted (C := CT) (K := Try.checked) hT (by kernel_rfl) (R := [3, 22]) (by kernel_rfl) (by kernel_rfl) started (by kernel_rfl) Try.func6
    (ChangeSpec.witness6 (enc := enc) (C := Try.checked) false ⟨#[], #[.slice none 0 0, .slice none 0 0, .int .i64 0], []⟩ 8 (by kernel_rfl) (by kernel_rfl) (by kernel_rfl) (by kernel_rfl))
    rfl ?_ (tb := 4) rfl (by kernel_rfl) (by kernel_rfl) ?_
  · intro H ds hl
    match ds, hl with
    | [d0, d1, d2], _ => rfl
  · intro args h
    have hlen := h.1
    match args, h with
    | [x0, x1, x2], h =>
      obtain ⟨ql, h⟩ := h.head
      obtain ⟨qm, h⟩ := h.head
      obtain ⟨qa, h⟩ := h.head
      obtain ⟨l, rfl, hl, rl⟩ := ql.inv_intList ty22 ty3
      obtain ⟨m, rfl, hm, rm⟩ := qm.inv_intList ty22 ty3
      obtain ⟨a, rfl, ra⟩ := qa.inv_i64 ty3
      exact law_vpicks l m a (by simpa [maxLen] using hl) (by simpa [maxLen] using hm)
    | [], h => exact absurd h.1 (by simp [Try.f6])
    | [_], h => exact absurd h.1 (by simp [Try.f6])
    | [_, _], h => exact absurd h.1 (by simp [Try.f6])
    | _ :: _ :: _ :: _ :: _, h => exact absurd h.1 (by simp [Try.f6])
theorem viewPicks_holds : Rows.ViewPicksSaid := by
  exact OpenClaim.holds_of_wide 6 Try.f6 rfl rfl rfl rfl rfl rfl rfl ⟨rfl, rfl, rfl, rfl, rfl⟩ rfl rfl rfl rfl rfl (by kernel_rfl) Try.func6 (by kernel_rfl)
    (of_decide_eq_true (by kernel_rfl)) (by unfold Func.isWrapper; first | (rw [if_pos (by decide +kernel)]; kernel_rfl) | (rw [if_neg (by decide +kernel)]; exact ⟨rfl, rfl⟩))
    (fun os started H enc _ => viewPicks_lifted os started H enc)
end Go.Proofs.Ytgliaanopmlmfaa
