/- Sets: marks with one more, without some, in the document. Conditions: none. -/
import Derived.Test.YtehcjnendfpbaaaGreatOsK
import Derived.Test.YtehcjnendfpbaaaGreatReC
set_option linter.unusedSimpArgs false
namespace Go.Ab
open Go.Proofs

end Go.Ab
set_option linter.unusedSimpArgs false
namespace Go.Ab
open Go.Proofs

theorem fm_len {α β : Type} (f : α → Option β) (l : List α) : (l.filterMap f).length ≤ l.length := List.length_filterMap_le _ _
end Go.Ab
set_option linter.unusedSimpArgs false
namespace Go.Ab
open Go.Proofs

end Go.Ab
set_option linter.unusedSimpArgs false
namespace Go.Ab
open Go.Proofs

end Go.Ab
set_option linter.unusedSimpArgs false
namespace Go.Ab
open Go.Proofs

def wrOk (c : CellR) (k : Nat) : Bool := decide (1 ≤ (wrAt c k).m.i) && decide (((wrAt c k).text.size : Int) ≤ 64) && (decide (k = 0) || markLt (wrAt c (k - 1)).m (wrAt c k).m)
def shapeR (c : CellR) : Bool := (decide (c.kind = 2) || decide (c.kind = 3)) && decide (c.base = 0) && decide (c.am.length = 0) && decide (c.me.length = 0) && decide (c.el.length = 0)
def checkR (c : CellR) : Bool := shapeR c && (List.range c.wr.length).all (wrOk c)
theorem get_wr1 (c : CellR) (k : Nat) (h : (k < c.wr.length) = True) : (c.wr.map wrD)[k - 1]? = some (wrD (wrAt c (k - 1))) := get_enc _ _ _ (by have := of_eq_true h; simp; omega)

set_option maxRecDepth 8000 in
set_option maxHeartbeats 1000000 in
theorem register_check (c : CellR) (hw : c.wr.length < 4000000000) : PSpec Tryz.prog CT 129 [cellD c] (· = .bool (checkR c)) := by
  refine PSpec.of hT Tryz.func129 rfl (by kernel_rfl) rfl rfl ?_
  simp only [Tryz.f129, go_sem, simprocAttr]
  have bad1 : ¬ ((c.kind = 2 ∨ c.kind = 3) ∧ c.base = 0 ∧ c.am.length = 0 ∧ c.me.length = 0 ∧ c.el.length = 0) → checkR c = false := fun h => by
    have : shapeR c = false := by
      cases hs : shapeR c with
      | false => rfl
      | true => exact absurd (by simpa [shapeR, and_assoc] using hs) h
    simp only [checkR, this, Bool.false_and]
  (repeat' (first | ((refine guardK_split (fun hg => ?_) (fun hg => ?_)) <;> (try simp only [go_sem, simprocAttr, hg])) | ((refine condK_split (fun hg => ?_) (fun hg => ?_)) <;> (try simp only [go_sem, simprocAttr, hg])) | ((refine Or.inl ⟨by kernel_rfl, ?_⟩) <;> (try simp only [go_sem, simprocAttr])))) <;> (first | done | (rw [bad1 (by simp only [decide_eq_true_eq, decide_eq_false_iff_not, Bool.not_eq_true', Bool.not_eq_false', Bool.not_eq_eq_eq_not, Bool.not_true, Bool.not_false] at *; omega)]) | skip)
  all_goals
    have hs : shapeR c = true := by
      simp only [shapeR, Bool.and_eq_true, Bool.or_eq_true, decide_eq_true_eq]
      simp only [decide_eq_true_eq, decide_eq_false_iff_not, Bool.not_eq_true', Bool.not_eq_false', Bool.not_eq_eq_eq_not, Bool.not_true, Bool.not_false] at *
      omega
    refine awp_loop (fun n s => ∃ (k : Nat) (ex : List (Sh × D)) (g : Nat → D), s = ⟨[g 0, .ptr 0 [], g 2, g 3, g 4, g 5, g 6, g 7, g 8, g 9, g 10, g 11, g 12, g 13, g 14, g 15, g 16, g 17, g 18, g 19, g 20, g 21, g 22, g 23, g 24, g 25, g 26, g 27, g 28, g 29, g 30, g 31, g 32, wrsD c.wr .no, .lit (.int .i64 c.wr.length), .lit (.int .i64 k), g 36, g 37, g 38, g 39, g 40, g 41, g 42, g 43, g 44, g 45, g 46, g 47, g 48, g 49, g 50, g 51, g 52, g 53, g 54, g 55, g 56, g 57, g 58, g 59, g 60, g 61, g 62, g 63, g 64, g 65, g 66, g 67], ⟨((.pair .leaf (.pair .leaf (.pair .leaf (.pair .leaf (.pair .leaf (.pair .leaf .unit)))))), cellD c) :: ex, []⟩⟩ ∧ n = c.wr.length - k ∧ k ≤ c.wr.length ∧ ∀ p, p < k → wrOk c p = true) c.wr.length ⟨0, _, reg_intro rfl rfl ⟨by simp, by omega, by simp⟩⟩ ?_
    rintro n s ⟨k, ex, g, rfl, hn, hk, hp⟩
    simp only [go_sem, simprocAttr]
    refine condK_split (fun hc => ?_) (fun hc => ?_)
    · have hk' : k < c.wr.length := by have := of_decide_eq_true hc; omega
      have bad : wrOk c k = false → checkR c = false := fun h => by simp only [checkR, all_bad hk' h, Bool.and_false]
      simp only [go_sem, simprocAttr, hk', get_wr]
      have hk1 : k - 1 < c.wr.length := by omega
      have hws : decide (0 < (k : Int)) = true → IntKind.i64.wrap ((k : Int) - 1) = ((k - 1 : Nat) : Int) := fun h => by
        have := of_decide_eq_true h
        rw [wrap64] <;> omega
      refine .inl ⟨by kernel_rfl, ?_⟩
      clear hs bad1
      (repeat' (first | ((refine guardK_split (fun hg => ?_) (fun hg => ?_)) <;> (try simp only [go_sem, simprocAttr, hg, hk', hk1, get_wr, get_wr1, hws, wrapNat k (by omega)])) | ((refine condK_split (fun hg => ?_) (fun hg => ?_)) <;> (try simp only [go_sem, simprocAttr, hg, hk', hk1, get_wr, get_wr1, hws, wrapNat k (by omega)])) | ((first | refine callK_pure (ops_less (wrAt c (k - 1)).m (wrAt c k).m) ?_ ?_ ?_ | refine callD_pure (ops_less (wrAt c (k - 1)).m (wrAt c k).m) ?_ ?_ ?_); (iterate 2 (focus (first | rfl | (simp only [go_sem, hk', hk1, get_wr, get_wr1, hws, wrapNat k (by omega)]; done)))); try simp only [go_sem, simprocAttr, hk', hk1, get_wr, get_wr1, hws, wrapNat k (by omega)]) | ((refine Or.inl ⟨by kernel_rfl, ?_⟩) <;> (try simp only [go_sem, simprocAttr, hk', hk1, get_wr, get_wr1, hws, wrapNat k (by omega)])))) <;> (first | done | (rw [bad (by first | (simp_all [wrOk]; done) | (simp_all [wrOk]; omega) | grind [wrOk])]) | exact ⟨c.wr.length - (k + 1), by omega, k + 1, _, reg_intro rfl rfl ⟨rfl, by omega, next_good hp (by first | (simp_all [wrOk]; done) | (simp_all [wrOk]; omega) | grind [wrOk])⟩⟩)
    · have hi := of_decide_eq_false hc
      obtain rfl : k = c.wr.length := by omega
      have : checkR c = true := by simp only [checkR, hs, all_good hp, Bool.and_true]
      simp only [go_sem, simprocAttr, this]
end Go.Ab
