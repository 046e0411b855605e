/- The document's answer for cells of whichever kind: which may be. Conditions: none. -/
import Derived.Test.YtehcjnendfpbaaaGreatCeG
import Derived.Test.YtehcjnendfpbaaaGreatReO
open Nat (reduceAdd reduceSub reduceMul reduceLT reduceLeDiff reduceEqDiff)
open Int (reduceToNat reduceLE reduceEq)
set_option linter.unusedSimpArgs false
namespace Go.Ab
open Go.Proofs

def endsQ (c : CellR) (k : Nat) : Bool := okG ElemR.m elOk c.el k && endsL c.el (c.el.length + 1) k
def checkD (c : CellR) : Bool := shapeQ c && (List.range c.el.length).all (endsQ c)
set_option maxRecDepth 8000 in
set_option maxHeartbeats 4000000 in
theorem ref11_check (c : CellR) (h : c.sm) : PSpec Tryz.prog CT 32 [cellD c] (· = .bool (checkD c)) := by
  have l1 := h.am; have l2 := h.wr; have l3 := h.me; have l4 := h.el; have l5 := h.eg
  refine PSpec.of hT Tryz.func32 rfl (by kernel_rfl) rfl rfl ?_
  have hw1 : IntKind.i64.wrap ((c.am.length : Int) + (c.wr.length : Int)) = (c.am.length : Int) + (c.wr.length : Int) := by rw [wrap64] <;> omega
  have hw2 : IntKind.i64.wrap ((c.am.length : Int) + (c.wr.length : Int) + (c.me.length : Int)) = (c.am.length : Int) + (c.wr.length : Int) + (c.me.length : Int) := by rw [wrap64] <;> omega
  simp only [Tryz.f32, go_sem, reduceAdd, reduceSub, reduceMul, reduceLT, reduceLeDiff, ↓reduceIte, reduceCtorEq, reduceEqDiff, reduceToNat, Int.reduceLT, reduceLE, reduceEq, hw1, hw2]
  have bad1 : ¬ (c.kind = 5 ∧ c.base = 0 ∧ c.am.length = 0 ∧ c.wr.length = 0 ∧ c.me.length = 0) → checkD c = false := fun h => by
    have : shapeQ c = false := by
      cases hs : shapeQ c with
      | false => rfl
      | true => exact absurd (by simpa [shapeQ, and_assoc] using hs) h
    simp only [checkD, this, Bool.false_and]
  (repeat' (first | ((refine guardK_split (fun hg => ?_) (fun hg => ?_)) <;> (try simp only [go_sem, reduceAdd, reduceSub, reduceMul, reduceLT, reduceLeDiff, ↓reduceIte, reduceCtorEq, reduceEqDiff, reduceToNat, Int.reduceLT, reduceLE, reduceEq, hg, hw1, hw2])) | ((refine condK_split (fun hg => ?_) (fun hg => ?_)) <;> (try simp only [go_sem, reduceAdd, reduceSub, reduceMul, reduceLT, reduceLeDiff, ↓reduceIte, reduceCtorEq, reduceEqDiff, reduceToNat, Int.reduceLT, reduceLE, reduceEq, hg, hw1, hw2])) | ((refine Or.inl ⟨by kernel_rfl, ?_⟩) <;> (try simp only [go_sem, reduceAdd, reduceSub, reduceMul, reduceLT, reduceLeDiff, ↓reduceIte, reduceCtorEq, reduceEqDiff, reduceToNat, Int.reduceLT, reduceLE, reduceEq, hw1, hw2])))) <;> (first | done | (rw [bad1 (by simp only [decide_eq_true_eq, decide_eq_false_iff_not, Bool.not_eq_true', Bool.not_eq_false', Bool.not_eq_eq_eq_not, Bool.not_true, Bool.not_false] at *; omega)]) | skip)
  all_goals
    have hs : shapeQ c = true := by
      simp only [shapeQ, Bool.and_eq_true, Bool.or_eq_true, decide_eq_true_eq]
      simp only [decide_eq_true_eq, decide_eq_false_iff_not, Bool.not_eq_true', Bool.not_eq_false', Bool.not_eq_eq_eq_not, Bool.not_true, Bool.not_false] at *
      omega
    have hck : checkD c = (List.range c.el.length).all (endsQ c) := by rw [checkD, hs, Bool.true_and]
    refine awp_loop (fun n s => ∃ (k : Nat) (ex : List (Sh × D)) (g : Nat → D), s = ⟨[g 0, .ptr 0 [], g 2, .lit (.int .i64 k), g 4, g 5, g 6, g 7, g 8, g 9, g 10, g 11, g 12, g 13, g 14, g 15, g 16, g 17, g 18, g 19, g 20, g 21, g 22, g 23, g 24, g 25, g 26, g 27, g 28, g 29, g 30, g 31, g 32, g 33, g 34, g 35, g 36, g 37, g 38, g 39, g 40, g 41, g 42, g 43, g 44, g 45, g 46, g 47, g 48, g 49, g 50, g 51, g 52, g 53, g 54, g 55, g 56, g 57, g 58, g 59, g 60, g 61, g 62, g 63, g 64, g 65, g 66, g 67, g 68, g 69, g 70, g 71, g 72, g 73, g 74, g 75, g 76, g 77, g 78], ⟨((.pair .leaf (.pair .leaf (.pair .leaf (.pair .leaf (.pair .leaf (.pair .leaf .unit)))))), cellD c) :: ex, []⟩⟩ ∧ n = c.el.length - k ∧ k ≤ c.el.length ∧ ∀ p, p < k → endsQ c p = true) c.el.length ⟨0, _, reg_intro rfl rfl ⟨by simp, by omega, by simp⟩⟩ ?_
    rintro n s ⟨k, ex, g, rfl, hn, hk, hp⟩
    simp only [go_sem, reduceAdd, reduceSub, reduceMul, reduceLT, reduceLeDiff, ↓reduceIte, reduceCtorEq, reduceEqDiff, reduceToNat, Int.reduceLT, reduceLE, reduceEq]
    refine condK_split (fun hc => ?_) (fun hc => ?_)
    · have hk' : k < c.el.length := by have := of_decide_eq_true hc; omega
      have bad : endsQ c k = false → checkD c = false := fun h => by rw [hck, all_bad hk' h]
      simp only [go_sem, reduceAdd, reduceSub, reduceMul, reduceLT, reduceLeDiff, ↓reduceIte, reduceCtorEq, reduceEqDiff, reduceToNat, Int.reduceLT, reduceLE, reduceEq, hk', get_elL]
      have hk1 : k - 1 < c.el.length := by omega
      have hmk : (c.el.getD k default).gone.length < 4000000000 := by have := l5 _ (getD_mem hk'); omega
      have hws : decide (0 < (k : Int)) = true → IntKind.i64.wrap ((k : Int) - 1) = ((k - 1 : Nat) : Int) := fun h => by
        have := of_decide_eq_true h
        rw [wrap64] <;> omega
      clear hs bad1 hck hw1 hw2
      refine .inl ⟨by kernel_rfl, ?_⟩
      (repeat' (first | ((refine guardK_split (fun hg => ?_) (fun hg => ?_)) <;> (try simp only [go_sem, reduceAdd, reduceSub, reduceMul, reduceLT, reduceLeDiff, ↓reduceIte, reduceCtorEq, reduceEqDiff, reduceToNat, Int.reduceLT, reduceLE, reduceEq, hg, hk', hk1, get_elL, get_elL1, hws, wrapNat k (by omega)])) | ((refine condK_split (fun hg => ?_) (fun hg => ?_)) <;> (try simp only [go_sem, reduceAdd, reduceSub, reduceMul, reduceLT, reduceLeDiff, ↓reduceIte, reduceCtorEq, reduceEqDiff, reduceToNat, Int.reduceLT, reduceLE, reduceEq, hg, hk', hk1, get_elL, get_elL1, hws, wrapNat k (by omega)])) | ((first | refine callK_pure (ref10_rising (c.el.getD k default).gone hmk) ?_ ?_ ?_ | refine callD_pure (ref10_rising (c.el.getD k default).gone hmk) ?_ ?_ ?_); (iterate 2 (focus (first | rfl | (simp only [go_sem, hk', hk1, get_elL, get_elL1, hws, wrapNat k (by omega)]; done)))); try simp only [go_sem, reduceAdd, reduceSub, reduceMul, reduceLT, reduceLeDiff, ↓reduceIte, reduceCtorEq, reduceEqDiff, reduceToNat, Int.reduceLT, reduceLE, reduceEq, hk', hk1, get_elL, get_elL1, hws, wrapNat k (by omega)]) | ((first | refine callK_pure (ref_less (c.el.getD (k - 1) default).m (c.el.getD k default).m) ?_ ?_ ?_ | refine callD_pure (ref_less (c.el.getD (k - 1) default).m (c.el.getD k default).m) ?_ ?_ ?_); (iterate 2 (focus (first | rfl | (simp only [go_sem, hk', hk1, get_elL, get_elL1, hws, wrapNat k (by omega)]; done)))); try simp only [go_sem, reduceAdd, reduceSub, reduceMul, reduceLT, reduceLeDiff, ↓reduceIte, reduceCtorEq, reduceEqDiff, reduceToNat, Int.reduceLT, reduceLE, reduceEq, hk', hk1, get_elL, get_elL1, hws, wrapNat k (by omega)]) | ((first | refine callK_pure (ref11_ends c.el k (by omega) hk') ?_ ?_ ?_ | refine callD_pure (ref11_ends c.el k (by omega) hk') ?_ ?_ ?_); (iterate 2 (focus (first | rfl | (simp only [go_sem, hk', hk1, get_elL, get_elL1, hws, wrapNat k (by omega)]; done)))); try simp only [go_sem, reduceAdd, reduceSub, reduceMul, reduceLT, reduceLeDiff, ↓reduceIte, reduceCtorEq, reduceEqDiff, reduceToNat, Int.reduceLT, reduceLE, reduceEq, hk', hk1, get_elL, get_elL1, hws, wrapNat k (by omega)]) | ((refine Or.inl ⟨by kernel_rfl, ?_⟩) <;> (try simp only [go_sem, reduceAdd, reduceSub, reduceMul, reduceLT, reduceLeDiff, ↓reduceIte, reduceCtorEq, reduceEqDiff, reduceToNat, Int.reduceLT, reduceLE, reduceEq, hk', hk1, get_elL, get_elL1, hws, wrapNat k (by omega)])))) <;> (first | done | (rw [bad (by first | (simp_all [endsQ, okG, elOk]; done) | (simp_all [endsQ, okG, elOk]; omega) | grind [endsQ, okG, elOk])]) | exact ⟨c.el.length - (k + 1), by omega, k + 1, _, reg_intro rfl rfl ⟨rfl, by omega, next_good hp (by first | (simp_all [endsQ, okG, elOk]; done) | (simp_all [endsQ, okG, elOk]; omega) | grind [endsQ, okG, elOk])⟩⟩)
    · have hi := of_decide_eq_false hc
      obtain rfl : k = c.el.length := by omega
      have hall : (List.range c.el.length).all (endsQ c) = true := all_good hp
      rw [hall] at hck
      simp only [go_sem, reduceAdd, reduceSub, reduceMul, reduceLT, reduceLeDiff, ↓reduceIte, reduceCtorEq, reduceEqDiff, reduceToNat, Int.reduceLT, reduceLE, reduceEq, hck]
def checkW (c : CellR) : Bool := if c.kind = 1 then checkN c else if c.kind = 2 ∨ c.kind = 3 then checkR c else if c.kind = 4 then checkS c else if c.kind = 5 then checkD c else false
set_option maxRecDepth 8000 in
theorem ref12_check (c : CellR) (h : c.sm) : PSpec Tryz.prog CT 8 [cellD c] (· = .bool (checkW c)) := by
  have l1 := h.am; have l2 := h.wr; have l3 := h.me; have l4 := h.el; have l5 := h.eg; have l6 := h.mm
  refine PSpec.of hT Tryz.func8 rfl (by kernel_rfl) rfl rfl ?_
  simp only [Tryz.f8, go_sem, reduceAdd, reduceSub, reduceMul, reduceLT, reduceLeDiff, ↓reduceIte, reduceCtorEq, reduceEqDiff, reduceToNat, Int.reduceLT, reduceLE, reduceEq]
  (repeat' (first | ((refine guardK_split (fun hg => ?_) (fun hg => ?_)) <;> (try simp only [go_sem, reduceAdd, reduceSub, reduceMul, reduceLT, reduceLeDiff, ↓reduceIte, reduceCtorEq, reduceEqDiff, reduceToNat, Int.reduceLT, reduceLE, reduceEq, hg])) | ((refine condK_split (fun hg => ?_) (fun hg => ?_)) <;> (try simp only [go_sem, reduceAdd, reduceSub, reduceMul, reduceLT, reduceLeDiff, ↓reduceIte, reduceCtorEq, reduceEqDiff, reduceToNat, Int.reduceLT, reduceLE, reduceEq, hg])) | ((first | refine callK_pure (ref08_check c h) ?_ ?_ ?_ | refine callD_pure (ref08_check c h) ?_ ?_ ?_); (iterate 2 (focus (first | rfl | (simp only [go_sem]; done)))); try simp only [go_sem, reduceAdd, reduceSub, reduceMul, reduceLT, reduceLeDiff, ↓reduceIte, reduceCtorEq, reduceEqDiff, reduceToNat, Int.reduceLT, reduceLE, reduceEq]) | ((first | refine callK_pure (ref09_check c (by omega) (by omega) (by omega) (by omega)) ?_ ?_ ?_ | refine callD_pure (ref09_check c (by omega) (by omega) (by omega) (by omega)) ?_ ?_ ?_); (iterate 2 (focus (first | rfl | (simp only [go_sem]; done)))); try simp only [go_sem, reduceAdd, reduceSub, reduceMul, reduceLT, reduceLeDiff, ↓reduceIte, reduceCtorEq, reduceEqDiff, reduceToNat, Int.reduceLT, reduceLE, reduceEq]) | ((first | refine callK_pure (ref10_check c (by omega) (by omega) (by omega) (by omega) (fun m hm => by have := l6 m hm; omega)) ?_ ?_ ?_ | refine callD_pure (ref10_check c (by omega) (by omega) (by omega) (by omega) (fun m hm => by have := l6 m hm; omega)) ?_ ?_ ?_); (iterate 2 (focus (first | rfl | (simp only [go_sem]; done)))); try simp only [go_sem, reduceAdd, reduceSub, reduceMul, reduceLT, reduceLeDiff, ↓reduceIte, reduceCtorEq, reduceEqDiff, reduceToNat, Int.reduceLT, reduceLE, reduceEq]) | ((first | refine callK_pure (ref11_check c h) ?_ ?_ ?_ | refine callD_pure (ref11_check c h) ?_ ?_ ?_); (iterate 2 (focus (first | rfl | (simp only [go_sem]; done)))); try simp only [go_sem, reduceAdd, reduceSub, reduceMul, reduceLT, reduceLeDiff, ↓reduceIte, reduceCtorEq, reduceEqDiff, reduceToNat, Int.reduceLT, reduceLE, reduceEq]) | ((refine Or.inl ⟨by kernel_rfl, ?_⟩) <;> (try simp only [go_sem, reduceAdd, reduceSub, reduceMul, reduceLT, reduceLeDiff, ↓reduceIte, reduceCtorEq, reduceEqDiff, reduceToNat, Int.reduceLT, reduceLE, reduceEq])))) <;> (first | done | (simp_all [checkW]; done) | (simp_all [checkW]; omega) | (simp_all [checkW]; intros; omega) | (simp_all [checkW]; grind))
theorem few_sm12 {c : CellR} (h : fewC c = true) : c.sm := by
  obtain ⟨h1, h2, h3, _⟩ := few_len h
  exact ⟨by omega, by omega, by omega, fun m hm => by have := h2 m hm; omega, by omega, fun e he => by have := h3 e he; omega⟩
def inL (m : MarkR) (l : List MarkR) : Bool := l.any (sameK m)
def thereC (c : CellR) (m : MarkR) : Bool := c.am.any (sameG AmountR.m m) || c.wr.any (sameG WriteR.m m) || c.me.any (fun x => inL m x.marks) || c.el.any (fun x => sameG ElemR.m m x || inL m x.gone)
theorem there_no {c : CellR} {m : MarkR} (h : thereC c m = false) : (∀ a ∈ c.am, a.m ≠ m) ∧ (∀ a ∈ c.wr, a.m ≠ m) ∧ (∀ e ∈ c.el, e.m ≠ m) := by
  simp only [thereC, Bool.or_eq_false_iff, List.any_eq_false, sameG, decide_eq_true_eq, Bool.or_eq_true, not_or] at h
  exact ⟨h.1.1.1, h.1.1.2, fun e he => (h.2 e he).1⟩
set_option maxRecDepth 8000 in
set_option maxHeartbeats 4000000 in
theorem law12_there (c : CellR) (m : MarkR) (h : c.sm) : PSpec Tryz.prog CT 12 [cellD c, m.d] (· = .bool (thereC c m)) := by
  have l1 := h.am; have l2 := h.wr; have l3 := h.me; have l4 := h.el; have l5 := h.eg; have l6 := h.mm
  refine PSpec.of hT Tryz.func12 rfl (by kernel_rfl) rfl rfl ?_
  simp only [Tryz.f12, go_sem, reduceAdd, reduceSub, reduceMul, reduceLT, reduceLeDiff, ↓reduceIte, reduceCtorEq, reduceEqDiff, reduceToNat, Int.reduceLT, reduceLE, reduceEq]
  refine awp_loop (fun n s => ∃ (k : Nat) (g : Nat → D), s = ⟨[g 0, g 1, .ptr 0 [], .ptr 1 [], g 4, .lit (.int .i64 k), g 6, g 7, g 8, g 9, g 10, g 11, g 12, g 13, g 14, g 15, g 16, g 17, g 18, g 19, g 20, g 21, g 22, g 23, g 24, g 25, g 26, g 27, g 28, g 29, g 30, g 31, g 32, g 33, g 34, g 35, g 36, g 37, g 38, g 39, g 40, g 41, g 42, g 43, g 44, g 45, g 46, g 47, g 48, g 49, g 50, g 51, g 52, g 53, g 54, g 55, g 56, g 57, g 58, g 59, g 60, g 61, g 62, g 63, g 64, g 65, g 66, g 67, g 68, g 69, g 70, g 71, g 72, g 73, g 74, g 75, g 76, g 77, g 78, g 79, g 80, g 81, g 82, g 83, g 84, g 85, g 86, g 87, g 88, g 89, g 90, g 91, g 92, g 93, g 94, g 95, g 96, g 97, g 98, g 99, g 100, g 101, g 102, g 103, g 104, g 105, g 106], ⟨[((.pair .leaf (.pair .leaf (.pair .leaf (.pair .leaf (.pair .leaf (.pair .leaf .unit)))))), cellD c), ((.pair (.pair .leaf (.pair .leaf .unit)) (.pair .leaf .unit)), m.d)], []⟩⟩ ∧ n = c.am.length - k ∧ k ≤ c.am.length ∧ ∀ q, q < k → sameG AmountR.m m (c.am.getD q default) = false) c.am.length ⟨0, reg_intro rfl rfl ⟨by simp, by omega, by simp⟩⟩ ?_
  rintro n st ⟨k, g, rfl, hn, hk, hp⟩
  simp only [go_sem, reduceAdd, reduceSub, reduceMul, reduceLT, reduceLeDiff, ↓reduceIte, reduceCtorEq, reduceEqDiff, reduceToNat, Int.reduceLT, reduceLE, reduceEq]
  refine condK_split (fun hc => ?_) (fun hc => ?_)
  · have hk' : k < c.am.length := by have := of_decide_eq_true hc; omega
    refine .inl ⟨by kernel_rfl, ?_⟩
    simp only [go_sem, reduceAdd, reduceSub, reduceMul, reduceLT, reduceLeDiff, ↓reduceIte, reduceCtorEq, reduceEqDiff, reduceToNat, Int.reduceLT, reduceLE, reduceEq, hk', get_am, eqB_mk]
    refine condK_split (fun h2 => ?_) (fun h2 => ?_)
    · have : c.am.any (sameG AmountR.m m) = true := any_at hk' h2
      simp only [go_sem, reduceAdd, reduceSub, reduceMul, reduceLT, reduceLeDiff, ↓reduceIte, reduceCtorEq, reduceEqDiff, reduceToNat, Int.reduceLT, reduceLE, reduceEq, thereC, this, Bool.true_or]
    · simp only [go_sem, reduceAdd, reduceSub, reduceMul, reduceLT, reduceLeDiff, ↓reduceIte, reduceCtorEq, reduceEqDiff, reduceToNat, Int.reduceLT, reduceLE, reduceEq, wrapNat k (by omega)]
      exact ⟨c.am.length - (k + 1), by omega, k + 1, reg_intro rfl rfl ⟨rfl, by omega, next_bad hp h2⟩⟩
  have hi := of_decide_eq_false hc
  obtain rfl : k = c.am.length := by omega
  have ha := any_no hp
  clear hn hk hc hi hp
  simp only [go_sem, reduceAdd, reduceSub, reduceMul, reduceLT, reduceLeDiff, ↓reduceIte, reduceCtorEq, reduceEqDiff, reduceToNat, Int.reduceLT, reduceLE, reduceEq]
  refine awp_loop (fun n s => ∃ (k : Nat) (g : Nat → D), s = ⟨[g 0, g 1, .ptr 0 [], .ptr 1 [], g 4, g 5, .lit (.int .i64 k), g 7, g 8, g 9, g 10, g 11, g 12, g 13, g 14, g 15, g 16, g 17, g 18, g 19, g 20, g 21, g 22, g 23, g 24, g 25, g 26, g 27, g 28, g 29, g 30, g 31, g 32, g 33, g 34, g 35, g 36, g 37, g 38, g 39, g 40, g 41, g 42, g 43, g 44, g 45, g 46, g 47, g 48, g 49, g 50, g 51, g 52, g 53, g 54, g 55, g 56, g 57, g 58, g 59, g 60, g 61, g 62, g 63, g 64, g 65, g 66, g 67, g 68, g 69, g 70, g 71, g 72, g 73, g 74, g 75, g 76, g 77, g 78, g 79, g 80, g 81, g 82, g 83, g 84, g 85, g 86, g 87, g 88, g 89, g 90, g 91, g 92, g 93, g 94, g 95, g 96, g 97, g 98, g 99, g 100, g 101, g 102, g 103, g 104, g 105, g 106], ⟨[((.pair .leaf (.pair .leaf (.pair .leaf (.pair .leaf (.pair .leaf (.pair .leaf .unit)))))), cellD c), ((.pair (.pair .leaf (.pair .leaf .unit)) (.pair .leaf .unit)), m.d)], []⟩⟩ ∧ n = c.wr.length - k ∧ k ≤ c.wr.length ∧ ∀ q, q < k → sameG WriteR.m m (c.wr.getD q default) = false) c.wr.length ⟨0, reg_intro rfl rfl ⟨by simp, by omega, by simp⟩⟩ ?_
  rintro n st ⟨k, g, rfl, hn, hk, hp⟩
  simp only [go_sem, reduceAdd, reduceSub, reduceMul, reduceLT, reduceLeDiff, ↓reduceIte, reduceCtorEq, reduceEqDiff, reduceToNat, Int.reduceLT, reduceLE, reduceEq]
  refine condK_split (fun hc => ?_) (fun hc => ?_)
  · have hk' : k < c.wr.length := by have := of_decide_eq_true hc; omega
    refine .inl ⟨by kernel_rfl, ?_⟩
    simp only [go_sem, reduceAdd, reduceSub, reduceMul, reduceLT, reduceLeDiff, ↓reduceIte, reduceCtorEq, reduceEqDiff, reduceToNat, Int.reduceLT, reduceLE, reduceEq, hk', get_wr, eqB_mk]
    refine condK_split (fun h2 => ?_) (fun h2 => ?_)
    · have : c.wr.any (sameG WriteR.m m) = true := any_at hk' h2
      simp only [go_sem, reduceAdd, reduceSub, reduceMul, reduceLT, reduceLeDiff, ↓reduceIte, reduceCtorEq, reduceEqDiff, reduceToNat, Int.reduceLT, reduceLE, reduceEq, thereC, this, Bool.true_or, Bool.or_true]
    · simp only [go_sem, reduceAdd, reduceSub, reduceMul, reduceLT, reduceLeDiff, ↓reduceIte, reduceCtorEq, reduceEqDiff, reduceToNat, Int.reduceLT, reduceLE, reduceEq, wrapNat k (by omega)]
      exact ⟨c.wr.length - (k + 1), by omega, k + 1, reg_intro rfl rfl ⟨rfl, by omega, next_bad hp h2⟩⟩
  have hi := of_decide_eq_false hc
  obtain rfl : k = c.wr.length := by omega
  have hb := any_no hp
  clear hn hk hc hi hp
  simp only [go_sem, reduceAdd, reduceSub, reduceMul, reduceLT, reduceLeDiff, ↓reduceIte, reduceCtorEq, reduceEqDiff, reduceToNat, Int.reduceLT, reduceLE, reduceEq]
  refine awp_loop (fun n s => ∃ (k : Nat) (g : Nat → D), s = ⟨[g 0, g 1, .ptr 0 [], .ptr 1 [], g 4, g 5, g 6, .lit (.int .i64 k), g 8, g 9, g 10, g 11, g 12, g 13, g 14, g 15, g 16, g 17, g 18, g 19, g 20, g 21, g 22, g 23, g 24, g 25, g 26, g 27, g 28, g 29, g 30, g 31, g 32, g 33, g 34, g 35, g 36, g 37, g 38, g 39, g 40, g 41, g 42, g 43, g 44, g 45, g 46, g 47, g 48, g 49, g 50, g 51, g 52, g 53, g 54, g 55, g 56, g 57, g 58, g 59, g 60, g 61, g 62, g 63, g 64, g 65, g 66, g 67, g 68, g 69, g 70, g 71, g 72, g 73, g 74, g 75, g 76, g 77, g 78, g 79, g 80, g 81, g 82, g 83, g 84, g 85, g 86, g 87, g 88, g 89, g 90, g 91, g 92, g 93, g 94, g 95, g 96, g 97, g 98, g 99, g 100, g 101, g 102, g 103, g 104, g 105, g 106], ⟨[((.pair .leaf (.pair .leaf (.pair .leaf (.pair .leaf (.pair .leaf (.pair .leaf .unit)))))), cellD c), ((.pair (.pair .leaf (.pair .leaf .unit)) (.pair .leaf .unit)), m.d)], []⟩⟩ ∧ n = c.me.length - k ∧ k ≤ c.me.length ∧ ∀ q, q < k → inL m (c.me.getD q default).marks = false) c.me.length ⟨0, reg_intro rfl rfl ⟨by simp, by omega, by simp⟩⟩ ?_
  rintro n st ⟨k, g, rfl, hn, hk, hp⟩
  simp only [go_sem, reduceAdd, reduceSub, reduceMul, reduceLT, reduceLeDiff, ↓reduceIte, reduceCtorEq, reduceEqDiff, reduceToNat, Int.reduceLT, reduceLE, reduceEq]
  refine condK_split (fun hc => ?_) (fun hc => ?_)
  · have hk' : k < c.me.length := by have := of_decide_eq_true hc; omega
    have hml := l6 _ (getD_mem hk')
    simp only [go_sem, reduceAdd, reduceSub, reduceMul, reduceLT, reduceLeDiff, ↓reduceIte, reduceCtorEq, reduceEqDiff, reduceToNat, Int.reduceLT, reduceLE, reduceEq]
    refine awp_loop (fun n s => ∃ (j : Nat) (g : Nat → D), s = ⟨[g 0, g 1, .ptr 0 [], .ptr 1 [], g 4, g 5, g 6, .lit (.int .i64 k), .lit (.int .i64 j), g 9, g 10, g 11, g 12, g 13, g 14, g 15, g 16, g 17, g 18, g 19, g 20, g 21, g 22, g 23, g 24, g 25, g 26, g 27, g 28, g 29, g 30, g 31, g 32, g 33, g 34, g 35, g 36, g 37, g 38, g 39, g 40, g 41, g 42, g 43, g 44, g 45, g 46, g 47, g 48, g 49, g 50, g 51, g 52, g 53, g 54, g 55, g 56, g 57, g 58, g 59, g 60, g 61, g 62, g 63, g 64, g 65, g 66, g 67, g 68, g 69, g 70, g 71, g 72, g 73, g 74, g 75, g 76, g 77, g 78, g 79, g 80, g 81, g 82, g 83, g 84, g 85, g 86, g 87, g 88, g 89, g 90, g 91, g 92, g 93, g 94, g 95, g 96, g 97, g 98, g 99, g 100, g 101, g 102, g 103, g 104, g 105, g 106], ⟨[((.pair .leaf (.pair .leaf (.pair .leaf (.pair .leaf (.pair .leaf (.pair .leaf .unit)))))), cellD c), ((.pair (.pair .leaf (.pair .leaf .unit)) (.pair .leaf .unit)), m.d)], []⟩⟩ ∧ n = (c.me.getD k default).marks.length - j ∧ j ≤ (c.me.getD k default).marks.length ∧ ∀ q, q < j → sameK m ((c.me.getD k default).marks.getD q default) = false) (c.me.getD k default).marks.length ⟨0, reg_intro rfl rfl ⟨by simp, by omega, by simp⟩⟩ ?_
    rintro n st ⟨j, g, rfl, hn, hj, hpj⟩
    simp only [go_sem, reduceAdd, reduceSub, reduceMul, reduceLT, reduceLeDiff, ↓reduceIte, reduceCtorEq, reduceEqDiff, reduceToNat, Int.reduceLT, reduceLE, reduceEq, hk', get_me, meAt]
    refine condK_split (fun hc2 => ?_) (fun hc2 => ?_)
    · have hj' : j < (c.me.getD k default).marks.length := by have := of_decide_eq_true hc2; omega
      refine .inl ⟨by kernel_rfl, ?_⟩
      simp only [go_sem, reduceAdd, reduceSub, reduceMul, reduceLT, reduceLeDiff, ↓reduceIte, reduceCtorEq, reduceEqDiff, reduceToNat, Int.reduceLT, reduceLE, reduceEq, hk', hj', get_me, get_mk, meAt, eqB_mk]
      refine condK_split (fun h2 => ?_) (fun h2 => ?_)
      · have h3 : inL m (c.me.getD k default).marks = true := any_at hj' h2
        have : c.me.any (fun x => inL m x.marks) = true := any_at (p := fun x : MemberR => inL m x.marks) hk' h3
        simp only [go_sem, reduceAdd, reduceSub, reduceMul, reduceLT, reduceLeDiff, ↓reduceIte, reduceCtorEq, reduceEqDiff, reduceToNat, Int.reduceLT, reduceLE, reduceEq, thereC, this, Bool.true_or, Bool.or_true]
      · simp only [go_sem, reduceAdd, reduceSub, reduceMul, reduceLT, reduceLeDiff, ↓reduceIte, reduceCtorEq, reduceEqDiff, reduceToNat, Int.reduceLT, reduceLE, reduceEq, wrapNat j (by omega)]
        exact ⟨(c.me.getD k default).marks.length - (j + 1), by omega, j + 1, reg_intro rfl rfl ⟨rfl, by omega, next_bad hpj h2⟩⟩
    · have hi2 := of_decide_eq_false hc2
      obtain rfl : j = (c.me.getD k default).marks.length := by omega
      have h3 : inL m (c.me.getD k default).marks = false := any_no hpj
      simp only [go_sem, reduceAdd, reduceSub, reduceMul, reduceLT, reduceLeDiff, ↓reduceIte, reduceCtorEq, reduceEqDiff, reduceToNat, Int.reduceLT, reduceLE, reduceEq, wrapNat k (by omega)]
      exact ⟨c.me.length - (k + 1), by omega, k + 1, reg_intro rfl rfl ⟨rfl, by omega, next_bad (f := fun q => inL m (c.me.getD q default).marks) hp h3⟩⟩
  have hi := of_decide_eq_false hc
  obtain rfl : k = c.me.length := by omega
  have hd := any_no (p := fun x : MemberR => inL m x.marks) hp
  clear hn hk hc hi hp
  simp only [go_sem, reduceAdd, reduceSub, reduceMul, reduceLT, reduceLeDiff, ↓reduceIte, reduceCtorEq, reduceEqDiff, reduceToNat, Int.reduceLT, reduceLE, reduceEq]
  refine awp_loop (fun n s => ∃ (k : Nat) (g : Nat → D), s = ⟨[g 0, g 1, .ptr 0 [], .ptr 1 [], g 4, g 5, g 6, g 7, g 8, .lit (.int .i64 k), g 10, g 11, g 12, g 13, g 14, g 15, g 16, g 17, g 18, g 19, g 20, g 21, g 22, g 23, g 24, g 25, g 26, g 27, g 28, g 29, g 30, g 31, g 32, g 33, g 34, g 35, g 36, g 37, g 38, g 39, g 40, g 41, g 42, g 43, g 44, g 45, g 46, g 47, g 48, g 49, g 50, g 51, g 52, g 53, g 54, g 55, g 56, g 57, g 58, g 59, g 60, g 61, g 62, g 63, g 64, g 65, g 66, g 67, g 68, g 69, g 70, g 71, g 72, g 73, g 74, g 75, g 76, g 77, g 78, g 79, g 80, g 81, g 82, g 83, g 84, g 85, g 86, g 87, g 88, g 89, g 90, g 91, g 92, g 93, g 94, g 95, g 96, g 97, g 98, g 99, g 100, g 101, g 102, g 103, g 104, g 105, g 106], ⟨[((.pair .leaf (.pair .leaf (.pair .leaf (.pair .leaf (.pair .leaf (.pair .leaf .unit)))))), cellD c), ((.pair (.pair .leaf (.pair .leaf .unit)) (.pair .leaf .unit)), m.d)], []⟩⟩ ∧ n = c.el.length - k ∧ k ≤ c.el.length ∧ ∀ q, q < k → (sameG ElemR.m m (c.el.getD q default) || inL m (c.el.getD q default).gone) = false) c.el.length ⟨0, reg_intro rfl rfl ⟨by simp, by omega, by simp⟩⟩ ?_
  rintro n st ⟨k, g, rfl, hn, hk, hp⟩
  simp only [go_sem, reduceAdd, reduceSub, reduceMul, reduceLT, reduceLeDiff, ↓reduceIte, reduceCtorEq, reduceEqDiff, reduceToNat, Int.reduceLT, reduceLE, reduceEq]
  refine condK_split (fun hc => ?_) (fun hc => ?_)
  · have hk' : k < c.el.length := by have := of_decide_eq_true hc; omega
    have hml := l5 _ (getD_mem hk')
    refine .inl ⟨by kernel_rfl, ?_⟩
    simp only [go_sem, reduceAdd, reduceSub, reduceMul, reduceLT, reduceLeDiff, ↓reduceIte, reduceCtorEq, reduceEqDiff, reduceToNat, Int.reduceLT, reduceLE, reduceEq, hk', get_elL, eqB_mk]
    refine condK_split (fun h2 => ?_) (fun h2 => ?_)
    · have h2 : sameG ElemR.m m (c.el.getD k default) = true := h2
      have : c.el.any (fun x => sameG ElemR.m m x || inL m x.gone) = true := any_at (p := fun x : ElemR => sameG ElemR.m m x || inL m x.gone) hk' (by rw [h2, Bool.true_or])
      simp only [go_sem, reduceAdd, reduceSub, reduceMul, reduceLT, reduceLeDiff, ↓reduceIte, reduceCtorEq, reduceEqDiff, reduceToNat, Int.reduceLT, reduceLE, reduceEq, thereC, this, Bool.or_true]
    have h2 : sameG ElemR.m m (c.el.getD k default) = false := h2
    simp only [go_sem, reduceAdd, reduceSub, reduceMul, reduceLT, reduceLeDiff, ↓reduceIte, reduceCtorEq, reduceEqDiff, reduceToNat, Int.reduceLT, reduceLE, reduceEq]
    refine awp_loop (fun n s => ∃ (j : Nat) (g : Nat → D), s = ⟨[g 0, g 1, .ptr 0 [], .ptr 1 [], g 4, g 5, g 6, g 7, g 8, .lit (.int .i64 k), .lit (.int .i64 j), g 11, g 12, g 13, g 14, g 15, g 16, g 17, g 18, g 19, g 20, g 21, g 22, g 23, g 24, g 25, g 26, g 27, g 28, g 29, g 30, g 31, g 32, g 33, g 34, g 35, g 36, g 37, g 38, g 39, g 40, g 41, g 42, g 43, g 44, g 45, g 46, g 47, g 48, g 49, g 50, g 51, g 52, g 53, g 54, g 55, g 56, g 57, g 58, g 59, g 60, g 61, g 62, g 63, g 64, g 65, g 66, g 67, g 68, g 69, g 70, g 71, g 72, g 73, g 74, g 75, g 76, g 77, g 78, g 79, g 80, g 81, g 82, g 83, g 84, g 85, g 86, g 87, g 88, g 89, g 90, g 91, g 92, g 93, g 94, g 95, g 96, g 97, g 98, g 99, g 100, g 101, g 102, g 103, g 104, g 105, g 106], ⟨[((.pair .leaf (.pair .leaf (.pair .leaf (.pair .leaf (.pair .leaf (.pair .leaf .unit)))))), cellD c), ((.pair (.pair .leaf (.pair .leaf .unit)) (.pair .leaf .unit)), m.d)], []⟩⟩ ∧ n = (c.el.getD k default).gone.length - j ∧ j ≤ (c.el.getD k default).gone.length ∧ ∀ q, q < j → sameK m ((c.el.getD k default).gone.getD q default) = false) (c.el.getD k default).gone.length ⟨0, reg_intro rfl rfl ⟨by simp, by omega, by simp⟩⟩ ?_
    rintro n st ⟨j, g, rfl, hn, hj, hpj⟩
    simp only [go_sem, reduceAdd, reduceSub, reduceMul, reduceLT, reduceLeDiff, ↓reduceIte, reduceCtorEq, reduceEqDiff, reduceToNat, Int.reduceLT, reduceLE, reduceEq, hk', get_elL]
    refine condK_split (fun hc2 => ?_) (fun hc2 => ?_)
    · have hj' : j < (c.el.getD k default).gone.length := by have := of_decide_eq_true hc2; omega
      refine .inl ⟨by kernel_rfl, ?_⟩
      simp only [go_sem, reduceAdd, reduceSub, reduceMul, reduceLT, reduceLeDiff, ↓reduceIte, reduceCtorEq, reduceEqDiff, reduceToNat, Int.reduceLT, reduceLE, reduceEq, hk', hj', get_elL, get_mk, eqB_mk]
      refine condK_split (fun h4 => ?_) (fun h4 => ?_)
      · have h3 : inL m (c.el.getD k default).gone = true := any_at hj' h4
        have : c.el.any (fun x => sameG ElemR.m m x || inL m x.gone) = true := any_at (p := fun x : ElemR => sameG ElemR.m m x || inL m x.gone) hk' (by rw [h3, Bool.or_true])
        simp only [go_sem, reduceAdd, reduceSub, reduceMul, reduceLT, reduceLeDiff, ↓reduceIte, reduceCtorEq, reduceEqDiff, reduceToNat, Int.reduceLT, reduceLE, reduceEq, thereC, this, Bool.or_true]
      · simp only [go_sem, reduceAdd, reduceSub, reduceMul, reduceLT, reduceLeDiff, ↓reduceIte, reduceCtorEq, reduceEqDiff, reduceToNat, Int.reduceLT, reduceLE, reduceEq, wrapNat j (by omega)]
        exact ⟨(c.el.getD k default).gone.length - (j + 1), by omega, j + 1, reg_intro rfl rfl ⟨rfl, by omega, next_bad hpj h4⟩⟩
    · have hi2 := of_decide_eq_false hc2
      obtain rfl : j = (c.el.getD k default).gone.length := by omega
      have h3 : inL m (c.el.getD k default).gone = false := any_no hpj
      simp only [go_sem, reduceAdd, reduceSub, reduceMul, reduceLT, reduceLeDiff, ↓reduceIte, reduceCtorEq, reduceEqDiff, reduceToNat, Int.reduceLT, reduceLE, reduceEq, wrapNat k (by omega)]
      exact ⟨c.el.length - (k + 1), by omega, k + 1, reg_intro rfl rfl ⟨rfl, by omega, next_bad (f := fun q => sameG ElemR.m m (c.el.getD q default) || inL m (c.el.getD q default).gone) hp (by simp only [h2, h3, Bool.or_false])⟩⟩
  have hi := of_decide_eq_false hc
  obtain rfl : k = c.el.length := by omega
  have he := any_no (p := fun x : ElemR => sameG ElemR.m m x || inL m x.gone) hp
  simp only [go_sem, reduceAdd, reduceSub, reduceMul, reduceLT, reduceLeDiff, ↓reduceIte, reduceCtorEq, reduceEqDiff, reduceToNat, Int.reduceLT, reduceLE, reduceEq, thereC, ha, hb, hd, he, Bool.or_false]
end Go.Ab
