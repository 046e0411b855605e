/- The document's answer for counters and sequences: which may be. Conditions: none. -/
import Derived.Test.YtehcjnendfpbaaaGreatCeE
open Nat (reduceAdd reduceSub reduceMul reduceLT reduceLeDiff reduceEqDiff)
open Int (reduceToNat reduceLE reduceEq)
set_option linter.unusedSimpArgs false
namespace Go.Ab
open Go.Proofs

theorem ref08_amount (n : Int) : PSpec Tryz.prog CT 55 [.lit (.int .i64 n)] (· = .bool (inA n)) := by
  refine PSpec.of hT Tryz.func55 rfl (by kernel_rfl) rfl rfl ?_
  simp only [Tryz.f55, go_sem, reduceAdd, reduceSub, reduceMul, reduceLT, reduceLeDiff, ↓reduceIte, reduceCtorEq, reduceEqDiff, reduceToNat, Int.reduceLT, reduceLE, reduceEq]
  (repeat' (first | ((refine guardK_split (fun hg => ?_) (fun hg => ?_)) <;> (try simp only [go_sem, reduceAdd, reduceSub, reduceMul, reduceLT, reduceLeDiff, ↓reduceIte, reduceCtorEq, reduceEqDiff, reduceToNat, Int.reduceLT, reduceLE, reduceEq, hg])) | ((refine condK_split (fun hg => ?_) (fun hg => ?_)) <;> (try simp only [go_sem, reduceAdd, reduceSub, reduceMul, reduceLT, reduceLeDiff, ↓reduceIte, reduceCtorEq, reduceEqDiff, reduceToNat, Int.reduceLT, reduceLE, reduceEq, hg])) | ((refine Or.inl ⟨by kernel_rfl, ?_⟩) <;> (try simp only [go_sem, reduceAdd, reduceSub, reduceMul, reduceLT, reduceLeDiff, ↓reduceIte, reduceCtorEq, reduceEqDiff, reduceToNat, Int.reduceLT, reduceLE, reduceEq])))) <;> (first | done | (simp_all [inA]; done) | (simp_all [inA]; omega) | (simp_all [inA]; intros; omega) | (simp_all [inA]; grind))
theorem amOk_eq (a : AmountR) : amOk a = (inA a.n && decide (1 ≤ a.m.i)) := by simp [amOk, inA]
set_option maxRecDepth 8000 in
set_option maxHeartbeats 4000000 in
theorem ref08_check (c : CellR) (h : c.sm) : PSpec Tryz.prog CT 29 [cellD c] (· = .bool (checkN c)) := by
  have l1 := h.am; have l2 := h.wr; have l3 := h.me; have l4 := h.el
  refine PSpec.of hT Tryz.func29 rfl (by kernel_rfl) rfl rfl ?_
  have hw1 : IntKind.i64.wrap ((c.wr.length : Int) + (c.me.length : Int)) = (c.wr.length : Int) + (c.me.length : Int) := by rw [wrap64] <;> omega
  have hw2 : IntKind.i64.wrap ((c.wr.length : Int) + (c.me.length : Int) + (c.el.length : Int)) = (c.wr.length : Int) + (c.me.length : Int) + (c.el.length : Int) := by rw [wrap64] <;> omega
  simp only [Tryz.f29, go_sem, reduceAdd, reduceSub, reduceMul, reduceLT, reduceLeDiff, ↓reduceIte, reduceCtorEq, reduceEqDiff, reduceToNat, Int.reduceLT, reduceLE, reduceEq, hw1, hw2]
  have bad1 : ¬ (c.kind = 1 ∧ c.wr.length = 0 ∧ c.me.length = 0 ∧ c.el.length = 0 ∧ -1152921504606846976 ≤ c.base ∧ c.base ≤ 1152921504606846976) → checkN c = false := fun h => by
    have : shapeN c = false := by
      cases hs : shapeN c with
      | false => rfl
      | true => exact absurd (by simpa [shapeN, inW, and_assoc] using hs) h
    simp only [checkN, this, Bool.false_and]
  (repeat' (first | ((refine guardK_split (fun hg => ?_) (fun hg => ?_)) <;> (try simp only [go_sem, reduceAdd, reduceSub, reduceMul, reduceLT, reduceLeDiff, ↓reduceIte, reduceCtorEq, reduceEqDiff, reduceToNat, Int.reduceLT, reduceLE, reduceEq, hg, hw1, hw2])) | ((refine condK_split (fun hg => ?_) (fun hg => ?_)) <;> (try simp only [go_sem, reduceAdd, reduceSub, reduceMul, reduceLT, reduceLeDiff, ↓reduceIte, reduceCtorEq, reduceEqDiff, reduceToNat, Int.reduceLT, reduceLE, reduceEq, hg, hw1, hw2])) | ((refine Or.inl ⟨by kernel_rfl, ?_⟩) <;> (try simp only [go_sem, reduceAdd, reduceSub, reduceMul, reduceLT, reduceLeDiff, ↓reduceIte, reduceCtorEq, reduceEqDiff, reduceToNat, Int.reduceLT, reduceLE, reduceEq, hw1, hw2])))) <;> (first | done | (rw [bad1 (by simp only [decide_eq_true_eq, decide_eq_false_iff_not, Bool.not_eq_true', Bool.not_eq_false', Bool.not_eq_eq_eq_not, Bool.not_true, Bool.not_false] at *; omega)]) | skip)
  all_goals
    have hs : shapeN c = true := by
      simp only [shapeN, inW, Bool.and_eq_true, Bool.or_eq_true, decide_eq_true_eq]
      simp only [decide_eq_true_eq, decide_eq_false_iff_not, Bool.not_eq_true', Bool.not_eq_false', Bool.not_eq_eq_eq_not, Bool.not_true, Bool.not_false] at *
      omega
    have hck : checkN c = allG AmountR.m amOk c.am := by rw [checkN, hs, Bool.true_and]
    refine awp_loop (fun n s => ∃ (k : Nat) (ex : List (Sh × D)) (g : Nat → D), s = ⟨[g 0, .ptr 0 [], g 2, .lit (.int .i64 k), g 4, g 5, g 6, g 7, g 8, g 9, g 10, g 11, g 12, g 13, g 14, g 15, g 16, g 17, g 18, g 19, g 20, g 21, g 22, g 23, g 24, g 25, g 26, g 27, g 28, g 29, g 30, g 31, g 32, g 33, g 34, g 35, g 36, g 37, g 38, g 39, g 40, g 41, g 42, g 43, g 44, g 45, g 46, g 47, g 48, g 49, g 50, g 51, g 52, g 53, g 54, g 55, g 56, g 57, g 58, g 59, g 60, g 61, g 62, g 63, g 64, g 65, g 66, g 67, g 68, g 69, g 70], ⟨((.pair .leaf (.pair .leaf (.pair .leaf (.pair .leaf (.pair .leaf (.pair .leaf .unit)))))), cellD c) :: ex, []⟩⟩ ∧ n = c.am.length - k ∧ k ≤ c.am.length ∧ ∀ p, p < k → okG AmountR.m amOk c.am p = true) c.am.length ⟨0, _, reg_intro rfl rfl ⟨by simp, by omega, by simp⟩⟩ ?_
    rintro n s ⟨k, ex, g, rfl, hn, hk, hp⟩
    simp only [go_sem, reduceAdd, reduceSub, reduceMul, reduceLT, reduceLeDiff, ↓reduceIte, reduceCtorEq, reduceEqDiff, reduceToNat, Int.reduceLT, reduceLE, reduceEq]
    refine condK_split (fun hc => ?_) (fun hc => ?_)
    · have hk' : k < c.am.length := by have := of_decide_eq_true hc; omega
      have bad : okG AmountR.m amOk c.am k = false → checkN c = false := fun h => by rw [hck, allG, all_bad hk' h]
      simp only [go_sem, reduceAdd, reduceSub, reduceMul, reduceLT, reduceLeDiff, ↓reduceIte, reduceCtorEq, reduceEqDiff, reduceToNat, Int.reduceLT, reduceLE, reduceEq, hk', get_am]
      have hk1 : k - 1 < c.am.length := by omega
      have hws : decide (0 < (k : Int)) = true → IntKind.i64.wrap ((k : Int) - 1) = ((k - 1 : Nat) : Int) := fun h => by
        have := of_decide_eq_true h
        rw [wrap64] <;> omega
      clear hs bad1 hck hw1 hw2
      refine .inl ⟨by kernel_rfl, ?_⟩
      (repeat' (first | ((refine guardK_split (fun hg => ?_) (fun hg => ?_)) <;> (try simp only [go_sem, reduceAdd, reduceSub, reduceMul, reduceLT, reduceLeDiff, ↓reduceIte, reduceCtorEq, reduceEqDiff, reduceToNat, Int.reduceLT, reduceLE, reduceEq, hg, hk', hk1, get_am, get_am1, hws, wrapNat k (by omega)])) | ((refine condK_split (fun hg => ?_) (fun hg => ?_)) <;> (try simp only [go_sem, reduceAdd, reduceSub, reduceMul, reduceLT, reduceLeDiff, ↓reduceIte, reduceCtorEq, reduceEqDiff, reduceToNat, Int.reduceLT, reduceLE, reduceEq, hg, hk', hk1, get_am, get_am1, hws, wrapNat k (by omega)])) | ((first | refine callK_pure (ref08_amount (c.am.getD k default).n) ?_ ?_ ?_ | refine callD_pure (ref08_amount (c.am.getD k default).n) ?_ ?_ ?_); (iterate 2 (focus (first | rfl | (simp only [go_sem, hk', hk1, get_am, get_am1, hws, wrapNat k (by omega)]; done)))); try simp only [go_sem, reduceAdd, reduceSub, reduceMul, reduceLT, reduceLeDiff, ↓reduceIte, reduceCtorEq, reduceEqDiff, reduceToNat, Int.reduceLT, reduceLE, reduceEq, hk', hk1, get_am, get_am1, hws, wrapNat k (by omega)]) | ((first | refine callK_pure (ref_less (c.am.getD (k - 1) default).m (c.am.getD k default).m) ?_ ?_ ?_ | refine callD_pure (ref_less (c.am.getD (k - 1) default).m (c.am.getD k default).m) ?_ ?_ ?_); (iterate 2 (focus (first | rfl | (simp only [go_sem, hk', hk1, get_am, get_am1, hws, wrapNat k (by omega)]; done)))); try simp only [go_sem, reduceAdd, reduceSub, reduceMul, reduceLT, reduceLeDiff, ↓reduceIte, reduceCtorEq, reduceEqDiff, reduceToNat, Int.reduceLT, reduceLE, reduceEq, hk', hk1, get_am, get_am1, hws, wrapNat k (by omega)]) | ((refine Or.inl ⟨by kernel_rfl, ?_⟩) <;> (try simp only [go_sem, reduceAdd, reduceSub, reduceMul, reduceLT, reduceLeDiff, ↓reduceIte, reduceCtorEq, reduceEqDiff, reduceToNat, Int.reduceLT, reduceLE, reduceEq, hk', hk1, get_am, get_am1, hws, wrapNat k (by omega)])))) <;> (first | done | (rw [bad (by first | (simp_all [okG, amOk_eq]; done) | (simp_all [okG, amOk_eq]; omega) | grind [okG, amOk_eq])]) | exact ⟨c.am.length - (k + 1), by omega, k + 1, _, reg_intro rfl rfl ⟨rfl, by omega, next_good hp (by first | (simp_all [okG, amOk_eq]; done) | (simp_all [okG, amOk_eq]; omega) | grind [okG, amOk_eq])⟩⟩)
    · have hi := of_decide_eq_false hc
      obtain rfl : k = c.am.length := by omega
      have hall : allG AmountR.m amOk c.am = true := all_good hp
      rw [hall] at hck
      simp only [go_sem, reduceAdd, reduceSub, reduceMul, reduceLT, reduceLeDiff, ↓reduceIte, reduceCtorEq, reduceEqDiff, reduceToNat, Int.reduceLT, reduceLE, reduceEq, hck]
theorem ref11_place (l : List ElemR) (m : MarkR) (hl : l.length < 1000000000) : PSpec Tryz.prog CT 62 [rows_el l .no, m.d] (· = .lit (.int .i64 (idxF (sameG ElemR.m m) l))) := by
  refine PSpec.of hT Tryz.func62 rfl (by kernel_rfl) rfl rfl ?_
  simp only [Tryz.f62, go_sem, reduceAdd, reduceSub, reduceMul, reduceLT, reduceLeDiff, ↓reduceIte, reduceCtorEq, reduceEqDiff, reduceToNat, Int.reduceLT, reduceLE, reduceEq]
  refine awp_loop (fun n s => ∃ (k : Nat) (g : Nat → D), s = ⟨[rows_el l .no, g 1, g 2, .ptr 0 [], g 4, .lit (.int .i64 k), g 6, g 7, g 8, g 9, g 10, g 11, g 12, g 13, g 14, g 15, g 16, g 17, g 18, g 19], ⟨[((.pair (.pair .leaf (.pair .leaf .unit)) (.pair .leaf .unit)), m.d)], []⟩⟩ ∧ n = l.length - k ∧ k ≤ l.length ∧ ∀ q, q < k → sameG ElemR.m m (l.getD q default) = false) l.length ⟨0, reg_intro rfl rfl ⟨by simp, by omega, by simp⟩⟩ ?_
  rintro n st ⟨k, g, rfl, hn, hk, hp⟩
  simp only [go_sem, reduceAdd, reduceSub, reduceMul, reduceLT, reduceLeDiff, ↓reduceIte, reduceCtorEq, reduceEqDiff, reduceToNat, Int.reduceLT, reduceLE, reduceEq]
  refine condK_split (fun hc => ?_) (fun hc => ?_)
  · have hk' : k < l.length := by have := of_decide_eq_true hc; omega
    refine .inl ⟨by kernel_rfl, ?_⟩
    simp only [go_sem, reduceAdd, reduceSub, reduceMul, reduceLT, reduceLeDiff, ↓reduceIte, reduceCtorEq, reduceEqDiff, reduceToNat, Int.reduceLT, reduceLE, reduceEq, hk', get_elL, eqB_mk]
    refine condK_split (fun h2 => ?_) (fun h2 => ?_)
    · simp only [go_sem, reduceAdd, reduceSub, reduceMul, reduceLT, reduceLeDiff, ↓reduceIte, reduceCtorEq, reduceEqDiff, reduceToNat, Int.reduceLT, reduceLE, reduceEq, idxF_at hk' hp h2]
    · simp only [go_sem, reduceAdd, reduceSub, reduceMul, reduceLT, reduceLeDiff, ↓reduceIte, reduceCtorEq, reduceEqDiff, reduceToNat, Int.reduceLT, reduceLE, reduceEq, wrapNat k (by omega)]
      exact ⟨l.length - (k + 1), by omega, k + 1, reg_intro rfl rfl ⟨rfl, by omega, next_bad hp h2⟩⟩
  · have hi := of_decide_eq_false hc
    obtain rfl : k = l.length := by omega
    simp only [go_sem, reduceAdd, reduceSub, reduceMul, reduceLT, reduceLeDiff, ↓reduceIte, reduceCtorEq, reduceEqDiff, reduceToNat, Int.reduceLT, reduceLE, reduceEq, idxF_none hp]
def endsL (l : List ElemR) : Nat → Nat → Bool
  | 0, _ => false
  | f + 1, i => if (l.getD i default).ref = zeroM then true else if idxF (sameG ElemR.m (l.getD i default).ref) l < 0 then false else endsL l f (idxF (sameG ElemR.m (l.getD i default).ref) l).toNat
theorem ref11_ends (l : List ElemR) (i : Nat) (hl : l.length < 1000000000) (hi : i < l.length) : PSpec Tryz.prog CT 58 [rows_el l .no, .lit (.int .i64 i)] (· = .bool (endsL l (l.length + 1) i)) := by
  refine PSpec.of hT Tryz.func58 rfl (by kernel_rfl) rfl rfl ?_
  simp only [Tryz.f58, go_sem, reduceAdd, reduceSub, reduceMul, reduceLT, reduceLeDiff, ↓reduceIte, reduceCtorEq, reduceEqDiff, reduceToNat, Int.reduceLT, reduceLE, reduceEq]
  refine awp_loop (fun n s => ∃ (k j : Nat) (g : Nat → D), s = ⟨[rows_el l .no, .lit (.int .i64 j), g 2, g 3, g 4, .ptr 0 [], .lit (.int .i64 k), g 7, g 8, g 9, g 10, g 11, g 12, g 13, g 14, g 15, g 16, g 17, g 18, g 19, g 20, g 21, g 22, g 23, g 24, g 25, g 26, g 27, g 28, g 29], ⟨[((.pair (.pair .leaf (.pair .leaf .unit)) (.pair .leaf .unit)), zeroM.d)], []⟩⟩ ∧ n = l.length + 1 - k ∧ k ≤ l.length + 1 ∧ j < l.length ∧ endsL l (l.length + 1 - k) j = endsL l (l.length + 1) i) (l.length + 1) ⟨0, i, reg_intro rfl rfl ⟨by simp, by omega, hi, by simp⟩⟩ ?_
  rintro n st ⟨k, j, g, rfl, hn, hk, hj, he⟩
  simp only [go_sem, reduceAdd, reduceSub, reduceMul, reduceLT, reduceLeDiff, ↓reduceIte, reduceCtorEq, reduceEqDiff, reduceToNat, Int.reduceLT, reduceLE, reduceEq]
  refine condK_split (fun hc => ?_) (fun hc => ?_)
  · have hk' : k ≤ l.length := by have := of_decide_eq_true hc; omega
    obtain ⟨f, hf⟩ : ∃ f, l.length + 1 - k = f + 1 := ⟨l.length - k, by omega⟩
    rw [hf, endsL] at he
    refine .inl ⟨by kernel_rfl, ?_⟩
    simp only [go_sem, reduceAdd, reduceSub, reduceMul, reduceLT, reduceLeDiff, ↓reduceIte, reduceCtorEq, reduceEqDiff, reduceToNat, Int.reduceLT, reduceLE, reduceEq, hj, get_elL, eqB_mk]
    refine condK_split (fun h2 => ?_) (fun h2 => ?_)
    · have h2 : (l.getD j default).ref = zeroM := of_decide_eq_true h2
      rw [if_pos h2] at he
      simp only [go_sem, reduceAdd, reduceSub, reduceMul, reduceLT, reduceLeDiff, ↓reduceIte, reduceCtorEq, reduceEqDiff, reduceToNat, Int.reduceLT, reduceLE, reduceEq, ← he]
    · have h2 : ¬ (l.getD j default).ref = zeroM := of_decide_eq_false h2
      rw [if_neg h2] at he
      simp only [go_sem, reduceAdd, reduceSub, reduceMul, reduceLT, reduceLeDiff, ↓reduceIte, reduceCtorEq, reduceEqDiff, reduceToNat, Int.reduceLT, reduceLE, reduceEq, hj, get_elL]
      refine callK_pure (ref11_place l (l.getD j default).ref hl) (by first | rfl | (simp only [go_sem]; done)) (by first | (simp only [go_sem]; done) | (simp [pureL, pureD]; done)) ?_
      simp only [go_sem, reduceAdd, reduceSub, reduceMul, reduceLT, reduceLeDiff, ↓reduceIte, reduceCtorEq, reduceEqDiff, reduceToNat, Int.reduceLT, reduceLE, reduceEq]
      refine condK_split (fun h3 => ?_) (fun h3 => ?_)
      · rw [if_pos (of_decide_eq_true h3)] at he
        simp only [go_sem, reduceAdd, reduceSub, reduceMul, reduceLT, reduceLeDiff, ↓reduceIte, reduceCtorEq, reduceEqDiff, reduceToNat, Int.reduceLT, reduceLE, reduceEq, ← he]
      · have h3 := of_decide_eq_false h3
        rw [if_neg h3] at he
        have hlt := idxF_lt (sameG ElemR.m (l.getD j default).ref) l
        obtain ⟨q, hq⟩ : ∃ q : Nat, idxF (sameG ElemR.m (l.getD j default).ref) l = q := ⟨(idxF (sameG ElemR.m (l.getD j default).ref) l).toNat, by omega⟩
        rw [hq] at he hlt ⊢
        simp only [go_sem, reduceAdd, reduceSub, reduceMul, reduceLT, reduceLeDiff, ↓reduceIte, reduceCtorEq, reduceEqDiff, reduceToNat, Int.reduceLT, reduceLE, reduceEq, wrapNat k (by omega)]
        exact ⟨l.length + 1 - (k + 1), by omega, k + 1, q, reg_intro rfl rfl ⟨rfl, by omega, by omega, by rw [← he, show l.length + 1 - (k + 1) = f by omega]; rfl⟩⟩
  · have hi2 := of_decide_eq_false hc
    obtain rfl : k = l.length + 1 := by omega
    rw [Nat.sub_self, endsL] at he
    simp only [go_sem, reduceAdd, reduceSub, reduceMul, reduceLT, reduceLeDiff, ↓reduceIte, reduceCtorEq, reduceEqDiff, reduceToNat, Int.reduceLT, reduceLE, reduceEq, ← he]
end Go.Ab
