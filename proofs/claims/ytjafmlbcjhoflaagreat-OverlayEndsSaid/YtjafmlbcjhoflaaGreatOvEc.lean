/- Who comes is told of for some steps alone: the law. Conditions: none. -/
import Derived.Test.YtjafmlbcjhoflaaGreatOvEb
set_option linter.unusedSimpArgs false
namespace Go.Ab
open Go.Proofs

set_option maxRecDepth 8000 in
set_option maxHeartbeats 4000000 in
theorem law_ovends (l : List ViewR) (who by_ : Int) (ds : List Int) (hl : l.length ≤ maxLen) (hd : ds.length ≤ maxLen) : PSpec Tryz.prog CT 6 [.lst 24 (l.map viewD) .no, .lit (.int .i64 who), .lit (.int .i64 by_), intsL ds .no] (· = .bool true) := by
  have hml : maxLen ≤ 9223372036854775807 := by decide +kernel
  refine ASpec.of hT Tryz.func6 rfl (by kernel_rfl) rfl rfl ?_
  simp only [Tryz.f6, go_sem, Nat.reduceAdd, Nat.reduceSub, Nat.reduceMul, Nat.reduceLT, Nat.reduceLeDiff, ↓reduceIte, reduceCtorEq, Nat.reduceEqDiff, Int.reduceToNat, Int.reduceLT, Int.reduceLE, Int.reduceEq, beq_self_eq_true, noHeap, List.length_map]
  refine guardK_split (fun a1 => ?_) (fun a1 => ?_)
  · simp only [go_sem, Nat.reduceAdd, Nat.reduceSub, Nat.reduceMul, Nat.reduceLT, Nat.reduceLeDiff, ↓reduceIte, reduceCtorEq, Nat.reduceEqDiff, Int.reduceToNat, Int.reduceLT, Int.reduceLE, Int.reduceEq, beq_self_eq_true, List.length_map, a1]
    refine callK_pure heads27 (by first | rfl | (simp only [go_sem, Nat.reduceAdd, Nat.reduceSub, Nat.reduceMul, Nat.reduceLT, Nat.reduceLeDiff, ↓reduceIte, reduceCtorEq, Nat.reduceEqDiff, Int.reduceToNat, Int.reduceLT, Int.reduceLE, Int.reduceEq, beq_self_eq_true]; done)) (by first | (simp only [go_sem, Nat.reduceAdd, Nat.reduceSub, Nat.reduceMul, Nat.reduceLT, Nat.reduceLeDiff, ↓reduceIte, reduceCtorEq, Nat.reduceEqDiff, Int.reduceToNat, Int.reduceLT, Int.reduceLE, Int.reduceEq, beq_self_eq_true]; done) | (simp [pureL, pureD]; done)) ?_
    simp only [go_sem, Nat.reduceAdd, Nat.reduceSub, Nat.reduceMul, Nat.reduceLT, Nat.reduceLeDiff, ↓reduceIte, reduceCtorEq, Nat.reduceEqDiff, Int.reduceToNat, Int.reduceLT, Int.reduceLE, Int.reduceEq, beq_self_eq_true]
  simp only [go_sem, Nat.reduceAdd, Nat.reduceSub, Nat.reduceMul, Nat.reduceLT, Nat.reduceLeDiff, ↓reduceIte, reduceCtorEq, Nat.reduceEqDiff, Int.reduceToNat, Int.reduceLT, Int.reduceLE, Int.reduceEq, beq_self_eq_true, List.length_map, a1]
  refine guardK_split (fun a2 => ?_) (fun a2 => ?_)
  · simp only [go_sem, Nat.reduceAdd, Nat.reduceSub, Nat.reduceMul, Nat.reduceLT, Nat.reduceLeDiff, ↓reduceIte, reduceCtorEq, Nat.reduceEqDiff, Int.reduceToNat, Int.reduceLT, Int.reduceLE, Int.reduceEq, beq_self_eq_true, List.length_map, a2]
    refine callK_pure heads27 (by first | rfl | (simp only [go_sem, Nat.reduceAdd, Nat.reduceSub, Nat.reduceMul, Nat.reduceLT, Nat.reduceLeDiff, ↓reduceIte, reduceCtorEq, Nat.reduceEqDiff, Int.reduceToNat, Int.reduceLT, Int.reduceLE, Int.reduceEq, beq_self_eq_true]; done)) (by first | (simp only [go_sem, Nat.reduceAdd, Nat.reduceSub, Nat.reduceMul, Nat.reduceLT, Nat.reduceLeDiff, ↓reduceIte, reduceCtorEq, Nat.reduceEqDiff, Int.reduceToNat, Int.reduceLT, Int.reduceLE, Int.reduceEq, beq_self_eq_true]; done) | (simp [pureL, pureD]; done)) ?_
    simp only [go_sem, Nat.reduceAdd, Nat.reduceSub, Nat.reduceMul, Nat.reduceLT, Nat.reduceLeDiff, ↓reduceIte, reduceCtorEq, Nat.reduceEqDiff, Int.reduceToNat, Int.reduceLT, Int.reduceLE, Int.reduceEq, beq_self_eq_true]
  simp only [go_sem, Nat.reduceAdd, Nat.reduceSub, Nat.reduceMul, Nat.reduceLT, Nat.reduceLeDiff, ↓reduceIte, reduceCtorEq, Nat.reduceEqDiff, Int.reduceToNat, Int.reduceLT, Int.reduceLE, Int.reduceEq, beq_self_eq_true, List.length_map, a2]
  refine guardK_split (fun a3 => ?_) (fun a3 => ?_)
  · simp only [go_sem, Nat.reduceAdd, Nat.reduceSub, Nat.reduceMul, Nat.reduceLT, Nat.reduceLeDiff, ↓reduceIte, reduceCtorEq, Nat.reduceEqDiff, Int.reduceToNat, Int.reduceLT, Int.reduceLE, Int.reduceEq, beq_self_eq_true, List.length_map, a3]
    refine callK_pure heads27 (by first | rfl | (simp only [go_sem, Nat.reduceAdd, Nat.reduceSub, Nat.reduceMul, Nat.reduceLT, Nat.reduceLeDiff, ↓reduceIte, reduceCtorEq, Nat.reduceEqDiff, Int.reduceToNat, Int.reduceLT, Int.reduceLE, Int.reduceEq, beq_self_eq_true]; done)) (by first | (simp only [go_sem, Nat.reduceAdd, Nat.reduceSub, Nat.reduceMul, Nat.reduceLT, Nat.reduceLeDiff, ↓reduceIte, reduceCtorEq, Nat.reduceEqDiff, Int.reduceToNat, Int.reduceLT, Int.reduceLE, Int.reduceEq, beq_self_eq_true]; done) | (simp [pureL, pureD]; done)) ?_
    simp only [go_sem, Nat.reduceAdd, Nat.reduceSub, Nat.reduceMul, Nat.reduceLT, Nat.reduceLeDiff, ↓reduceIte, reduceCtorEq, Nat.reduceEqDiff, Int.reduceToNat, Int.reduceLT, Int.reduceLE, Int.reduceEq, beq_self_eq_true]
  simp only [go_sem, Nat.reduceAdd, Nat.reduceSub, Nat.reduceMul, Nat.reduceLT, Nat.reduceLeDiff, ↓reduceIte, reduceCtorEq, Nat.reduceEqDiff, Int.reduceToNat, Int.reduceLT, Int.reduceLE, Int.reduceEq, beq_self_eq_true, List.length_map, a3]
  refine guardK_split (fun a4 => ?_) (fun a4 => ?_)
  · simp only [go_sem, Nat.reduceAdd, Nat.reduceSub, Nat.reduceMul, Nat.reduceLT, Nat.reduceLeDiff, ↓reduceIte, reduceCtorEq, Nat.reduceEqDiff, Int.reduceToNat, Int.reduceLT, Int.reduceLE, Int.reduceEq, beq_self_eq_true, List.length_map, a4]
    refine callK_pure heads27 (by first | rfl | (simp only [go_sem, Nat.reduceAdd, Nat.reduceSub, Nat.reduceMul, Nat.reduceLT, Nat.reduceLeDiff, ↓reduceIte, reduceCtorEq, Nat.reduceEqDiff, Int.reduceToNat, Int.reduceLT, Int.reduceLE, Int.reduceEq, beq_self_eq_true]; done)) (by first | (simp only [go_sem, Nat.reduceAdd, Nat.reduceSub, Nat.reduceMul, Nat.reduceLT, Nat.reduceLeDiff, ↓reduceIte, reduceCtorEq, Nat.reduceEqDiff, Int.reduceToNat, Int.reduceLT, Int.reduceLE, Int.reduceEq, beq_self_eq_true]; done) | (simp [pureL, pureD]; done)) ?_
    simp only [go_sem, Nat.reduceAdd, Nat.reduceSub, Nat.reduceMul, Nat.reduceLT, Nat.reduceLeDiff, ↓reduceIte, reduceCtorEq, Nat.reduceEqDiff, Int.reduceToNat, Int.reduceLT, Int.reduceLE, Int.reduceEq, beq_self_eq_true]
  simp only [go_sem, Nat.reduceAdd, Nat.reduceSub, Nat.reduceMul, Nat.reduceLT, Nat.reduceLeDiff, ↓reduceIte, reduceCtorEq, Nat.reduceEqDiff, Int.reduceToNat, Int.reduceLT, Int.reduceLE, Int.reduceEq, beq_self_eq_true, List.length_map, a4]
  refine guardK_split (fun a5 => ?_) (fun a5 => ?_)
  · simp only [go_sem, Nat.reduceAdd, Nat.reduceSub, Nat.reduceMul, Nat.reduceLT, Nat.reduceLeDiff, ↓reduceIte, reduceCtorEq, Nat.reduceEqDiff, Int.reduceToNat, Int.reduceLT, Int.reduceLE, Int.reduceEq, beq_self_eq_true, List.length_map, a5]
    refine callK_pure heads27 (by first | rfl | (simp only [go_sem, Nat.reduceAdd, Nat.reduceSub, Nat.reduceMul, Nat.reduceLT, Nat.reduceLeDiff, ↓reduceIte, reduceCtorEq, Nat.reduceEqDiff, Int.reduceToNat, Int.reduceLT, Int.reduceLE, Int.reduceEq, beq_self_eq_true]; done)) (by first | (simp only [go_sem, Nat.reduceAdd, Nat.reduceSub, Nat.reduceMul, Nat.reduceLT, Nat.reduceLeDiff, ↓reduceIte, reduceCtorEq, Nat.reduceEqDiff, Int.reduceToNat, Int.reduceLT, Int.reduceLE, Int.reduceEq, beq_self_eq_true]; done) | (simp [pureL, pureD]; done)) ?_
    simp only [go_sem, Nat.reduceAdd, Nat.reduceSub, Nat.reduceMul, Nat.reduceLT, Nat.reduceLeDiff, ↓reduceIte, reduceCtorEq, Nat.reduceEqDiff, Int.reduceToNat, Int.reduceLT, Int.reduceLE, Int.reduceEq, beq_self_eq_true]
  simp only [go_sem, Nat.reduceAdd, Nat.reduceSub, Nat.reduceMul, Nat.reduceLT, Nat.reduceLeDiff, ↓reduceIte, reduceCtorEq, Nat.reduceEqDiff, Int.reduceToNat, Int.reduceLT, Int.reduceLE, Int.reduceEq, beq_self_eq_true, List.length_map, a5]
  refine guardK_split (fun a6 => ?_) (fun a6 => ?_)
  · simp only [go_sem, Nat.reduceAdd, Nat.reduceSub, Nat.reduceMul, Nat.reduceLT, Nat.reduceLeDiff, ↓reduceIte, reduceCtorEq, Nat.reduceEqDiff, Int.reduceToNat, Int.reduceLT, Int.reduceLE, Int.reduceEq, beq_self_eq_true, List.length_map, a6]
    refine callK_pure heads27 (by first | rfl | (simp only [go_sem, Nat.reduceAdd, Nat.reduceSub, Nat.reduceMul, Nat.reduceLT, Nat.reduceLeDiff, ↓reduceIte, reduceCtorEq, Nat.reduceEqDiff, Int.reduceToNat, Int.reduceLT, Int.reduceLE, Int.reduceEq, beq_self_eq_true]; done)) (by first | (simp only [go_sem, Nat.reduceAdd, Nat.reduceSub, Nat.reduceMul, Nat.reduceLT, Nat.reduceLeDiff, ↓reduceIte, reduceCtorEq, Nat.reduceEqDiff, Int.reduceToNat, Int.reduceLT, Int.reduceLE, Int.reduceEq, beq_self_eq_true]; done) | (simp [pureL, pureD]; done)) ?_
    simp only [go_sem, Nat.reduceAdd, Nat.reduceSub, Nat.reduceMul, Nat.reduceLT, Nat.reduceLeDiff, ↓reduceIte, reduceCtorEq, Nat.reduceEqDiff, Int.reduceToNat, Int.reduceLT, Int.reduceLE, Int.reduceEq, beq_self_eq_true]
  simp only [go_sem, Nat.reduceAdd, Nat.reduceSub, Nat.reduceMul, Nat.reduceLT, Nat.reduceLeDiff, ↓reduceIte, reduceCtorEq, Nat.reduceEqDiff, Int.reduceToNat, Int.reduceLT, Int.reduceLE, Int.reduceEq, beq_self_eq_true, List.length_map, a6]
  refine condK_split (fun a7 => ?_) (fun a7 => ?_)
  · simp only [go_sem, Nat.reduceAdd, Nat.reduceSub, Nat.reduceMul, Nat.reduceLT, Nat.reduceLeDiff, ↓reduceIte, reduceCtorEq, Nat.reduceEqDiff, Int.reduceToNat, Int.reduceLT, Int.reduceLE, Int.reduceEq, beq_self_eq_true, a7]
    refine callK_pure heads27 (by first | rfl | (simp only [go_sem, Nat.reduceAdd, Nat.reduceSub, Nat.reduceMul, Nat.reduceLT, Nat.reduceLeDiff, ↓reduceIte, reduceCtorEq, Nat.reduceEqDiff, Int.reduceToNat, Int.reduceLT, Int.reduceLE, Int.reduceEq, beq_self_eq_true]; done)) (by first | (simp only [go_sem, Nat.reduceAdd, Nat.reduceSub, Nat.reduceMul, Nat.reduceLT, Nat.reduceLeDiff, ↓reduceIte, reduceCtorEq, Nat.reduceEqDiff, Int.reduceToNat, Int.reduceLT, Int.reduceLE, Int.reduceEq, beq_self_eq_true]; done) | (simp [pureL, pureD]; done)) ?_
    simp only [go_sem, Nat.reduceAdd, Nat.reduceSub, Nat.reduceMul, Nat.reduceLT, Nat.reduceLeDiff, ↓reduceIte, reduceCtorEq, Nat.reduceEqDiff, Int.reduceToNat, Int.reduceLT, Int.reduceLE, Int.reduceEq, beq_self_eq_true]
  simp only [go_sem, Nat.reduceAdd, Nat.reduceSub, Nat.reduceMul, Nat.reduceLT, Nat.reduceLeDiff, ↓reduceIte, reduceCtorEq, Nat.reduceEqDiff, Int.reduceToNat, Int.reduceLT, Int.reduceLE, Int.reduceEq, beq_self_eq_true, a7]
  replace a1 := of_decide_eq_false a1
  replace a2 := of_decide_eq_false a2
  replace a3 := of_decide_eq_false a3
  replace a4 := of_decide_eq_false a4
  replace a5 := of_decide_eq_false a5
  replace a6 := of_decide_eq_false a6
  replace a7 := of_decide_eq_false a7
  have hl12 : 12 ≤ l.length := by omega
  have hbz : 13 * CT.bytes 24 ≤ 281474976710656 := by decide +kernel
  refine aop_makeV (n := 13) (u := 24) rfl rfl rfl (by omega) hbz ?_
  rw [show D.agg (List.replicate 13 (CT.zero 24)) = .agg (vsL l 0) from by simp [vsL, List.replicate_succ]]
  generalize hzz : vsL l 0 = L0
  simp only [go_sem, Nat.reduceAdd, Nat.reduceSub, Nat.reduceMul, Nat.reduceLT, Nat.reduceLeDiff, ↓reduceIte, reduceCtorEq, Nat.reduceEqDiff, Int.reduceToNat, Int.reduceLT, Int.reduceLE, Int.reduceEq, beq_self_eq_true]
  subst hzz
  have hsh13 : ∀ j, j ≤ 12 → (vsL l j).length = 13 := fun j hj => vsL_len l j hj hl12
  refine awp_loop (fun n s => ∃ (j : Nat) (g : Nat → D), s = ⟨[.lst 24 (l.map viewD) .no, .lit (.int .i64 who), .lit (.int .i64 by_), intsL ds .no, g 4, g 5, g 6, g 7, g 8, .sl 24 0 0 13 13, .lit (.int .i64 ((j + 1 : Nat) : Int)), g 11, g 12, g 13, g 14, g 15, g 16, g 17, g 18, g 19, g 20, g 21, g 22, g 23, g 24, g 25, g 26, g 27, g 28, g 29, g 30, g 31, g 32, g 33, g 34, g 35, g 36, g 37, g 38, g 39, g 40, g 41, g 42, g 43, g 44, g 45, g 46, g 47, g 48, g 49, g 50, g 51, g 52, g 53, g 54, g 55, g 56, g 57, g 58, g 59, g 60, g 61, g 62, g 63, g 64, g 65, g 66, g 67, g 68, g 69, g 70, g 71, g 72, g 73, g 74, g 75, g 76, g 77, g 78, g 79, g 80, g 81, g 82, g 83, g 84, g 85, g 86, g 87, g 88, g 89, g 90, g 91, g 92, g 93, g 94, g 95, g 96, g 97, g 98, g 99, g 100, g 101, g 102, g 103, g 104, g 105, g 106, g 107, g 108, g 109, g 110, g 111, g 112, g 113, g 114, g 115, g 116, g 117, g 118, g 119, g 120, g 121, g 122, g 123, g 124, g 125, g 126, g 127, g 128, g 129, g 130, g 131, g 132, g 133, g 134, g 135, g 136, g 137, g 138, g 139, g 140, g 141, g 142, g 143, g 144, g 145, g 146, g 147, g 148, g 149, g 150], ⟨[(.arr 13 viewSh', .agg (vsL l j))], []⟩⟩ ∧ n = 12 - j ∧ j ≤ 12 ∧ ∀ i v, i < j → l[i]? = some v → VOk v ∧ v.self = (i : Int) + 1) 12 ⟨0, reg_intro rfl rfl ⟨by simp, by omega, fun i v hi => by omega⟩⟩ ?_
  rintro n st ⟨j, g, rfl, hn, hj, hjv⟩
  simp only [go_sem, Nat.reduceAdd, Nat.reduceSub, Nat.reduceMul, Nat.reduceLT, Nat.reduceLeDiff, ↓reduceIte, reduceCtorEq, Nat.reduceEqDiff, Int.reduceToNat, Int.reduceLT, Int.reduceLE, Int.reduceEq, beq_self_eq_true, List.length_map]
  refine condK_split (fun b1 => ?_) (fun b1 => ?_)
  · have hj12 : j < 12 := by have := of_decide_eq_true b1; omega
    have hjl : j < l.length := by omega
    have hg : l[j]? = some l[j] := List.getElem?_eq_getElem hjl
    generalize l[j] = v at hg
    have hgm : (l.map viewD)[j]? = some (viewD v) := by rw [List.getElem?_map, hg]; rfl
    have hw : IntKind.i64.wrap (((j + 1 : Nat) : Int) - 1) = (j : Int) := by rw [wrap64] <;> omega
    simp only [go_sem, Nat.reduceAdd, Nat.reduceSub, Nat.reduceMul, Nat.reduceLT, Nat.reduceLeDiff, ↓reduceIte, reduceCtorEq, Nat.reduceEqDiff, Int.reduceToNat, Int.reduceLT, Int.reduceLE, Int.reduceEq, beq_self_eq_true, List.length_map, hw, hjl, hgm]
    refine callK_pure (ref25_few v) (by first | rfl | (simp only [go_sem, Nat.reduceAdd, Nat.reduceSub, Nat.reduceMul, Nat.reduceLT, Nat.reduceLeDiff, ↓reduceIte, reduceCtorEq, Nat.reduceEqDiff, Int.reduceToNat, Int.reduceLT, Int.reduceLE, Int.reduceEq, beq_self_eq_true]; done)) (by first | (simp only [go_sem, Nat.reduceAdd, Nat.reduceSub, Nat.reduceMul, Nat.reduceLT, Nat.reduceLeDiff, ↓reduceIte, reduceCtorEq, Nat.reduceEqDiff, Int.reduceToNat, Int.reduceLT, Int.reduceLE, Int.reduceEq, beq_self_eq_true]; done) | (simp [pureL, pureD]; done)) ?_
    cases h1 : (decide (v.act.length ≤ 40) && decide (v.pas.length ≤ 40)) with
    | false =>
      simp only [go_sem, Nat.reduceAdd, Nat.reduceSub, Nat.reduceMul, Nat.reduceLT, Nat.reduceLeDiff, ↓reduceIte, reduceCtorEq, Nat.reduceEqDiff, Int.reduceToNat, Int.reduceLT, Int.reduceLE, Int.reduceEq, beq_self_eq_true, Bool.not_false]
      refine callK_pure (heads27) (by simp only [go_sem, Nat.reduceAdd, Nat.reduceSub, Nat.reduceMul, Nat.reduceLT, Nat.reduceLeDiff, ↓reduceIte, reduceCtorEq, Nat.reduceEqDiff, Int.reduceToNat, Int.reduceLT, Int.reduceLE, Int.reduceEq, beq_self_eq_true, h1]) (by simp only [go_sem, Nat.reduceAdd, Nat.reduceSub, Nat.reduceMul, Nat.reduceLT, Nat.reduceLeDiff, ↓reduceIte, reduceCtorEq, Nat.reduceEqDiff, Int.reduceToNat, Int.reduceLT, Int.reduceLE, Int.reduceEq, beq_self_eq_true, h1]) ?_; simp only [go_sem, Nat.reduceAdd, Nat.reduceSub, Nat.reduceMul, Nat.reduceLT, Nat.reduceLeDiff, ↓reduceIte, reduceCtorEq, Nat.reduceEqDiff, Int.reduceToNat, Int.reduceLT, Int.reduceLE, Int.reduceEq, beq_self_eq_true, h1]
    | true =>
    simp only [Bool.and_eq_true, decide_eq_true_eq] at h1
    simp only [go_sem, Nat.reduceAdd, Nat.reduceSub, Nat.reduceMul, Nat.reduceLT, Nat.reduceLeDiff, ↓reduceIte, reduceCtorEq, Nat.reduceEqDiff, Int.reduceToNat, Int.reduceLT, Int.reduceLE, Int.reduceEq, beq_self_eq_true, Bool.not_true, List.length_map, hw, hjl, hgm]
    refine callK_pure (ref25_check v (by omega) (by omega)) (by first | rfl | (simp only [go_sem, Nat.reduceAdd, Nat.reduceSub, Nat.reduceMul, Nat.reduceLT, Nat.reduceLeDiff, ↓reduceIte, reduceCtorEq, Nat.reduceEqDiff, Int.reduceToNat, Int.reduceLT, Int.reduceLE, Int.reduceEq, beq_self_eq_true]; done)) (by first | (simp only [go_sem, Nat.reduceAdd, Nat.reduceSub, Nat.reduceMul, Nat.reduceLT, Nat.reduceLeDiff, ↓reduceIte, reduceCtorEq, Nat.reduceEqDiff, Int.reduceToNat, Int.reduceLT, Int.reduceLE, Int.reduceEq, beq_self_eq_true]; done) | (simp [pureL, pureD]; done)) ?_
    cases h3 : checkV v with
    | false =>
      simp only [go_sem, Nat.reduceAdd, Nat.reduceSub, Nat.reduceMul, Nat.reduceLT, Nat.reduceLeDiff, ↓reduceIte, reduceCtorEq, Nat.reduceEqDiff, Int.reduceToNat, Int.reduceLT, Int.reduceLE, Int.reduceEq, beq_self_eq_true, Bool.not_false]
      refine callK_pure (heads27) (by simp only [go_sem, Nat.reduceAdd, Nat.reduceSub, Nat.reduceMul, Nat.reduceLT, Nat.reduceLeDiff, ↓reduceIte, reduceCtorEq, Nat.reduceEqDiff, Int.reduceToNat, Int.reduceLT, Int.reduceLE, Int.reduceEq, beq_self_eq_true, h3]) (by simp only [go_sem, Nat.reduceAdd, Nat.reduceSub, Nat.reduceMul, Nat.reduceLT, Nat.reduceLeDiff, ↓reduceIte, reduceCtorEq, Nat.reduceEqDiff, Int.reduceToNat, Int.reduceLT, Int.reduceLE, Int.reduceEq, beq_self_eq_true, h3]) ?_; simp only [go_sem, Nat.reduceAdd, Nat.reduceSub, Nat.reduceMul, Nat.reduceLT, Nat.reduceLeDiff, ↓reduceIte, reduceCtorEq, Nat.reduceEqDiff, Int.reduceToNat, Int.reduceLT, Int.reduceLE, Int.reduceEq, beq_self_eq_true, h3]
    | true =>
    simp only [go_sem, Nat.reduceAdd, Nat.reduceSub, Nat.reduceMul, Nat.reduceLT, Nat.reduceLeDiff, ↓reduceIte, reduceCtorEq, Nat.reduceEqDiff, Int.reduceToNat, Int.reduceLT, Int.reduceLE, Int.reduceEq, beq_self_eq_true, Bool.not_true, List.length_map, hw, hjl, hgm]
    refine condK_split (fun h4 => ?_) (fun h4 => ?_)
    · simp only [go_sem, Nat.reduceAdd, Nat.reduceSub, Nat.reduceMul, Nat.reduceLT, Nat.reduceLeDiff, ↓reduceIte, reduceCtorEq, Nat.reduceEqDiff, Int.reduceToNat, Int.reduceLT, Int.reduceLE, Int.reduceEq, beq_self_eq_true]
      refine callK_pure (heads27) (by simp only [go_sem, Nat.reduceAdd, Nat.reduceSub, Nat.reduceMul, Nat.reduceLT, Nat.reduceLeDiff, ↓reduceIte, reduceCtorEq, Nat.reduceEqDiff, Int.reduceToNat, Int.reduceLT, Int.reduceLE, Int.reduceEq, beq_self_eq_true, h3]) (by simp only [go_sem, Nat.reduceAdd, Nat.reduceSub, Nat.reduceMul, Nat.reduceLT, Nat.reduceLeDiff, ↓reduceIte, reduceCtorEq, Nat.reduceEqDiff, Int.reduceToNat, Int.reduceLT, Int.reduceLE, Int.reduceEq, beq_self_eq_true, h3]) ?_; simp only [go_sem, Nat.reduceAdd, Nat.reduceSub, Nat.reduceMul, Nat.reduceLT, Nat.reduceLeDiff, ↓reduceIte, reduceCtorEq, Nat.reduceEqDiff, Int.reduceToNat, Int.reduceLT, Int.reduceLE, Int.reduceEq, beq_self_eq_true, h3]
    have h5 : v.self = (j : Int) + 1 := by simpa using h4
    have hlt : (((j + 1 : Nat) : Int).toNat < 13) = True := eq_true (by omega)
    have hge : ((0 : Int) ≤ ((j + 1 : Nat) : Int)) = True := eq_true (by omega)
    have hin : j + 1 < (vsL l j).length := by rw [hsh13 j hj]; omega
    have hlt2 : (j + 1 < 13) = True := eq_true (by omega)
    have hq : (vsL l j)[j + 1]? = some (vsL l j)[j + 1] := List.getElem?_eq_getElem hin
    generalize (vsL l j)[j + 1] = old at hq
    have hnew : ∀ i x, i < j + 1 → l[i]? = some x → VOk x ∧ x.self = (i : Int) + 1 := fun i x hi hx => by
      by_cases hij : i = j
      · subst hij
        rw [hg] at hx; cases hx
        exact ⟨(checkV_iff v).1 h3, h5⟩
      · exact hjv i x (by omega) hx
    have hst := vsL_set hj12 hg
    simp only [go_sem, Nat.reduceAdd, Nat.reduceSub, Nat.reduceMul, Nat.reduceLT, Nat.reduceLeDiff, ↓reduceIte, reduceCtorEq, Nat.reduceEqDiff, Int.reduceToNat, Int.reduceLT, Int.reduceLE, Int.reduceEq, beq_self_eq_true, List.length_map, hw, hjl, hgm, indexAddr_sl_t, Nat.zero_add, hlt, hlt2, hge, Int.toNat_natCast, hin, hq]
    rw [wrapNat (j + 1) (by omega)]
    exact ⟨12 - (j + 1), by omega, j + 1, by rw [hst]; exact reg_intro rfl rfl ⟨rfl, by omega, hnew⟩⟩
  · have hj13 := of_decide_eq_false b1
    obtain rfl : j = 12 := by omega
    rw [vsL_end hl12]
    have hvs : VsOk (l.take 12) := ⟨by simp; omega, fun i v hv => by
      rw [List.getElem?_take] at hv
      split at hv
      · rename_i hi; exact hjv i v hi hv
      · cases hv⟩
    generalize l.take 12 = vs at hvs
    generalize CT.zero 24 = z0
    obtain ⟨i0, v0, e0, hv0, hg0, he0⟩ := vs_at (z := z0) (p := who) (by omega) (by omega) hvs
    have hdl : 0 < ds.length := by omega
    have hd0 : ds[0]? = some ds[0] := List.getElem?_eq_getElem hdl
    generalize ds[0] = d0 at hd0
    have hdm : (ds.map fun n => D.lit (.int .i64 n))[0]? = some (.lit (.int .i64 d0)) := by rw [List.getElem?_map, hd0]; rfl
    have hw1 : (who.toNat < 13) = True := eq_true (by omega)
    have hw0 : ((0 : Int) ≤ who) = True := eq_true (by omega)
    have hwo := (hvs.ok i0 v0 hv0).1
    have hwl : v0.act.length < 1000000 := by have := hwo.la; omega
    have hwp : v0.pas.length < 1000000 := by have := hwo.lp; omega
    simp only [go_sem, Nat.reduceAdd, Nat.reduceSub, Nat.reduceMul, Nat.reduceLT, Nat.reduceLeDiff, ↓reduceIte, reduceCtorEq, Nat.reduceEqDiff, Int.reduceToNat, Int.reduceLT, Int.reduceLE, Int.reduceEq, beq_self_eq_true]
    refine .inr ?_
    apply drawN_freshQ [] [0, 1, 2, 3, 4, 5, 6, 7] 8 12 [9, 10, 11, 13, 14] (by kernel_rfl)
    · intro Q' hQ
      simp only [go_sem, Nat.reduceAdd, Nat.reduceSub, Nat.reduceMul, Nat.reduceLT, Nat.reduceLeDiff, ↓reduceIte, reduceCtorEq, Nat.reduceEqDiff, Int.reduceToNat, Int.reduceLT, Int.reduceLE, Int.reduceEq, beq_self_eq_true, indexAddr_sl_t, hw1, hw0, Nat.zero_add, List.length_map, hdl, hdm, hg0]
      refine callF_call (args' := [viewD v0, .lit (.int .i64 by_), .lit (.int .i64 d0)]) rfl (by simp only [go_sem, Nat.reduceAdd, Nat.reduceSub, Nat.reduceMul, Nat.reduceLT, Nat.reduceLeDiff, ↓reduceIte, reduceCtorEq, Nat.reduceEqDiff, Int.reduceToNat, Int.reduceLT, Int.reduceLE, Int.reduceEq, beq_self_eq_true]) (FSpec.call_made (args := [viewD v0, .lit (.int .i64 by_), .lit (.int .i64 d0)]) (overlay_meetF v0 by_ d0 hwl hwp) _ _ (by first | rfl | (simp only [go_sem, Nat.reduceAdd, Nat.reduceSub, Nat.reduceMul, Nat.reduceLT, Nat.reduceLeDiff, ↓reduceIte, reduceCtorEq, Nat.reduceEqDiff, Int.reduceToNat, Int.reduceLT, Int.reduceLE, Int.reduceEq, beq_self_eq_true]; done)) (by first | (simp only [go_sem, Nat.reduceAdd, Nat.reduceSub, Nat.reduceMul, Nat.reduceLT, Nat.reduceLeDiff, ↓reduceIte, reduceCtorEq, Nat.reduceEqDiff, Int.reduceToNat, Int.reduceLT, Int.reduceLE, Int.reduceEq, beq_self_eq_true]; done) | (simp [pureL, pureD]; done))) ?_
      rintro r h' ⟨a, u, L, t, tk', rfl, rfl, hlv, rfl, rfl, rfl⟩
      simp only [go_sem, Nat.reduceAdd, Nat.reduceSub, Nat.reduceMul, Nat.reduceLT, Nat.reduceLeDiff, ↓reduceIte, reduceCtorEq, Nat.reduceEqDiff, Int.reduceToNat, Int.reduceLT, Int.reduceLE, Int.reduceEq, beq_self_eq_true]
      exact hQ t tk' hlv
    · intro Q' hQ
      simp only [go_sem, Nat.reduceAdd, Nat.reduceSub, Nat.reduceMul, Nat.reduceLT, Nat.reduceLeDiff, ↓reduceIte, reduceCtorEq, Nat.reduceEqDiff, Int.reduceToNat, Int.reduceLT, Int.reduceLE, Int.reduceEq, beq_self_eq_true, indexAddr_sl_t, hw1, hw0, Nat.zero_add, List.length_map, hdl, hdm, hg0]
      refine callF_call (args' := [viewD v0, .lit (.int .i64 by_), .lit (.int .i64 d0)]) rfl (by simp only [go_sem, Nat.reduceAdd, Nat.reduceSub, Nat.reduceMul, Nat.reduceLT, Nat.reduceLeDiff, ↓reduceIte, reduceCtorEq, Nat.reduceEqDiff, Int.reduceToNat, Int.reduceLT, Int.reduceLE, Int.reduceEq, beq_self_eq_true]) (FSpec.call_made (args := [viewD v0, .lit (.int .i64 by_), .lit (.int .i64 d0)]) (overlay_meetF v0 by_ d0 hwl hwp) _ _ (by first | rfl | (simp only [go_sem, Nat.reduceAdd, Nat.reduceSub, Nat.reduceMul, Nat.reduceLT, Nat.reduceLeDiff, ↓reduceIte, reduceCtorEq, Nat.reduceEqDiff, Int.reduceToNat, Int.reduceLT, Int.reduceLE, Int.reduceEq, beq_self_eq_true]; done)) (by first | (simp only [go_sem, Nat.reduceAdd, Nat.reduceSub, Nat.reduceMul, Nat.reduceLT, Nat.reduceLeDiff, ↓reduceIte, reduceCtorEq, Nat.reduceEqDiff, Int.reduceToNat, Int.reduceLT, Int.reduceLE, Int.reduceEq, beq_self_eq_true]; done) | (simp [pureL, pureD]; done))) ?_
      rintro r h' ⟨a, u, L, t, tk', rfl, rfl, hlv, rfl, rfl, rfl⟩
      simp only [go_sem, Nat.reduceAdd, Nat.reduceSub, Nat.reduceMul, Nat.reduceLT, Nat.reduceLeDiff, ↓reduceIte, reduceCtorEq, Nat.reduceEqDiff, Int.reduceToNat, Int.reduceLT, Int.reduceLE, Int.reduceEq, beq_self_eq_true]
      exact hQ t tk' hlv
    intro t0 tk0 hlv0
    have hmg := meet_good by_ d0 hwo
    have hms := meet_self v0 by_ d0
    have hmw := meet_w v0 by_ d0
    have hset := vs_set (z := z0) (vs := vs) e0 (meetV v0 by_ d0).1
    have hvs1 := hvs.set hv0 hmg.1 hms
    have hway0 : ∀ m ∈ (meetV v0 by_ d0).2, WOk m := fun m hm => ⟨(hmg.2.2 m hm).1, (hmg.2.2 m hm).2.1, (hmg.2.2 m hm).2.2.2⟩
    generalize (meetV v0 by_ d0).2 = way0 at *
    generalize (meetV v0 by_ d0).1 = a0 at *
    simp only [go_sem, Nat.reduceAdd, Nat.reduceSub, Nat.reduceMul, Nat.reduceLT, Nat.reduceLeDiff, ↓reduceIte, reduceCtorEq, Nat.reduceEqDiff, Int.reduceToNat, Int.reduceLT, Int.reduceLE, Int.reduceEq, beq_self_eq_true, indexAddr_sl_t, hw1, hw0, Nat.zero_add, hg0, hset]
    generalize vs.set i0 a0 = vs1 at *
    refine awp_loop (fun n s => ∃ (q : Nat) (vs : List ViewR) (way : List MsgM) (t : Tok) (tk : List Bool) (ex : List (Sh × D)) (g : Nat → D), s = ⟨[g 0, g 1, g 2, intsL ds .no, g 4, g 5, g 6, g 7, g 8, .sl 24 0 0 13 13, g 10, g 11, .lst 45 (way.map (rawM .no .no)) t, .lit (.int .i64 (q : Int)), g 14, g 15, g 16, g 17, g 18, g 19, g 20, g 21, g 22, g 23, g 24, g 25, g 26, g 27, g 28, g 29, g 30, g 31, g 32, g 33, g 34, g 35, g 36, g 37, g 38, g 39, g 40, g 41, g 42, g 43, g 44, g 45, g 46, g 47, g 48, g 49, g 50, g 51, g 52, g 53, g 54, g 55, g 56, g 57, g 58, g 59, g 60, g 61, g 62, g 63, g 64, g 65, g 66, g 67, g 68, g 69, g 70, g 71, g 72, g 73, g 74, g 75, g 76, g 77, g 78, g 79, g 80, g 81, g 82, g 83, g 84, g 85, g 86, g 87, g 88, g 89, g 90, g 91, g 92, g 93, g 94, g 95, g 96, g 97, g 98, g 99, g 100, g 101, g 102, g 103, g 104, g 105, g 106, g 107, g 108, g 109, g 110, g 111, g 112, g 113, g 114, g 115, g 116, g 117, g 118, g 119, g 120, g 121, g 122, g 123, g 124, g 125, g 126, g 127, g 128, g 129, g 130, g 131, g 132, g 133, g 134, g 135, g 136, g 137, g 138, g 139, g 140, g 141, g 142, g 143, g 144, g 145, g 146, g 147, g 148, g 149, g 150], ⟨(.arr 13 viewSh', .agg (z0 :: vs.map viewD)) :: ex, tk⟩⟩ ∧ n = 400 - q ∧ q + sumW way ≤ 39 ∧ live t tk ∧ VsOk vs ∧ (∀ m ∈ way, WOk m)) 400 ⟨0, vs1, way0, t0, tk0, [(viewSh', viewD a0)], reg_intro rfl rfl ⟨by simp, by omega, hlv0, hvs1, hway0⟩⟩ ?_
    clear hvs hv0 hg0 hset hmw hvs1 hway0 hlv0 e0 he0
    rintro n st ⟨q, vs, way, t, tk, ex, g, rfl, hn, hq, hlv, hvs, hway⟩
    simp only [go_sem, Nat.reduceAdd, Nat.reduceSub, Nat.reduceMul, Nat.reduceLT, Nat.reduceLeDiff, ↓reduceIte, reduceCtorEq, Nat.reduceEqDiff, Int.reduceToNat, Int.reduceLT, Int.reduceLE, Int.reduceEq, beq_self_eq_true, List.length_map]
    have hq400 : decide ((q : Int) < 400) = true := decide_eq_true (by omega)
    simp only [hq400, go_sem, Nat.reduceAdd, Nat.reduceSub, Nat.reduceMul, Nat.reduceLT, Nat.reduceLeDiff, ↓reduceIte, reduceCtorEq, Nat.reduceEqDiff, Int.reduceToNat, Int.reduceLT, Int.reduceLE, Int.reduceEq, beq_self_eq_true, List.length_map]
    refine condK_split (fun c1 => ?_) (fun c1 => ?_)
    · have hwl0 : 0 < way.length := by have := of_decide_eq_true c1; omega
      obtain ⟨m, rest, rfl⟩ : ∃ m rest, way = m :: rest := by
        cases way with
        | nil => simp at hwl0
        | cons m rest => exact ⟨m, rest, rfl⟩
      have hm := hway m (by simp)
      have hrest : ∀ x ∈ rest, WOk x := fun x hx => hway x (by simp [hx])
      have hsw := sumW_cons m rest
      have g1 : ((m :: rest).map (rawM .no .no))[0]? = some (rawM .no .no m) := rfl
      have g2 : ((m :: rest).map (rawM .no .no)).drop 1 = rest.map (rawM .no .no) := rfl
      have g3 : ∀ y, (((Sh.arr 13 viewSh', D.agg (z0 :: vs.map viewD)) :: ex) ++ [y])[ex.length + 1]? = some y := fun y => by simp
      have g4 : ∀ y, (((Sh.arr 13 viewSh', D.agg (z0 :: vs.map viewD)) :: ex) ++ [y]).set (ex.length + 1) = fun x => ((Sh.arr 13 viewSh', D.agg (z0 :: vs.map viewD)) :: ex) ++ [x] := fun y => by funext x; simp
      simp only [go_sem, Nat.reduceAdd, Nat.reduceSub, Nat.reduceMul, Nat.reduceLT, Nat.reduceLeDiff, ↓reduceIte, reduceCtorEq, Nat.reduceEqDiff, Int.reduceToNat, Int.reduceLT, Int.reduceLE, Int.reduceEq, beq_self_eq_true, List.length_map, hwl0, g1, List.length_cons, zeros_len]
      refine callK_pure (args' := [rawM .no .no m]) (check_way hm) (by first | rfl | (simp only [go_sem, Nat.reduceAdd, Nat.reduceSub, Nat.reduceMul, Nat.reduceLT, Nat.reduceLeDiff, ↓reduceIte, reduceCtorEq, Nat.reduceEqDiff, Int.reduceToNat, Int.reduceLT, Int.reduceLE, Int.reduceEq, beq_self_eq_true, zeros_len]; done)) (by first | (simp only [go_sem, Nat.reduceAdd, Nat.reduceSub, Nat.reduceMul, Nat.reduceLT, Nat.reduceLeDiff, ↓reduceIte, reduceCtorEq, Nat.reduceEqDiff, Int.reduceToNat, Int.reduceLT, Int.reduceLE, Int.reduceEq, beq_self_eq_true, zeros_len]; done) | (simp [pureL, pureD]; done)) ?_
      simp only [go_sem, Nat.reduceAdd, Nat.reduceSub, Nat.reduceMul, Nat.reduceLT, Nat.reduceLeDiff, ↓reduceIte, reduceCtorEq, Nat.reduceEqDiff, Int.reduceToNat, Int.reduceLT, Int.reduceLE, Int.reduceEq, beq_self_eq_true, Bool.not_true]
      obtain ⟨_, hto, _, _⟩ := okM_of hm.1
      simp only [vpeer, Bool.and_eq_true, decide_eq_true_eq] at hto
      obtain ⟨i1, v1, e1, hv1, hg1, he1⟩ := vs_at (z := z0) (p := m.to) hto.1 hto.2 hvs
      have hx1 : (m.to.toNat < 13) = True := eq_true (by omega)
      have hx0 : ((0 : Int) ≤ m.to) = True := eq_true (by omega)
      have hro : q % ds.length < ds.length := Nat.mod_lt _ hdl
      have hr0 : ds[q % ds.length]? = some ds[q % ds.length] := List.getElem?_eq_getElem hro
      generalize ds[q % ds.length] = dr at hr0
      have hrm : (ds.map fun n => D.lit (.int .i64 n))[q % ds.length]? = some (.lit (.int .i64 dr)) := by rw [List.getElem?_map, hr0]; rfl
      have hwo1 := (hvs.ok i1 v1 hv1).1
      have hal1 : v1.act.length < 100000 := by have := hwo1.la; omega
      have hpl1 : v1.pas.length < 100000 := by have := hwo1.lp; omega
      have hdn : ((ds.length : Int) ≠ 0) = True := eq_true (by omega)
      have hrq : Int.tmod (q : Int) (ds.length : Int) = ((q % ds.length : Nat) : Int) := rfl
      refine .inr ?_
      apply drawN_freshQ tk [0, 1, 2, 3, 4, 5, 6, 7, 8, 9, 10, 11, 12] 13 17 [14, 15, 16, 18, 19] (by kernel_rfl)
      · intro Q' hQ
        simp only [go_sem, Nat.reduceAdd, Nat.reduceSub, Nat.reduceMul, Nat.reduceLT, Nat.reduceLeDiff, ↓reduceIte, reduceCtorEq, Nat.reduceEqDiff, Int.reduceToNat, Int.reduceLT, Int.reduceLE, Int.reduceEq, beq_self_eq_true, indexAddr_sl_t, hx1, hx0, Nat.zero_add, List.length_map, hdl, hg1, zeros_len, int_rem_t, hdn, hrq, hro, Int.toNat_natCast, hrm, Int.natCast_nonneg]
        refine callF_call (args' := [viewD v1, rawM .no .no m, .lit (.int .i64 dr)]) rfl (by simp only [go_sem, Nat.reduceAdd, Nat.reduceSub, Nat.reduceMul, Nat.reduceLT, Nat.reduceLeDiff, ↓reduceIte, reduceCtorEq, Nat.reduceEqDiff, Int.reduceToNat, Int.reduceLT, Int.reduceLE, Int.reduceEq, beq_self_eq_true, zeros_len]) (FSpec.call_made (args := [viewD v1, rawM .no .no m, .lit (.int .i64 dr)]) (take_way dr hm hal1 hpl1) _ _ (by first | rfl | (simp only [go_sem, Nat.reduceAdd, Nat.reduceSub, Nat.reduceMul, Nat.reduceLT, Nat.reduceLeDiff, ↓reduceIte, reduceCtorEq, Nat.reduceEqDiff, Int.reduceToNat, Int.reduceLT, Int.reduceLE, Int.reduceEq, beq_self_eq_true]; done)) (by first | (simp only [go_sem, Nat.reduceAdd, Nat.reduceSub, Nat.reduceMul, Nat.reduceLT, Nat.reduceLeDiff, ↓reduceIte, reduceCtorEq, Nat.reduceEqDiff, Int.reduceToNat, Int.reduceLT, Int.reduceLE, Int.reduceEq, beq_self_eq_true]; done) | (simp [pureL, pureD]; done))) ?_
        rintro r h' ⟨a, u, L, t2, tk2, rfl, rfl, hlv2, rfl, rfl, rfl⟩
        simp only [go_sem, Nat.reduceAdd, Nat.reduceSub, Nat.reduceMul, Nat.reduceLT, Nat.reduceLeDiff, ↓reduceIte, reduceCtorEq, Nat.reduceEqDiff, Int.reduceToNat, Int.reduceLT, Int.reduceLE, Int.reduceEq, beq_self_eq_true]
        exact hQ t2 tk2 hlv2
      · intro Q' hQ
        simp only [go_sem, Nat.reduceAdd, Nat.reduceSub, Nat.reduceMul, Nat.reduceLT, Nat.reduceLeDiff, ↓reduceIte, reduceCtorEq, Nat.reduceEqDiff, Int.reduceToNat, Int.reduceLT, Int.reduceLE, Int.reduceEq, beq_self_eq_true, indexAddr_sl_t, hx1, hx0, Nat.zero_add, List.length_map, hdl, hg1, zeros_len, int_rem_t, hdn, hrq, hro, Int.toNat_natCast, hrm, Int.natCast_nonneg]
        refine callF_call (args' := [viewD v1, rawM .no .no m, .lit (.int .i64 dr)]) rfl (by simp only [go_sem, Nat.reduceAdd, Nat.reduceSub, Nat.reduceMul, Nat.reduceLT, Nat.reduceLeDiff, ↓reduceIte, reduceCtorEq, Nat.reduceEqDiff, Int.reduceToNat, Int.reduceLT, Int.reduceLE, Int.reduceEq, beq_self_eq_true, zeros_len]) (FSpec.call_made (args := [viewD v1, rawM .no .no m, .lit (.int .i64 dr)]) (take_way dr hm hal1 hpl1) _ _ (by first | rfl | (simp only [go_sem, Nat.reduceAdd, Nat.reduceSub, Nat.reduceMul, Nat.reduceLT, Nat.reduceLeDiff, ↓reduceIte, reduceCtorEq, Nat.reduceEqDiff, Int.reduceToNat, Int.reduceLT, Int.reduceLE, Int.reduceEq, beq_self_eq_true]; done)) (by first | (simp only [go_sem, Nat.reduceAdd, Nat.reduceSub, Nat.reduceMul, Nat.reduceLT, Nat.reduceLeDiff, ↓reduceIte, reduceCtorEq, Nat.reduceEqDiff, Int.reduceToNat, Int.reduceLT, Int.reduceLE, Int.reduceEq, beq_self_eq_true]; done) | (simp [pureL, pureD]; done))) ?_
        rintro r h' ⟨a, u, L, t2, tk2, rfl, rfl, hlv2, rfl, rfl, rfl⟩
        simp only [go_sem, Nat.reduceAdd, Nat.reduceSub, Nat.reduceMul, Nat.reduceLT, Nat.reduceLeDiff, ↓reduceIte, reduceCtorEq, Nat.reduceEqDiff, Int.reduceToNat, Int.reduceLT, Int.reduceLE, Int.reduceEq, beq_self_eq_true]
        exact hQ t2 tk2 hlv2
      intro t2 tk2 hlv2
      have htg := take_good (y := gOf m) dr hwo1 hm.2.2
      have hts := take_self v1 (gOf m) dr
      have htw := take_w (m := m) dr hwo1
      have hset2 := vs_set (z := z0) (vs := vs) e1 (takeV v1 (gOf m) dr).1
      have hvs2 := hvs.set hv1 htg.1 hts
      have hway2 : ∀ x ∈ (takeV v1 (gOf m) dr).2, WOk x := fun x hx => ⟨(htg.2.2 x hx).1, (htg.2.2 x hx).2.1, (htg.2.2 x hx).2.2.2⟩
      have hmore := htg.2.1
      have hways : ∀ x ∈ rest ++ (takeV v1 (gOf m) dr).2, WOk x := fun x hx => (List.mem_append.1 hx).elim (hrest x) (hway2 x)
      generalize (takeV v1 (gOf m) dr).2 = more at *
      generalize (takeV v1 (gOf m) dr).1 = a1v at *
      have g6 : ∀ x y : Sh × D, (ex ++ [x] ++ [y])[ex.length]? = some x := fun x y => by rw [List.append_assoc, List.getElem?_append_right (Nat.le_refl _)]; simp
      have g7 : ∀ x y : Sh × D, (ex ++ [x] ++ [y])[ex.length + 1]? = some y := fun x y => by rw [List.append_assoc, List.getElem?_append_right (by omega)]; simp
      simp only [go_sem, Nat.reduceAdd, Nat.reduceSub, Nat.reduceMul, Nat.reduceLT, Nat.reduceLeDiff, ↓reduceIte, reduceCtorEq, Nat.reduceEqDiff, Int.reduceToNat, Int.reduceLT, Int.reduceLE, Int.reduceEq, beq_self_eq_true, indexAddr_sl_t, hx1, hx0, Nat.zero_add, hg1, hset2, zeros_len, g6, g7, List.length_cons, Nat.le_add_left, List.length_map, tokC_same]
      have hcb : CT.bytes 45 ≤ 1000000000 := by decide +kernel
      have hrl := len_sumW rest
      refine appK_any _ _ _ _ _ _ _ (live_app hlv _) (by decide +kernel) ?_ (fun u tk3 hlv3 => ?_)
      · simp only [List.length_map]
        have h46 : rest.length + more.length ≤ 46 := by omega
        exact Nat.le_trans (Nat.mul_le_mul h46 hcb) (by omega)
      · simp only [go_sem, Nat.reduceAdd, Nat.reduceSub, Nat.reduceMul, Nat.reduceLT, Nat.reduceLeDiff, ↓reduceIte, reduceCtorEq, Nat.reduceEqDiff, Int.reduceToNat, Int.reduceLT, Int.reduceLE, Int.reduceEq, beq_self_eq_true, List.length_map]
        rw [wrapNat q (by omega)]
        rw [← List.map_append]
        have hcat := sumW_cat rest more
        exact ⟨400 - (q + 1), by omega, q + 1, _, _, u, tk3, _, reg_intro rfl rfl ⟨rfl, by omega, hlv3, hvs2, hways⟩⟩
    · have hw0 : way.length = 0 := by have := of_decide_eq_false c1; omega
      obtain rfl : way = [] := List.length_eq_zero_iff.1 hw0
      simp only [go_sem, Nat.reduceAdd, Nat.reduceSub, Nat.reduceMul, Nat.reduceLT, Nat.reduceLeDiff, ↓reduceIte, reduceCtorEq, Nat.reduceEqDiff, Int.reduceToNat, Int.reduceLT, Int.reduceLE, Int.reduceEq, beq_self_eq_true, List.map_nil, List.length_nil, Int.natCast_zero, Int.cast_ofNat_Int, decide_true]
      refine callK_pure heads27 (by first | rfl | (simp only [go_sem, Nat.reduceAdd, Nat.reduceSub, Nat.reduceMul, Nat.reduceLT, Nat.reduceLeDiff, ↓reduceIte, reduceCtorEq, Nat.reduceEqDiff, Int.reduceToNat, Int.reduceLT, Int.reduceLE, Int.reduceEq, beq_self_eq_true]; done)) (by first | (simp only [go_sem, Nat.reduceAdd, Nat.reduceSub, Nat.reduceMul, Nat.reduceLT, Nat.reduceLeDiff, ↓reduceIte, reduceCtorEq, Nat.reduceEqDiff, Int.reduceToNat, Int.reduceLT, Int.reduceLE, Int.reduceEq, beq_self_eq_true]; done) | (simp [pureL, pureD]; done)) ?_
      simp only [go_sem, Nat.reduceAdd, Nat.reduceSub, Nat.reduceMul, Nat.reduceLT, Nat.reduceLeDiff, ↓reduceIte, reduceCtorEq, Nat.reduceEqDiff, Int.reduceToNat, Int.reduceLT, Int.reduceLE, Int.reduceEq, beq_self_eq_true]
end Go.Ab
