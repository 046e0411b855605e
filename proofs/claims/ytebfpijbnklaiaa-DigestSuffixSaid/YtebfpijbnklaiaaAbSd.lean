/- What must come at any rate of what is stable. Conditions: none. -/
import Derived.Test.YtebfpijbnklaiaaAbSc
set_option linter.unusedSimpArgs false
namespace Go.Ab
open Go.Proofs

def w2 : List Int := ((zeros 13).set 0 0).set 1 2
def w3 : List Int := ((zeros 13).set 0 0).set 1 3
def w5 : List Int := ((zeros 13).set 0 0).set 1 5
def w6 : List Int := ((zeros 13).set 0 0).set 1 6
def wT : List (List Int) := (zerosT 13 13).set 2 w3
theorem w2_eq : ((zeros 13).set 0 0).set 1 2 = w2 := rfl
theorem w3_eq : ((zeros 13).set 0 0).set 1 3 = w3 := rfl
theorem w5_eq : ((zeros 13).set 0 0).set 1 5 = w5 := rfl
theorem w6_eq : ((zeros 13).set 0 0).set 1 6 = w6 := rfl
theorem w2_len : w2.length = 13 := by decide +kernel
theorem w3_len : w3.length = 13 := by decide +kernel
theorem w5_len : w5.length = 13 := by decide +kernel
theorem w6_len : w6.length = 13 := by decide +kernel
theorem wT_len : wT.length = 13 := by decide +kernel
theorem wT_lens : lens 13 wT := by
  unfold wT; rw [lens_set_t 13 _ 2 w3 (lens_zeros 13 13) (eq_true w3_len)]; trivial
theorem wZ_lens : lens 13 (zerosT 13 13) := of_eq_true (lens_zeros 13 13)

set_option maxRecDepth 8000 in
theorem heads20 : PSpec Try.prog CT 42 [] (· = .bool true) := by
  have e1 : vaccept (zerosT 13 13) 2 w3 w5 = (wT, true) := by decide +kernel
  have e2 : vaccept (zerosT 13 13) 2 w6 w5 = (zerosT 13 13, false) := by decide +kernel
  have e3 : vaccept wT 2 w2 w5 = (wT, false) := by decide +kernel
  have e4 : wT.getD 2 [] = w3 := by decide +kernel
  have e5 : vcut wT 1 w5 [1, 2] = w3 := by decide +kernel
  have e6 : vcut wT 1 w5 [1] = w5 := by decide +kernel
  have e7 : vcut wT 1 w5 [] = zeros 13 := by decide +kernel
  refine PSpec.of hT Try.func42 rfl (by kernel_rfl) rfl rfl ?_
  simp only [Try.f42, go_sem, Nat.reduceAdd, Nat.reduceSub, Nat.reduceMul, Nat.reduceLT, Nat.reduceLeDiff, ↓reduceIte, reduceCtorEq, Nat.reduceEqDiff, Int.reduceToNat, Int.reduceLT, Int.reduceLE, Int.reduceEq, beq_self_eq_true, w2_eq, w3_eq, w5_eq, w6_eq]
  refine callK_pure (stable_accept (zerosT 13 13) 2 w3 w5 (zerosT_len 13 13) wZ_lens w3_len w5_len) (by simp only [go_sem, Nat.reduceAdd, Nat.reduceSub, Nat.reduceMul, Nat.reduceLT, Nat.reduceLeDiff, ↓reduceIte, reduceCtorEq, Nat.reduceEqDiff, Int.reduceToNat, Int.reduceLT, Int.reduceLE, Int.reduceEq, beq_self_eq_true, w2_eq, w3_eq, w5_eq, w6_eq, w2_len, w3_len, w5_len, w6_len, wT_len, wT_lens, e1, e2, e3, e4, e5, e6, e7, intsL]) (by simp only [go_sem, Nat.reduceAdd, Nat.reduceSub, Nat.reduceMul, Nat.reduceLT, Nat.reduceLeDiff, ↓reduceIte, reduceCtorEq, Nat.reduceEqDiff, Int.reduceToNat, Int.reduceLT, Int.reduceLE, Int.reduceEq, beq_self_eq_true, w2_eq, w3_eq, w5_eq, w6_eq, w2_len, w3_len, w5_len, w6_len, wT_len, wT_lens, e1, e2, e3, e4, e5, e6, e7, intsL]) ?_; simp only [go_sem, Nat.reduceAdd, Nat.reduceSub, Nat.reduceMul, Nat.reduceLT, Nat.reduceLeDiff, ↓reduceIte, reduceCtorEq, Nat.reduceEqDiff, Int.reduceToNat, Int.reduceLT, Int.reduceLE, Int.reduceEq, beq_self_eq_true, w2_eq, w3_eq, w5_eq, w6_eq, w2_len, w3_len, w5_len, w6_len, wT_len, wT_lens, e1, e2, e3, e4, e5, e6, e7, intsL]
  refine callK_pure (stable_accept (zerosT 13 13) 2 w6 w5 (zerosT_len 13 13) wZ_lens w6_len w5_len) (by simp only [go_sem, Nat.reduceAdd, Nat.reduceSub, Nat.reduceMul, Nat.reduceLT, Nat.reduceLeDiff, ↓reduceIte, reduceCtorEq, Nat.reduceEqDiff, Int.reduceToNat, Int.reduceLT, Int.reduceLE, Int.reduceEq, beq_self_eq_true, w2_eq, w3_eq, w5_eq, w6_eq, w2_len, w3_len, w5_len, w6_len, wT_len, wT_lens, e1, e2, e3, e4, e5, e6, e7, intsL]) (by simp only [go_sem, Nat.reduceAdd, Nat.reduceSub, Nat.reduceMul, Nat.reduceLT, Nat.reduceLeDiff, ↓reduceIte, reduceCtorEq, Nat.reduceEqDiff, Int.reduceToNat, Int.reduceLT, Int.reduceLE, Int.reduceEq, beq_self_eq_true, w2_eq, w3_eq, w5_eq, w6_eq, w2_len, w3_len, w5_len, w6_len, wT_len, wT_lens, e1, e2, e3, e4, e5, e6, e7, intsL]) ?_; simp only [go_sem, Nat.reduceAdd, Nat.reduceSub, Nat.reduceMul, Nat.reduceLT, Nat.reduceLeDiff, ↓reduceIte, reduceCtorEq, Nat.reduceEqDiff, Int.reduceToNat, Int.reduceLT, Int.reduceLE, Int.reduceEq, beq_self_eq_true, w2_eq, w3_eq, w5_eq, w6_eq, w2_len, w3_len, w5_len, w6_len, wT_len, wT_lens, e1, e2, e3, e4, e5, e6, e7, intsL]
  refine callK_pure (stable_accept wT 2 w2 w5 wT_len wT_lens w2_len w5_len) (by simp only [go_sem, Nat.reduceAdd, Nat.reduceSub, Nat.reduceMul, Nat.reduceLT, Nat.reduceLeDiff, ↓reduceIte, reduceCtorEq, Nat.reduceEqDiff, Int.reduceToNat, Int.reduceLT, Int.reduceLE, Int.reduceEq, beq_self_eq_true, w2_eq, w3_eq, w5_eq, w6_eq, w2_len, w3_len, w5_len, w6_len, wT_len, wT_lens, e1, e2, e3, e4, e5, e6, e7, intsL]) (by simp only [go_sem, Nat.reduceAdd, Nat.reduceSub, Nat.reduceMul, Nat.reduceLT, Nat.reduceLeDiff, ↓reduceIte, reduceCtorEq, Nat.reduceEqDiff, Int.reduceToNat, Int.reduceLT, Int.reduceLE, Int.reduceEq, beq_self_eq_true, w2_eq, w3_eq, w5_eq, w6_eq, w2_len, w3_len, w5_len, w6_len, wT_len, wT_lens, e1, e2, e3, e4, e5, e6, e7, intsL]) ?_; simp only [go_sem, Nat.reduceAdd, Nat.reduceSub, Nat.reduceMul, Nat.reduceLT, Nat.reduceLeDiff, ↓reduceIte, reduceCtorEq, Nat.reduceEqDiff, Int.reduceToNat, Int.reduceLT, Int.reduceLE, Int.reduceEq, beq_self_eq_true, w2_eq, w3_eq, w5_eq, w6_eq, w2_len, w3_len, w5_len, w6_len, wT_len, wT_lens, e1, e2, e3, e4, e5, e6, e7, intsL]
  refine callK_pure (stable_cut wT 1 w5 [1, 2] wT_len wT_lens w5_len (by decide)) (by simp only [go_sem, Nat.reduceAdd, Nat.reduceSub, Nat.reduceMul, Nat.reduceLT, Nat.reduceLeDiff, ↓reduceIte, reduceCtorEq, Nat.reduceEqDiff, Int.reduceToNat, Int.reduceLT, Int.reduceLE, Int.reduceEq, beq_self_eq_true, w2_eq, w3_eq, w5_eq, w6_eq, w2_len, w3_len, w5_len, w6_len, wT_len, wT_lens, e1, e2, e3, e4, e5, e6, e7, intsL]) (by simp only [go_sem, Nat.reduceAdd, Nat.reduceSub, Nat.reduceMul, Nat.reduceLT, Nat.reduceLeDiff, ↓reduceIte, reduceCtorEq, Nat.reduceEqDiff, Int.reduceToNat, Int.reduceLT, Int.reduceLE, Int.reduceEq, beq_self_eq_true, w2_eq, w3_eq, w5_eq, w6_eq, w2_len, w3_len, w5_len, w6_len, wT_len, wT_lens, e1, e2, e3, e4, e5, e6, e7, intsL]) ?_; simp only [go_sem, Nat.reduceAdd, Nat.reduceSub, Nat.reduceMul, Nat.reduceLT, Nat.reduceLeDiff, ↓reduceIte, reduceCtorEq, Nat.reduceEqDiff, Int.reduceToNat, Int.reduceLT, Int.reduceLE, Int.reduceEq, beq_self_eq_true, w2_eq, w3_eq, w5_eq, w6_eq, w2_len, w3_len, w5_len, w6_len, wT_len, wT_lens, e1, e2, e3, e4, e5, e6, e7, intsL]
  refine callK_pure (stable_cut wT 1 w5 [1] wT_len wT_lens w5_len (by decide)) (by simp only [go_sem, Nat.reduceAdd, Nat.reduceSub, Nat.reduceMul, Nat.reduceLT, Nat.reduceLeDiff, ↓reduceIte, reduceCtorEq, Nat.reduceEqDiff, Int.reduceToNat, Int.reduceLT, Int.reduceLE, Int.reduceEq, beq_self_eq_true, w2_eq, w3_eq, w5_eq, w6_eq, w2_len, w3_len, w5_len, w6_len, wT_len, wT_lens, e1, e2, e3, e4, e5, e6, e7, intsL]) (by simp only [go_sem, Nat.reduceAdd, Nat.reduceSub, Nat.reduceMul, Nat.reduceLT, Nat.reduceLeDiff, ↓reduceIte, reduceCtorEq, Nat.reduceEqDiff, Int.reduceToNat, Int.reduceLT, Int.reduceLE, Int.reduceEq, beq_self_eq_true, w2_eq, w3_eq, w5_eq, w6_eq, w2_len, w3_len, w5_len, w6_len, wT_len, wT_lens, e1, e2, e3, e4, e5, e6, e7, intsL]) ?_; simp only [go_sem, Nat.reduceAdd, Nat.reduceSub, Nat.reduceMul, Nat.reduceLT, Nat.reduceLeDiff, ↓reduceIte, reduceCtorEq, Nat.reduceEqDiff, Int.reduceToNat, Int.reduceLT, Int.reduceLE, Int.reduceEq, beq_self_eq_true, w2_eq, w3_eq, w5_eq, w6_eq, w2_len, w3_len, w5_len, w6_len, wT_len, wT_lens, e1, e2, e3, e4, e5, e6, e7, intsL]
  refine callK_pure (stable_cut wT 1 w5 [] wT_len wT_lens w5_len (by decide)) (by simp only [go_sem, Nat.reduceAdd, Nat.reduceSub, Nat.reduceMul, Nat.reduceLT, Nat.reduceLeDiff, ↓reduceIte, reduceCtorEq, Nat.reduceEqDiff, Int.reduceToNat, Int.reduceLT, Int.reduceLE, Int.reduceEq, beq_self_eq_true, w2_eq, w3_eq, w5_eq, w6_eq, w2_len, w3_len, w5_len, w6_len, wT_len, wT_lens, e1, e2, e3, e4, e5, e6, e7, intsL]) (by simp only [go_sem, Nat.reduceAdd, Nat.reduceSub, Nat.reduceMul, Nat.reduceLT, Nat.reduceLeDiff, ↓reduceIte, reduceCtorEq, Nat.reduceEqDiff, Int.reduceToNat, Int.reduceLT, Int.reduceLE, Int.reduceEq, beq_self_eq_true, w2_eq, w3_eq, w5_eq, w6_eq, w2_len, w3_len, w5_len, w6_len, wT_len, wT_lens, e1, e2, e3, e4, e5, e6, e7, intsL]) ?_; simp only [go_sem, Nat.reduceAdd, Nat.reduceSub, Nat.reduceMul, Nat.reduceLT, Nat.reduceLeDiff, ↓reduceIte, reduceCtorEq, Nat.reduceEqDiff, Int.reduceToNat, Int.reduceLT, Int.reduceLE, Int.reduceEq, beq_self_eq_true, w2_eq, w3_eq, w5_eq, w6_eq, w2_len, w3_len, w5_len, w6_len, wT_len, wT_lens, e1, e2, e3, e4, e5, e6, e7, intsL]

end Go.Ab
