/- Transactions of few ops: the document's function. Conditions: none. -/
import Derived.Test.YtjafmlbcjhoflaaGreatOpC
set_option linter.unusedSimpArgs false
namespace Go.Ab
open Go.Proofs

def smallTx (t : TxR) : Bool := decide (t.ops.length ≤ 40) && (List.range t.ops.length).all fun k => decide (((opAt t k).key.size : Int) ≤ 100) && decide (((opAt t k).field.size : Int) ≤ 100) && decide (((opAt t k).text.size : Int) ≤ 100)
def smallAt (t : TxR) (k : Nat) : Bool := decide (((opAt t k).key.size : Int) ≤ 100) && decide (((opAt t k).field.size : Int) ≤ 100) && decide (((opAt t k).text.size : Int) ≤ 100)
theorem smallTx_not {t : TxR} {k : Nat} (hk : k < t.ops.length) (h : smallAt t k = false) : smallTx t = false := by
  have : ((List.range t.ops.length).all fun k => decide (((opAt t k).key.size : Int) ≤ 100) && decide (((opAt t k).field.size : Int) ≤ 100) && decide (((opAt t k).text.size : Int) ≤ 100)) = false := by
    rw [List.all_eq_false]
    refine ⟨k, List.mem_range.2 hk, ?_⟩
    have h2 := h
    unfold smallAt at h2
    rw [h2]; simp
  simp only [smallTx, this, Bool.and_false]
set_option maxRecDepth 8000 in
theorem ref_small (t : TxR) (hd : t.deps.length = 13) : PSpec Tryz.prog CT 35 [txD t] (· = .bool (smallTx t)) := by
  refine PSpec.of hT Tryz.func35 rfl (by kernel_rfl) rfl rfl ?_
  simp only [Tryz.f35, go_sem, Nat.reduceAdd, Nat.reduceSub, Nat.reduceMul, Nat.reduceLT, Nat.reduceLeDiff, ↓reduceIte, reduceCtorEq, Nat.reduceEqDiff, Int.reduceToNat, Int.reduceLT, Int.reduceLE, Int.reduceEq, beq_self_eq_true, hd]
  refine awp_loop (fun n s => ∃ (k : Nat) (ex : List (Sh × D)) (g : Nat → D), s = ⟨[txD t, .ptr 0 [], g 2, .lit (.int .i64 k), g 4, g 5, g 6, g 7, g 8, g 9, g 10, g 11, g 12, g 13, g 14, g 15, g 16, g 17, g 18, g 19, g 20, g 21, g 22, g 23, g 24, g 25, g 26, g 27, g 28, g 29, g 30, g 31, g 32, g 33, g 34, g 35, g 36, g 37, g 38, g 39, g 40, g 41, g 42], ⟨(txSh, txD t) :: ex, []⟩⟩ ∧ n = t.ops.length - k ∧ k ≤ t.ops.length ∧ (k = 0 ∨ t.ops.length ≤ 40) ∧ ∀ p, p < k → smallAt t p = true) t.ops.length ⟨0, _, reg_intro rfl rfl ⟨by simp, by omega, .inl rfl, by simp⟩⟩ ?_
  rintro n s ⟨k, ex, g, rfl, hn, hk, h40, hp⟩
  simp only [go_sem, Nat.reduceAdd, Nat.reduceSub, Nat.reduceMul, Nat.reduceLT, Nat.reduceLeDiff, ↓reduceIte, reduceCtorEq, Nat.reduceEqDiff, Int.reduceToNat, Int.reduceLT, Int.reduceLE, Int.reduceEq, beq_self_eq_true, hd]
  have last : (¬ t.ops.length ≤ 40 → smallTx t = false) := fun h => by simp only [smallTx, decide_eq_false h, Bool.false_and]
  refine guardK_split (fun hc => ?_) (fun hc => ?_)
  · have hk' : k < t.ops.length := by have := of_decide_eq_true hc; omega
    simp only [go_sem, Nat.reduceAdd, Nat.reduceSub, Nat.reduceMul, Nat.reduceLT, Nat.reduceLeDiff, ↓reduceIte, reduceCtorEq, Nat.reduceEqDiff, Int.reduceToNat, Int.reduceLT, Int.reduceLE, Int.reduceEq, beq_self_eq_true, hd, hc]
    refine condK_split (fun h4 => ?_) (fun h4 => ?_)
    · have hl4 : t.ops.length ≤ 40 := by have := of_decide_eq_true h4; omega
      have bad : smallAt t k = false → smallTx t = false := smallTx_not hk'
      have next : smallAt t k = true → ∀ p, p < k + 1 → smallAt t p = true := fun h p hpk => by
        by_cases e : p = k
        · subst e; exact h
        · exact hp p (by omega)
      simp only [go_sem, Nat.reduceAdd, Nat.reduceSub, Nat.reduceMul, Nat.reduceLT, Nat.reduceLeDiff, ↓reduceIte, reduceCtorEq, Nat.reduceEqDiff, Int.reduceToNat, Int.reduceLT, Int.reduceLE, Int.reduceEq, beq_self_eq_true, hd, hk', get_ops]
      (repeat' (first | ((refine guardK_split (fun hg => ?_) (fun hg => ?_)) <;> (try simp only [go_sem, Nat.reduceAdd, Nat.reduceSub, Nat.reduceMul, Nat.reduceLT, Nat.reduceLeDiff, ↓reduceIte, reduceCtorEq, Nat.reduceEqDiff, Int.reduceToNat, Int.reduceLT, Int.reduceLE, Int.reduceEq, beq_self_eq_true, hg, hd, hk', wrapNat k (by omega)])) | ((refine condK_split (fun hg => ?_) (fun hg => ?_)) <;> (try simp only [go_sem, Nat.reduceAdd, Nat.reduceSub, Nat.reduceMul, Nat.reduceLT, Nat.reduceLeDiff, ↓reduceIte, reduceCtorEq, Nat.reduceEqDiff, Int.reduceToNat, Int.reduceLT, Int.reduceLE, Int.reduceEq, beq_self_eq_true, hg, hd, hk', wrapNat k (by omega)])) | ((refine Or.inl ⟨by kernel_rfl, ?_⟩) <;> (try simp only [go_sem, Nat.reduceAdd, Nat.reduceSub, Nat.reduceMul, Nat.reduceLT, Nat.reduceLeDiff, ↓reduceIte, reduceCtorEq, Nat.reduceEqDiff, Int.reduceToNat, Int.reduceLT, Int.reduceLE, Int.reduceEq, beq_self_eq_true, hd, hk', wrapNat k (by omega)])))) <;> (first | done | (rw [bad (by first | (simp_all [smallAt]; done) | (simp_all [smallAt]; omega))]) | exact ⟨t.ops.length - (k + 1), by omega, k + 1, _, reg_intro rfl rfl ⟨rfl, by omega, .inr hl4, next (by first | (simp_all [smallAt]; done) | (simp_all [smallAt]; omega))⟩⟩)
    · have hl4 : ¬ t.ops.length ≤ 40 := by have := of_decide_eq_false h4; omega
      simp only [go_sem, Nat.reduceAdd, Nat.reduceSub, Nat.reduceMul, Nat.reduceLT, Nat.reduceLeDiff, ↓reduceIte, reduceCtorEq, Nat.reduceEqDiff, Int.reduceToNat, Int.reduceLT, Int.reduceLE, Int.reduceEq, beq_self_eq_true, hd, last hl4, h4]
  · have hi := of_decide_eq_false hc
    obtain rfl : k = t.ops.length := by omega
    simp only [go_sem, Nat.reduceAdd, Nat.reduceSub, Nat.reduceMul, Nat.reduceLT, Nat.reduceLeDiff, ↓reduceIte, reduceCtorEq, Nat.reduceEqDiff, Int.reduceToNat, Int.reduceLT, Int.reduceLE, Int.reduceEq, beq_self_eq_true, hd, hc]
    by_cases h4 : t.ops.length ≤ 40
    · have : smallTx t = true := by
        simp only [smallTx, decide_eq_true h4, Bool.true_and, List.all_eq_true, List.mem_range]
        exact hp
      rw [this, decide_eq_true (by omega)]
    · rw [last h4, decide_eq_false (by omega)]
end Go.Ab
