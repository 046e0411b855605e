/- Transactions: few, apart, ready; the document's functions. Conditions: none. -/
import Derived.Test.YtnagdbamieahgaaStA
set_option linter.unusedSimpArgs false
namespace Go.Ab
open Go.Proofs

instance : Inhabited TxR := ⟨⟨0, 0, [], 0, []⟩⟩
abbrev txsD (l : List TxR) : D := .lst 42 (l.map txD) .no
def txAt (l : List TxR) (k : Nat) : TxR := l.getD k default
theorem get_txs (l : List TxR) (k : Nat) (h : (k < l.length) = True) : (l.map txD)[k]? = some (txD (txAt l k)) := by
  have h := of_eq_true h
  simp [txAt, h]
/-- What the machine can hold. -/
def TxsOk (l : List TxR) : Prop := ∀ t ∈ l, t.deps.length = 13 ∧ t.ops.length ≤ 9223372036854775807
theorem txsOk_at {l : List TxR} (h : TxsOk l) {k : Nat} (hk : k < l.length) : (txAt l k).deps.length = 13 ∧ (txAt l k).ops.length ≤ 9223372036854775807 := by
  have : txAt l k ∈ l := by
    unfold txAt
    rw [List.getD_eq_getElem?_getD, List.getElem?_eq_getElem hk]; exact List.getElem_mem hk
  exact h _ this

def sumOps (l : List TxR) (k : Nat) : Nat := ((l.take k).map fun t => t.ops.length).sum
theorem sumOps_succ (l : List TxR) (k : Nat) (hk : k < l.length) : sumOps l (k + 1) = sumOps l k + (txAt l k).ops.length := by
  unfold sumOps txAt
  rw [List.take_add_one, List.getElem?_eq_getElem hk, List.getD_eq_getElem?_getD, List.getElem?_eq_getElem hk]
  simp only [Option.toList_some, List.map_append, List.map_cons, List.map_nil, List.sum_append, List.sum_cons, List.sum_nil, Option.getD_some, Nat.add_zero]
def fewAt (l : List TxR) (k : Nat) : Bool := smallTx (txAt l k) && decide (sumOps l (k + 1) ≤ 160)
def fewTx (l : List TxR) : Bool := decide (l.length ≤ 40) && (List.range l.length).all fun k => fewAt l k
theorem fewTx_not {l : List TxR} {k : Nat} (hk : k < l.length) (h : fewAt l k = false) : fewTx l = false := by
  have : ((List.range l.length).all fun k => fewAt l k) = false := by
    rw [List.all_eq_false]
    exact ⟨k, List.mem_range.2 hk, by rw [h]; simp⟩
  simp only [fewTx, this, Bool.and_false]
set_option maxRecDepth 8000 in
theorem ref_few (l : List TxR) (ho : TxsOk l) : PSpec Try.prog CT 12 [txsD l] (· = .bool (fewTx l)) := by
  refine PSpec.of hT Try.func12 rfl (by kernel_rfl) rfl rfl ?_
  simp only [Try.f12, go_sem, Nat.reduceAdd, Nat.reduceSub, Nat.reduceMul, Nat.reduceLT, Nat.reduceLeDiff, ↓reduceIte, reduceCtorEq, Nat.reduceEqDiff, Int.reduceToNat, Int.reduceLT, Int.reduceLE, Int.reduceEq, beq_self_eq_true]
  refine awp_loop (fun n s => ∃ (k : Nat) (g : Nat → D), s = ⟨[txsD l, g 1, g 2, .lit (.int .i64 (sumOps l k : Nat)), .lit (.int .i64 k), g 5, g 6, g 7, g 8, g 9, g 10, g 11, g 12, g 13, g 14, g 15, g 16, g 17, g 18, g 19, g 20, g 21, g 22, g 23, g 24, g 25, g 26, g 27, g 28, g 29, g 30, g 31, g 32, g 33, g 34, g 35, g 36], ⟨[], []⟩⟩ ∧ n = l.length - k ∧ k ≤ l.length ∧ (k = 0 ∨ l.length ≤ 40) ∧ sumOps l k ≤ 160 ∧ ∀ p, p < k → fewAt l p = true) l.length ⟨0, reg_intro rfl rfl ⟨by simp, by omega, .inl rfl, by simp [sumOps], by simp⟩⟩ ?_
  rintro n s ⟨k, g, rfl, hn, hk, h40, hsum, hp⟩
  simp only [go_sem, Nat.reduceAdd, Nat.reduceSub, Nat.reduceMul, Nat.reduceLT, Nat.reduceLeDiff, ↓reduceIte, reduceCtorEq, Nat.reduceEqDiff, Int.reduceToNat, Int.reduceLT, Int.reduceLE, Int.reduceEq, beq_self_eq_true]
  have last : (¬ l.length ≤ 40 → fewTx l = false) := fun h => by simp only [fewTx, decide_eq_false h, Bool.false_and]
  refine guardK_split (fun hc => ?_) (fun hc => ?_)
  · have hk' : k < l.length := by have := of_decide_eq_true hc; omega
    simp only [go_sem, Nat.reduceAdd, Nat.reduceSub, Nat.reduceMul, Nat.reduceLT, Nat.reduceLeDiff, ↓reduceIte, reduceCtorEq, Nat.reduceEqDiff, Int.reduceToNat, Int.reduceLT, Int.reduceLE, Int.reduceEq, beq_self_eq_true, hc]
    refine condK_split (fun h4 => ?_) (fun h4 => ?_)
    · have hl4 : l.length ≤ 40 := by have := of_decide_eq_true h4; omega
      obtain ⟨hd, hm⟩ := txsOk_at ho hk'
      have bad : fewAt l k = false → fewTx l = false := fewTx_not hk'
      simp only [go_sem, Nat.reduceAdd, Nat.reduceSub, Nat.reduceMul, Nat.reduceLT, Nat.reduceLeDiff, ↓reduceIte, reduceCtorEq, Nat.reduceEqDiff, Int.reduceToNat, Int.reduceLT, Int.reduceLE, Int.reduceEq, beq_self_eq_true, hk', get_txs]
      refine callK_pure (ref_small (txAt l k) hd) (by simp only [go_sem, Nat.reduceAdd, Nat.reduceSub, Nat.reduceMul, Nat.reduceLT, Nat.reduceLeDiff, ↓reduceIte, reduceCtorEq, Nat.reduceEqDiff, Int.reduceToNat, Int.reduceLT, Int.reduceLE, Int.reduceEq, beq_self_eq_true, hd, hk', pureL_ops]) (by simp only [go_sem, Nat.reduceAdd, Nat.reduceSub, Nat.reduceMul, Nat.reduceLT, Nat.reduceLeDiff, ↓reduceIte, reduceCtorEq, Nat.reduceEqDiff, Int.reduceToNat, Int.reduceLT, Int.reduceLE, Int.reduceEq, beq_self_eq_true, hd, hk', pureL_ops]) ?_; simp only [go_sem, Nat.reduceAdd, Nat.reduceSub, Nat.reduceMul, Nat.reduceLT, Nat.reduceLeDiff, ↓reduceIte, reduceCtorEq, Nat.reduceEqDiff, Int.reduceToNat, Int.reduceLT, Int.reduceLE, Int.reduceEq, beq_self_eq_true, hd, hk', pureL_ops]
      have hsucc := sumOps_succ l k hk'
      refine guardK_split (fun h5 => ?_) (fun h5 => ?_)
      · simp only [Bool.not_eq_true'] at h5
        simp only [go_sem, Nat.reduceAdd, Nat.reduceSub, Nat.reduceMul, Nat.reduceLT, Nat.reduceLeDiff, ↓reduceIte, reduceCtorEq, Nat.reduceEqDiff, Int.reduceToNat, Int.reduceLT, Int.reduceLE, Int.reduceEq, beq_self_eq_true, hk', h5]
        rw [bad (by simp only [fewAt, h5, Bool.false_and])]
      · simp only [Bool.not_eq_false'] at h5
        have hops : (txAt l k).ops.length ≤ 40 := by
          simp only [smallTx, Bool.and_eq_true, decide_eq_true_eq] at h5; exact h5.1
        have hw : IntKind.i64.wrap ((sumOps l k : Int) + ((txAt l k).ops.length : Int)) = ((sumOps l (k + 1) : Nat) : Int) := by rw [wrap64] <;> omega
        simp only [go_sem, Nat.reduceAdd, Nat.reduceSub, Nat.reduceMul, Nat.reduceLT, Nat.reduceLeDiff, ↓reduceIte, reduceCtorEq, Nat.reduceEqDiff, Int.reduceToNat, Int.reduceLT, Int.reduceLE, Int.reduceEq, beq_self_eq_true, hk', h5, hw]
        refine condK_split (fun h6 => ?_) (fun h6 => ?_)
        · have h6 := of_decide_eq_true h6
          simp only [go_sem, Nat.reduceAdd, Nat.reduceSub, Nat.reduceMul, Nat.reduceLT, Nat.reduceLeDiff, ↓reduceIte, reduceCtorEq, Nat.reduceEqDiff, Int.reduceToNat, Int.reduceLT, Int.reduceLE, Int.reduceEq, beq_self_eq_true, hk']
          rw [bad (by simp only [fewAt, h5, Bool.true_and, decide_eq_false_iff_not]; omega)]
        · have h6 := of_decide_eq_false h6
          simp only [go_sem, Nat.reduceAdd, Nat.reduceSub, Nat.reduceMul, Nat.reduceLT, Nat.reduceLeDiff, ↓reduceIte, reduceCtorEq, Nat.reduceEqDiff, Int.reduceToNat, Int.reduceLT, Int.reduceLE, Int.reduceEq, beq_self_eq_true, hk', wrapNat k (by omega)]
          refine ⟨l.length - (k + 1), by omega, k + 1, reg_intro rfl rfl ⟨rfl, by omega, .inr hl4, by omega, fun p hpk => ?_⟩⟩
          by_cases e : p = k
          · subst e; simp only [fewAt, h5, Bool.true_and, decide_eq_true_eq]; omega
          · exact hp p (by omega)
    · have hl4 : ¬ l.length ≤ 40 := by have := of_decide_eq_false h4; omega
      simp only [go_sem, Nat.reduceAdd, Nat.reduceSub, Nat.reduceMul, Nat.reduceLT, Nat.reduceLeDiff, ↓reduceIte, reduceCtorEq, Nat.reduceEqDiff, Int.reduceToNat, Int.reduceLT, Int.reduceLE, Int.reduceEq, beq_self_eq_true, last hl4, h4]
  · have hi := of_decide_eq_false hc
    obtain rfl : k = l.length := by omega
    simp only [go_sem, Nat.reduceAdd, Nat.reduceSub, Nat.reduceMul, Nat.reduceLT, Nat.reduceLeDiff, ↓reduceIte, reduceCtorEq, Nat.reduceEqDiff, Int.reduceToNat, Int.reduceLT, Int.reduceLE, Int.reduceEq, beq_self_eq_true, hc]
    by_cases h4 : l.length ≤ 40
    · have : fewTx l = true := by
        simp only [fewTx, decide_eq_true h4, Bool.true_and, List.all_eq_true, List.mem_range]
        exact hp
      rw [this, decide_eq_true (by omega)]
    · rw [last h4, decide_eq_false (by omega)]
end Go.Ab
