/- Transactions of few ops: the document's function. Conditions: none. -/
import Derived.Test.YtjafmlbcjhoflaaGreatOpC
set_option linter.unusedSimpArgs false
namespace Go.Ab
open Go.Proofs

def smallTx (t : TxR) : Bool := decide (t.ops.length ≤ 40) && (List.range t.ops.length).all fun k => decide (((opAt t k).key.size : Int) ≤ 100) && decide (((opAt t k).field.size : Int) ≤ 100) && decide (((opAt t k).text.size : Int) ≤ 100)
def smallAt (t : TxR) (k : Nat) : Bool := decide (((opAt t k).key.size : Int) ≤ 100) && decide (((opAt t k).field.size : Int) ≤ 100) && decide (((opAt t k).text.size : Int) ≤ 100)
theorem smallTx_not {t : TxR} {k : Nat} (hk : k < t.ops.length) (h : smallAt t k = false) : smallTx t = false := by
  have : ((List.range t.ops.length).all fun k => decide (((opAt t k).key.size : Int) ≤ 100) && decide (((opAt t k).field.size : Int) ≤ 100) && decide (((opAt t k).text.size : Int) ≤ 100)) = false := by
    rw [List.all_eq_false]
    refine ⟨k, List.mem_range.2 hk, ?_⟩
    have h2 := h
    unfold smallAt at h2
    rw [h2]; simp
  simp only [smallTx, this, Bool.and_false]
end Go.Ab
set_option linter.unusedSimpArgs false
namespace Go.Ab
open Go.Proofs

theorem eqB_op (a b : OpR) : eqB (opD a) (opD b) = decide (a = b) := eqB_eq (by
  cases a; cases b
  simp [and_assoc])
theorem eqB_op' (a b : OpR) : eqB (.agg [.lit (.int .i64 a.kind), .lit (.string a.key), .lit (.string a.field), .lit (.int .i64 a.inner), .lit (.int .i64 a.act), .lit (.int .i64 a.n), .lit (.string a.text), markD a.rp a.rs a.ri])
    (.agg [.lit (.int .i64 b.kind), .lit (.string b.key), .lit (.string b.field), .lit (.int .i64 b.inner), .lit (.int .i64 b.act), .lit (.int .i64 b.n), .lit (.string b.text), markD b.rp b.rs b.ri]) = decide (a = b) := eqB_op a b
theorem eqB_vec (a b : List Int) : eqB (ints a) (ints b) = decide (a = b) := eqB_ints a b

set_option maxRecDepth 8000 in
theorem ref_opsEq (a b : List OpR) (ha : a.length < 4000000000) : PSpec Tryz.prog CT 106 [opsD a, opsD b] (· = .bool (decide (a = b))) := by
  refine PSpec.of hT Tryz.func106 rfl (by kernel_rfl) rfl rfl ?_
  simp only [Tryz.f106, go_sem, Nat.reduceAdd, Nat.reduceSub, Nat.reduceMul, Nat.reduceLT, Nat.reduceLeDiff, ↓reduceIte, reduceCtorEq, Nat.reduceEqDiff, Int.reduceToNat, Int.reduceLT, Int.reduceLE, Int.reduceEq, beq_self_eq_true]
  refine condK_split (fun hc => ?_) (fun hc => ?_)
  · have : a ≠ b := by rintro rfl; simp at hc
    simp only [go_sem, Nat.reduceAdd, Nat.reduceSub, Nat.reduceMul, Nat.reduceLT, Nat.reduceLeDiff, ↓reduceIte, reduceCtorEq, Nat.reduceEqDiff, Int.reduceToNat, Int.reduceLT, Int.reduceLE, Int.reduceEq, beq_self_eq_true, decide_eq_false this]
  · have hl : a.length = b.length := by simp only [Bool.not_eq_false', decide_eq_true_eq] at hc; omega
    simp only [go_sem, Nat.reduceAdd, Nat.reduceSub, Nat.reduceMul, Nat.reduceLT, Nat.reduceLeDiff, ↓reduceIte, reduceCtorEq, Nat.reduceEqDiff, Int.reduceToNat, Int.reduceLT, Int.reduceLE, Int.reduceEq, beq_self_eq_true]
    refine awp_loop (fun n s => ∃ (k : Nat) (g : Nat → D), s = ⟨[opsD a, opsD b, g 2, g 3, g 4, .lit (.int .i64 k), g 6, g 7, g 8, g 9, g 10, g 11, g 12, g 13, g 14, g 15, g 16, g 17, g 18, g 19, g 20, g 21, g 22, g 23, g 24, g 25], ⟨[], []⟩⟩ ∧ n = a.length - k ∧ k ≤ a.length ∧ ∀ p, p < k → a.getD p default = b.getD p default) a.length ⟨0, reg_intro rfl rfl ⟨by simp, by omega, by simp⟩⟩ ?_
    rintro n s ⟨k, g, rfl, hn, hk, hp⟩
    simp only [go_sem, Nat.reduceAdd, Nat.reduceSub, Nat.reduceMul, Nat.reduceLT, Nat.reduceLeDiff, ↓reduceIte, reduceCtorEq, Nat.reduceEqDiff, Int.reduceToNat, Int.reduceLT, Int.reduceLE, Int.reduceEq, beq_self_eq_true]
    refine condK_split (fun hc => ?_) (fun hc => ?_)
    · have hk' : k < a.length := by have := of_decide_eq_true hc; omega
      have hk2 : k < b.length := by omega
      simp only [go_sem, Nat.reduceAdd, Nat.reduceSub, Nat.reduceMul, Nat.reduceLT, Nat.reduceLeDiff, ↓reduceIte, reduceCtorEq, Nat.reduceEqDiff, Int.reduceToNat, Int.reduceLT, Int.reduceLE, Int.reduceEq, beq_self_eq_true, hk', hk2, getD_ops _ _ default]
      refine .inl ⟨by kernel_rfl, condK_split (fun h1 => ?_) (fun h1 => ?_)⟩
      · rw [eqB_op'] at h1
        have : a ≠ b := by rintro rfl; simp at h1
        simp only [go_sem, Nat.reduceAdd, Nat.reduceSub, Nat.reduceMul, Nat.reduceLT, Nat.reduceLeDiff, ↓reduceIte, reduceCtorEq, Nat.reduceEqDiff, Int.reduceToNat, Int.reduceLT, Int.reduceLE, Int.reduceEq, beq_self_eq_true, decide_eq_false this]
      · rw [eqB_op'] at h1
        simp only [Bool.not_eq_false', decide_eq_true_eq] at h1
        simp only [go_sem, Nat.reduceAdd, Nat.reduceSub, Nat.reduceMul, Nat.reduceLT, Nat.reduceLeDiff, ↓reduceIte, reduceCtorEq, Nat.reduceEqDiff, Int.reduceToNat, Int.reduceLT, Int.reduceLE, Int.reduceEq, beq_self_eq_true, wrapNat k (by omega)]
        refine ⟨a.length - (k + 1), by omega, k + 1, reg_intro rfl rfl ⟨rfl, by omega, fun p h => ?_⟩⟩
        by_cases hpk : p = k
        · subst hpk; exact h1
        · exact hp p (by omega)
    · have hi := of_decide_eq_false hc
      obtain rfl : k = a.length := by omega
      have : a = b := List.ext_getElem hl fun i h1 h2 => by
        have := hp i h1
        simpa [List.getD_eq_getElem?_getD, h1, h2] using this
      simp only [go_sem, Nat.reduceAdd, Nat.reduceSub, Nat.reduceMul, Nat.reduceLT, Nat.reduceLeDiff, ↓reduceIte, reduceCtorEq, Nat.reduceEqDiff, Int.reduceToNat, Int.reduceLT, Int.reduceLE, Int.reduceEq, beq_self_eq_true, decide_eq_true this]

def sameTx (a b : TxR) : Bool := decide (a.peer = b.peer) && decide (a.seq = b.seq) && decide (a.deps = b.deps) && decide (a.time = b.time) && decide (a.ops = b.ops)
set_option maxRecDepth 8000 in
theorem ref07_same (a b : TxR) (ha : a.deps.length = 13) (hb : b.deps.length = 13) (hl : a.ops.length < 4000000000) : PSpec Tryz.prog CT 72 [txD a, txD b] (· = .bool (sameTx a b)) := by
  refine PSpec.of hT Tryz.func72 rfl (by kernel_rfl) rfl rfl ?_
  simp only [Tryz.f72, go_sem, Nat.reduceAdd, Nat.reduceSub, Nat.reduceMul, Nat.reduceLT, Nat.reduceLeDiff, ↓reduceIte, reduceCtorEq, Nat.reduceEqDiff, Int.reduceToNat, Int.reduceLT, Int.reduceLE, Int.reduceEq, beq_self_eq_true, ha, hb]
  (repeat' (first | ((refine guardK_split (fun hg => ?_) (fun hg => ?_)) <;> (try simp only [go_sem, Nat.reduceAdd, Nat.reduceSub, Nat.reduceMul, Nat.reduceLT, Nat.reduceLeDiff, ↓reduceIte, reduceCtorEq, Nat.reduceEqDiff, Int.reduceToNat, Int.reduceLT, Int.reduceLE, Int.reduceEq, beq_self_eq_true, hg, ha, hb, eqB_cons, eqB_nil, eqB_int, eqB_vec, Bool.and_true, pureL_ops])) | ((refine condK_split (fun hg => ?_) (fun hg => ?_)) <;> (try simp only [go_sem, Nat.reduceAdd, Nat.reduceSub, Nat.reduceMul, Nat.reduceLT, Nat.reduceLeDiff, ↓reduceIte, reduceCtorEq, Nat.reduceEqDiff, Int.reduceToNat, Int.reduceLT, Int.reduceLE, Int.reduceEq, beq_self_eq_true, hg, ha, hb, eqB_cons, eqB_nil, eqB_int, eqB_vec, Bool.and_true, pureL_ops])) | (refine callK_pure (ref_opsEq a.ops b.ops hl) ?_ ?_ ?_; (focus (first | rfl | (simp only [go_sem, Nat.reduceAdd, Nat.reduceSub, Nat.reduceMul, Nat.reduceLT, Nat.reduceLeDiff, ↓reduceIte, reduceCtorEq, Nat.reduceEqDiff, Int.reduceToNat, Int.reduceLT, Int.reduceLE, Int.reduceEq, beq_self_eq_true, ha, hb, eqB_cons, eqB_nil, eqB_int, eqB_vec, Bool.and_true, pureL_ops]; done))); (focus (simp only [go_sem, Nat.reduceAdd, Nat.reduceSub, Nat.reduceMul, Nat.reduceLT, Nat.reduceLeDiff, ↓reduceIte, reduceCtorEq, Nat.reduceEqDiff, Int.reduceToNat, Int.reduceLT, Int.reduceLE, Int.reduceEq, beq_self_eq_true, ha, hb, eqB_cons, eqB_nil, eqB_int, eqB_vec, Bool.and_true, pureL_ops]; done)); try simp only [go_sem, Nat.reduceAdd, Nat.reduceSub, Nat.reduceMul, Nat.reduceLT, Nat.reduceLeDiff, ↓reduceIte, reduceCtorEq, Nat.reduceEqDiff, Int.reduceToNat, Int.reduceLT, Int.reduceLE, Int.reduceEq, beq_self_eq_true, ha, hb, eqB_cons, eqB_nil, eqB_int, eqB_vec, Bool.and_true, pureL_ops]) | (refine callD_pure (ref_opsEq a.ops b.ops hl) ?_ ?_ ?_; (focus (first | rfl | (simp only [go_sem, Nat.reduceAdd, Nat.reduceSub, Nat.reduceMul, Nat.reduceLT, Nat.reduceLeDiff, ↓reduceIte, reduceCtorEq, Nat.reduceEqDiff, Int.reduceToNat, Int.reduceLT, Int.reduceLE, Int.reduceEq, beq_self_eq_true, ha, hb, eqB_cons, eqB_nil, eqB_int, eqB_vec, Bool.and_true, pureL_ops]; done))); (focus (simp only [go_sem, Nat.reduceAdd, Nat.reduceSub, Nat.reduceMul, Nat.reduceLT, Nat.reduceLeDiff, ↓reduceIte, reduceCtorEq, Nat.reduceEqDiff, Int.reduceToNat, Int.reduceLT, Int.reduceLE, Int.reduceEq, beq_self_eq_true, ha, hb, eqB_cons, eqB_nil, eqB_int, eqB_vec, Bool.and_true, pureL_ops]; done)); try simp only [go_sem, Nat.reduceAdd, Nat.reduceSub, Nat.reduceMul, Nat.reduceLT, Nat.reduceLeDiff, ↓reduceIte, reduceCtorEq, Nat.reduceEqDiff, Int.reduceToNat, Int.reduceLT, Int.reduceLE, Int.reduceEq, beq_self_eq_true, ha, hb, eqB_cons, eqB_nil, eqB_int, eqB_vec, Bool.and_true, pureL_ops]) | ((refine Or.inl ⟨by kernel_rfl, ?_⟩) <;> (try simp only [go_sem, Nat.reduceAdd, Nat.reduceSub, Nat.reduceMul, Nat.reduceLT, Nat.reduceLeDiff, ↓reduceIte, reduceCtorEq, Nat.reduceEqDiff, Int.reduceToNat, Int.reduceLT, Int.reduceLE, Int.reduceEq, beq_self_eq_true, ha, hb, eqB_cons, eqB_nil, eqB_int, eqB_vec, Bool.and_true, pureL_ops])))) <;> (first | done | (simp_all [sameTx, eqB_cons, eqB_nil, eqB_int]; done) | (simp_all [sameTx, eqB_cons, eqB_nil, eqB_int]; omega) | (simp_all [sameTx, eqB_cons, eqB_nil, eqB_int]; intros; omega) | (simp_all [sameTx, eqB_cons, eqB_nil, eqB_int]; grind))

end Go.Ab
