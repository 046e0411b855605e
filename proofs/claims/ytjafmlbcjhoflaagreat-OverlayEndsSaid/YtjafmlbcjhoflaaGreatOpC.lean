/- Transactions: which may be; the document's functions. Conditions: none. -/
import Derived.Test.YtjafmlbcjhoflaaGreatOpA
set_option linter.unusedSimpArgs false
namespace Go.Ab
open Go.Proofs

def vok (n : Int) : Bool := decide (0 ≤ n) && decide (n ≤ 1048576)
def vcheck (v : List Int) : Bool := decide (v.getD 0 0 = 0) && (List.range 13).all fun p => vok (v.getD p 0)
theorem vcheck_iff (v : List Int) : vcheck v = true ↔ v.getD 0 0 = 0 ∧ ∀ p, p < 13 → vok (v.getD p 0) = true := by
  simp only [vcheck, Bool.and_eq_true, decide_eq_true_eq, List.all_eq_true, List.mem_range]
theorem vcheck_not {v : List Int} (h : ¬ (v.getD 0 0 = 0 ∧ ∀ p, p < 13 → vok (v.getD p 0) = true)) : vcheck v = false := by
  rw [← vcheck_iff] at h; simpa using h


theorem ref_check (v : List Int) (hv : v.length = 13) : PSpec Tryz.prog CT 82 [ints v] (· = .bool (vcheck v)) := by
  refine PSpec.of hT Tryz.func82 rfl (by kernel_rfl) rfl rfl ?_
  simp only [Tryz.f82, go_sem, Nat.reduceAdd, Nat.reduceSub, Nat.reduceMul, Nat.reduceLT, Nat.reduceLeDiff, ↓reduceIte, reduceCtorEq, Nat.reduceEqDiff, Int.reduceToNat, Int.reduceLT, Int.reduceLE, Int.reduceEq, beq_self_eq_true, hv]
  refine awp_loop (fun n s => ∃ (k : Nat) (g : Nat → D), s = ⟨[ints v, .ptr 0 [], .lit (.bool false), .lit (.int .i64 k), g 4, g 5, g 6, g 7, g 8, g 9, g 10, g 11, g 12, g 13, g 14, g 15, g 16, g 17, g 18, g 19, g 20], ⟨[(.arr 13 .leaf, ints v)], []⟩⟩ ∧ n = 13 - k ∧ 1 ≤ k ∧ k ≤ 13 ∧ ∀ p, 1 ≤ p → p < k → vok (v.getD p 0) = true) 12 ⟨1, reg_intro rfl rfl ⟨by simp, by omega, by omega, by omega⟩⟩ ?_
  rintro n s ⟨k, g, rfl, hn, hk0, hk, hp⟩
  simp only [go_sem, Nat.reduceAdd, Nat.reduceSub, Nat.reduceMul, Nat.reduceLT, Nat.reduceLeDiff, ↓reduceIte, reduceCtorEq, Nat.reduceEqDiff, Int.reduceToNat, Int.reduceLT, Int.reduceLE, Int.reduceEq, beq_self_eq_true, hv]
  refine condK_split (fun hc => ?_) (fun hc => ?_)
  · have hi := of_decide_eq_true hc
    have hk' : k < 13 := by omega
    simp only [go_sem, Nat.reduceAdd, Nat.reduceSub, Nat.reduceMul, Nat.reduceLT, Nat.reduceLeDiff, ↓reduceIte, reduceCtorEq, Nat.reduceEqDiff, Int.reduceToNat, Int.reduceLT, Int.reduceLE, Int.reduceEq, beq_self_eq_true, hv, hk', hi, wrapNat k (by omega)]
    have bad : vok (v.getD k 0) = false → vcheck v = false := fun h => by
      refine vcheck_not fun hh => ?_; rw [hh.2 k hk'] at h; cases h
    refine guardK_split (fun h1 => ?_) (fun h1 => ?_)
    · simp only [go_sem, Nat.reduceAdd, Nat.reduceSub, Nat.reduceMul, Nat.reduceLT, Nat.reduceLeDiff, ↓reduceIte, reduceCtorEq, Nat.reduceEqDiff, Int.reduceToNat, Int.reduceLT, Int.reduceLE, Int.reduceEq, beq_self_eq_true, hv, hk', hi, h1, bad (by simp only [vok, Bool.and_eq_false_iff, decide_eq_false_iff_not]; have := of_decide_eq_true h1; omega)]
    · simp only [go_sem, Nat.reduceAdd, Nat.reduceSub, Nat.reduceMul, Nat.reduceLT, Nat.reduceLeDiff, ↓reduceIte, reduceCtorEq, Nat.reduceEqDiff, Int.reduceToNat, Int.reduceLT, Int.reduceLE, Int.reduceEq, beq_self_eq_true, hv, hk', hi, h1]
      refine condK_split (fun h2 => ?_) (fun h2 => ?_)
      · simp only [go_sem, Nat.reduceAdd, Nat.reduceSub, Nat.reduceMul, Nat.reduceLT, Nat.reduceLeDiff, ↓reduceIte, reduceCtorEq, Nat.reduceEqDiff, Int.reduceToNat, Int.reduceLT, Int.reduceLE, Int.reduceEq, beq_self_eq_true, hv, hk', hi, h1, h2, bad (by simp only [vok, Bool.and_eq_false_iff, decide_eq_false_iff_not]; have := of_decide_eq_true h2; omega)]
      · simp only [go_sem, Nat.reduceAdd, Nat.reduceSub, Nat.reduceMul, Nat.reduceLT, Nat.reduceLeDiff, ↓reduceIte, reduceCtorEq, Nat.reduceEqDiff, Int.reduceToNat, Int.reduceLT, Int.reduceLE, Int.reduceEq, beq_self_eq_true, hv, hk', hi, h1, h2, wrapNat k (by omega)]
        have e1 := of_decide_eq_false h1
        have e2 := of_decide_eq_false h2
        refine ⟨13 - (k + 1), by omega, k + 1, reg_intro rfl rfl ⟨rfl, by omega, by omega, fun p h0 h => ?_⟩⟩
        by_cases hpk : p = k
        · subst hpk; simp only [vok, Bool.and_eq_true, decide_eq_true_eq]; omega
        · exact hp p h0 (by omega)
  · have hi := of_decide_eq_false hc
    obtain rfl : k = 13 := by omega
    simp only [go_sem, Nat.reduceAdd, Nat.reduceSub, Nat.reduceMul, Nat.reduceLT, Nat.reduceLeDiff, ↓reduceIte, reduceCtorEq, Nat.reduceEqDiff, Int.reduceToNat, Int.reduceLT, Int.reduceLE, Int.reduceEq, beq_self_eq_true, hv]
    congr 2
    rw [Bool.eq_iff_iff, decide_eq_true_eq, vcheck_iff]
    refine ⟨fun h => ⟨h, fun p hp' => ?_⟩, fun h => h.1⟩
    by_cases hpk : p = 0
    · subst hpk; rw [h]; rfl
    · exact hp p (by omega) hp'


abbrev txSh : Sh := .pair (.pair .leaf (.pair .leaf .unit)) (.pair (.arr 13 .leaf) (.pair .leaf (.pair .leaf .unit)))
abbrev markSh : Sh := .pair (.pair .leaf (.pair .leaf .unit)) (.pair .leaf .unit)
theorem getD_ops (l : List OpR) (k : Nat) (z : OpR) (h : (k < l.length) = True) : (l.map opD)[k]? = some (opD (l.getD k z)) := by
  have h := of_eq_true h
  simp [h]
instance : Inhabited OpR := ⟨⟨0, ⟨#[]⟩, ⟨#[]⟩, 0, 0, 0, ⟨#[]⟩, 0, 0, 0⟩⟩
def opAt (t : TxR) (k : Nat) : OpR := t.ops.getD k default
theorem get_ops (t : TxR) (k : Nat) (h : (k < t.ops.length) = True) : (t.ops.map opD)[k]? = some (opD (opAt t k)) := getD_ops _ _ _ h
theorem pureL_ops (l : List OpR) : pureL (l.map opD) = True := pureL_map _ _ fun _ => by simp [pureD, pureL]
def opOk (t : TxR) (k : Nat) : Bool := checkOp (opAt t k) && (noRef (opAt t k) || before (opAt t k).rp (opAt t k).rs (opAt t k).ri t ((k + 1 : Nat) : Int))
def restOk (t : TxR) : Bool := vcheck t.deps && decide (1 ≤ t.time) && decide (t.time ≤ 1099511627776) && decide ((t.ops.length : Int) ≤ 16) && (List.range t.ops.length).all fun k => opOk t k
theorem restOk_not {t : TxR} {k : Nat} (hk : k < t.ops.length) (h : opOk t k = false) : restOk t = false := by
  have : ((List.range t.ops.length).all fun k => opOk t k) = false := by
    rw [List.all_eq_false]
    exact ⟨k, List.mem_range.2 hk, by rw [h]; simp⟩
  simp [restOk, this]


def checkTx (t : TxR) : Bool := dotOk t.peer t.seq && decide (1 ≤ (t.ops.length : Int)) && restOk t && decide (t.deps.getD t.peer.toNat 0 < t.seq)
end Go.Ab
