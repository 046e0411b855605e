/- Transactions: which may be; the document's functions. Conditions: none. -/
import Derived.Test.YtjafmlbcjhoflaaGreatOpA
open Nat (reduceAdd reduceSub reduceMul reduceLT reduceLeDiff reduceEqDiff)
open Int (reduceToNat reduceLE reduceEq)
set_option linter.unusedSimpArgs false
namespace Go.Ab
open Go.Proofs

def vok (n : Int) : Bool := decide (0 ≤ n) && decide (n ≤ 1048576)
def vcheck (v : List Int) : Bool := decide (v.getD 0 0 = 0) && (List.range 13).all fun p => vok (v.getD p 0)
theorem vcheck_iff (v : List Int) : vcheck v = true ↔ v.getD 0 0 = 0 ∧ ∀ p, p < 13 → vok (v.getD p 0) = true := by
  simp only [vcheck, Bool.and_eq_true, decide_eq_true_eq, List.all_eq_true, List.mem_range]
theorem vcheck_not {v : List Int} (h : ¬ (v.getD 0 0 = 0 ∧ ∀ p, p < 13 → vok (v.getD p 0) = true)) : vcheck v = false := by
  rw [← vcheck_iff] at h; simpa using h


theorem ref_check (v : List Int) (hv : v.length = 13) : PSpec Tryz.prog CT 82 [ints v] (· = .bool (vcheck v)) := by
  refine PSpec.of hT Tryz.func82 rfl (by kernel_rfl) rfl rfl ?_
  simp only [Tryz.f82, go_sem, reduceAdd, reduceSub, reduceMul, reduceLT, reduceLeDiff, ↓reduceIte, reduceCtorEq, reduceEqDiff, reduceToNat, Int.reduceLT, reduceLE, reduceEq, hv]
  refine awp_loop (fun n s => ∃ (k : Nat) (g : Nat → D), s = ⟨[ints v, .ptr 0 [], .lit (.bool false), .lit (.int .i64 k), g 4, g 5, g 6, g 7, g 8, g 9, g 10, g 11, g 12, g 13, g 14, g 15, g 16, g 17, g 18, g 19, g 20], ⟨[(.arr 13 .leaf, ints v)], []⟩⟩ ∧ n = 13 - k ∧ 1 ≤ k ∧ k ≤ 13 ∧ ∀ p, 1 ≤ p → p < k → vok (v.getD p 0) = true) 12 ⟨1, reg_intro rfl rfl ⟨by simp, by omega, by omega, by omega⟩⟩ ?_
  rintro n s ⟨k, g, rfl, hn, hk0, hk, hp⟩
  simp only [go_sem, reduceAdd, reduceSub, reduceMul, reduceLT, reduceLeDiff, ↓reduceIte, reduceCtorEq, reduceEqDiff, reduceToNat, Int.reduceLT, reduceLE, reduceEq, hv]
  refine condK_split (fun hc => ?_) (fun hc => ?_)
  · have hi := of_decide_eq_true hc
    have hk' : k < 13 := by omega
    simp only [go_sem, reduceAdd, reduceSub, reduceMul, reduceLT, reduceLeDiff, ↓reduceIte, reduceCtorEq, reduceEqDiff, reduceToNat, Int.reduceLT, reduceLE, reduceEq, hv, hk', hi, wrapNat k (by omega)]
    have bad : vok (v.getD k 0) = false → vcheck v = false := fun h => by
      refine vcheck_not fun hh => ?_; rw [hh.2 k hk'] at h; cases h
    refine guardK_split (fun h1 => ?_) (fun h1 => ?_)
    · simp only [go_sem, reduceAdd, reduceSub, reduceMul, reduceLT, reduceLeDiff, ↓reduceIte, reduceCtorEq, reduceEqDiff, reduceToNat, Int.reduceLT, reduceLE, reduceEq, hv, hk', hi, h1, bad (by simp only [vok, Bool.and_eq_false_iff, decide_eq_false_iff_not]; have := of_decide_eq_true h1; omega)]
    · simp only [go_sem, reduceAdd, reduceSub, reduceMul, reduceLT, reduceLeDiff, ↓reduceIte, reduceCtorEq, reduceEqDiff, reduceToNat, Int.reduceLT, reduceLE, reduceEq, hv, hk', hi, h1]
      refine condK_split (fun h2 => ?_) (fun h2 => ?_)
      · simp only [go_sem, reduceAdd, reduceSub, reduceMul, reduceLT, reduceLeDiff, ↓reduceIte, reduceCtorEq, reduceEqDiff, reduceToNat, Int.reduceLT, reduceLE, reduceEq, hv, hk', hi, h1, h2, bad (by simp only [vok, Bool.and_eq_false_iff, decide_eq_false_iff_not]; have := of_decide_eq_true h2; omega)]
      · simp only [go_sem, reduceAdd, reduceSub, reduceMul, reduceLT, reduceLeDiff, ↓reduceIte, reduceCtorEq, reduceEqDiff, reduceToNat, Int.reduceLT, reduceLE, reduceEq, hv, hk', hi, h1, h2, wrapNat k (by omega)]
        have e1 := of_decide_eq_false h1
        have e2 := of_decide_eq_false h2
        refine ⟨13 - (k + 1), by omega, k + 1, reg_intro rfl rfl ⟨rfl, by omega, by omega, fun p h0 h => ?_⟩⟩
        by_cases hpk : p = k
        · subst hpk; simp only [vok, Bool.and_eq_true, decide_eq_true_eq]; omega
        · exact hp p h0 (by omega)
  · have hi := of_decide_eq_false hc
    obtain rfl : k = 13 := by omega
    simp only [go_sem, reduceAdd, reduceSub, reduceMul, reduceLT, reduceLeDiff, ↓reduceIte, reduceCtorEq, reduceEqDiff, reduceToNat, Int.reduceLT, reduceLE, reduceEq, hv]
    congr 2
    rw [Bool.eq_iff_iff, decide_eq_true_eq, vcheck_iff]
    refine ⟨fun h => ⟨h, fun p hp' => ?_⟩, fun h => h.1⟩
    by_cases hpk : p = 0
    · subst hpk; rw [h]; rfl
    · exact hp p (by omega) hp'


abbrev txSh : Sh := .pair (.pair .leaf (.pair .leaf .unit)) (.pair (.arr 13 .leaf) (.pair .leaf (.pair .leaf .unit)))
abbrev markSh : Sh := .pair (.pair .leaf (.pair .leaf .unit)) (.pair .leaf .unit)
theorem getD_ops (l : List OpR) (k : Nat) (z : OpR) (h : (k < l.length) = True) : (l.map opD)[k]? = some (opD (l.getD k z)) := by
  have h := of_eq_true h
  simp [h]
instance : Inhabited OpR := ⟨⟨0, ⟨#[]⟩, ⟨#[]⟩, 0, 0, 0, ⟨#[]⟩, 0, 0, 0⟩⟩
def opAt (t : TxR) (k : Nat) : OpR := t.ops.getD k default
theorem get_ops (t : TxR) (k : Nat) (h : (k < t.ops.length) = True) : (t.ops.map opD)[k]? = some (opD (opAt t k)) := getD_ops _ _ _ h
theorem pureL_ops (l : List OpR) : pureL (l.map opD) = True := pureL_map _ _ fun _ => by simp [pureD, pureL]
def opOk (t : TxR) (k : Nat) : Bool := checkOp (opAt t k) && (noRef (opAt t k) || before (opAt t k).rp (opAt t k).rs (opAt t k).ri t ((k + 1 : Nat) : Int))
def restOk (t : TxR) : Bool := vcheck t.deps && decide (1 ≤ t.time) && decide (t.time ≤ 1099511627776) && decide ((t.ops.length : Int) ≤ 16) && (List.range t.ops.length).all fun k => opOk t k
theorem restOk_not {t : TxR} {k : Nat} (hk : k < t.ops.length) (h : opOk t k = false) : restOk t = false := by
  have : ((List.range t.ops.length).all fun k => opOk t k) = false := by
    rw [List.all_eq_false]
    exact ⟨k, List.mem_range.2 hk, by rw [h]; simp⟩
  simp [restOk, this]

set_option maxRecDepth 8000 in
theorem ref_rest (t : TxR) (hd : t.deps.length = 13) : PSpec Tryz.prog CT 112 [txD t] (· = .bool (restOk t)) := by
  refine PSpec.of hT Tryz.func112 rfl (by kernel_rfl) rfl rfl ?_
  simp only [Tryz.f112, go_sem, reduceAdd, reduceSub, reduceMul, reduceLT, reduceLeDiff, ↓reduceIte, reduceCtorEq, reduceEqDiff, reduceToNat, Int.reduceLT, reduceLE, reduceEq, hd]
  refine callK_pure (ref_check t.deps hd) (by simp only [go_sem, hd]) (by simp only [go_sem, hd]) ?_; simp only [go_sem, reduceAdd, reduceSub, reduceMul, reduceLT, reduceLeDiff, ↓reduceIte, reduceCtorEq, reduceEqDiff, reduceToNat, Int.reduceLT, reduceLE, reduceEq, hd]
  (repeat' (first | ((refine guardK_split (fun hg => ?_) (fun hg => ?_)) <;> (try simp only [go_sem, reduceAdd, reduceSub, reduceMul, reduceLT, reduceLeDiff, ↓reduceIte, reduceCtorEq, reduceEqDiff, reduceToNat, Int.reduceLT, reduceLE, reduceEq, hg, hd])) | ((refine condK_split (fun hg => ?_) (fun hg => ?_)) <;> (try simp only [go_sem, reduceAdd, reduceSub, reduceMul, reduceLT, reduceLeDiff, ↓reduceIte, reduceCtorEq, reduceEqDiff, reduceToNat, Int.reduceLT, reduceLE, reduceEq, hg, hd])) | ((refine Or.inl ⟨by kernel_rfl, ?_⟩) <;> (try simp only [go_sem, reduceAdd, reduceSub, reduceMul, reduceLT, reduceLeDiff, ↓reduceIte, reduceCtorEq, reduceEqDiff, reduceToNat, Int.reduceLT, reduceLE, reduceEq, hd])))) <;> (first | done | (simp_all [restOk]; done) | (simp_all [restOk]; omega) | (simp_all [restOk]; intros; omega) | (simp_all [restOk]; grind) | skip)
  have ha : restOk t = (List.range t.ops.length).all fun k => opOk t k := by simp_all [restOk]
  have hl : t.ops.length ≤ 16 := by have := of_decide_eq_false hg; omega
  refine awp_loop (fun n s => ∃ (k : Nat) (ex : List (Sh × D)) (g : Nat → D), s = ⟨[txD t, .ptr 0 [], g 2, .ptr 1 [], .lit (.int .i64 k), g 5, g 6, g 7, g 8, g 9, g 10, g 11, g 12, g 13, g 14, g 15, g 16, g 17, g 18, g 19, g 20, g 21, g 22, g 23, g 24, g 25, g 26, g 27, g 28, g 29, g 30, g 31, g 32, g 33, g 34, g 35, g 36, g 37, g 38, g 39, g 40, g 41, g 42, g 43, g 44, g 45, g 46, g 47, g 48, g 49, g 50, g 51, g 52, g 53, g 54, g 55, g 56], ⟨(txSh, txD t) :: (markSh, markD 0 0 0) :: ex, []⟩⟩ ∧ n = t.ops.length - k ∧ k ≤ t.ops.length ∧ ∀ p, p < k → opOk t p = true) t.ops.length ⟨0, _, reg_intro rfl rfl ⟨by simp, by omega, by simp⟩⟩ ?_
  rintro n s ⟨k, ex, g, rfl, hn, hk, hp⟩
  simp only [go_sem, reduceAdd, reduceSub, reduceMul, reduceLT, reduceLeDiff, ↓reduceIte, reduceCtorEq, reduceEqDiff, reduceToNat, Int.reduceLT, reduceLE, reduceEq, hd]
  refine condK_split (fun hc => ?_) (fun hc => ?_)
  · have hk' : k < t.ops.length := by have := of_decide_eq_true hc; omega
    have next : opOk t k = true → ∀ p, p < k + 1 → opOk t p = true := fun h p hpk => by
      by_cases e : p = k
      · subst e; exact h
      · exact hp p (by omega)
    have bad : opOk t k = false → restOk t = false := restOk_not hk'
    simp only [go_sem, reduceAdd, reduceSub, reduceMul, reduceLT, reduceLeDiff, ↓reduceIte, reduceCtorEq, reduceEqDiff, reduceToNat, Int.reduceLT, reduceLE, reduceEq, hd, hk', get_ops]
    (repeat' (first | ((refine guardK_split (fun hg => ?_) (fun hg => ?_)) <;> (try simp only [go_sem, reduceAdd, reduceSub, reduceMul, reduceLT, reduceLeDiff, ↓reduceIte, reduceCtorEq, reduceEqDiff, reduceToNat, Int.reduceLT, reduceLE, reduceEq, hg, hd, hk', eqB_cons, eqB_nil, eqB_int, Bool.and_true, wrapNat k (by omega)])) | ((refine condK_split (fun hg => ?_) (fun hg => ?_)) <;> (try simp only [go_sem, reduceAdd, reduceSub, reduceMul, reduceLT, reduceLeDiff, ↓reduceIte, reduceCtorEq, reduceEqDiff, reduceToNat, Int.reduceLT, reduceLE, reduceEq, hg, hd, hk', eqB_cons, eqB_nil, eqB_int, Bool.and_true, wrapNat k (by omega)])) | ((first | refine callK_pure (ref_checkOp (opAt t k)) ?_ ?_ ?_ | refine callD_pure (ref_checkOp (opAt t k)) ?_ ?_ ?_); (iterate 2 (focus (first | rfl | (simp only [go_sem, hd, hk', eqB_cons, eqB_nil, eqB_int, Bool.and_true, wrapNat k (by omega)]; done)))); try simp only [go_sem, reduceAdd, reduceSub, reduceMul, reduceLT, reduceLeDiff, ↓reduceIte, reduceCtorEq, reduceEqDiff, reduceToNat, Int.reduceLT, reduceLE, reduceEq, hd, hk', eqB_cons, eqB_nil, eqB_int, Bool.and_true, wrapNat k (by omega)]) | ((first | refine callK_pure (ref_before (opAt t k).rp (opAt t k).rs (opAt t k).ri t ((k + 1 : Nat) : Int) hd) ?_ ?_ ?_ | refine callD_pure (ref_before (opAt t k).rp (opAt t k).rs (opAt t k).ri t ((k + 1 : Nat) : Int) hd) ?_ ?_ ?_); (iterate 2 (focus (first | rfl | (simp only [go_sem, hd, hk', eqB_cons, eqB_nil, eqB_int, Bool.and_true, wrapNat k (by omega)]; done)))); try simp only [go_sem, reduceAdd, reduceSub, reduceMul, reduceLT, reduceLeDiff, ↓reduceIte, reduceCtorEq, reduceEqDiff, reduceToNat, Int.reduceLT, reduceLE, reduceEq, hd, hk', eqB_cons, eqB_nil, eqB_int, Bool.and_true, wrapNat k (by omega)]) | ((refine Or.inl ⟨by kernel_rfl, ?_⟩) <;> (try simp only [go_sem, reduceAdd, reduceSub, reduceMul, reduceLT, reduceLeDiff, ↓reduceIte, reduceCtorEq, reduceEqDiff, reduceToNat, Int.reduceLT, reduceLE, reduceEq, hd, hk', eqB_cons, eqB_nil, eqB_int, Bool.and_true, wrapNat k (by omega)])))) <;> (first | done | (rw [bad (by first | (simp_all [opOk, noRef]; done) | (simp_all [opOk, noRef]; intros; omega))]) | exact ⟨t.ops.length - (k + 1), by omega, k + 1, _, reg_intro rfl rfl ⟨rfl, by omega, next (by first | (simp_all [opOk, noRef]; done) | (simp_all [opOk, noRef]; intros; omega))⟩⟩)
  · have hi := of_decide_eq_false hc
    obtain rfl : k = t.ops.length := by omega
    have : restOk t = true := by rw [ha, List.all_eq_true]; exact fun p h => hp p (List.mem_range.1 h)
    simp only [go_sem, reduceAdd, reduceSub, reduceMul, reduceLT, reduceLeDiff, ↓reduceIte, reduceCtorEq, reduceEqDiff, reduceToNat, Int.reduceLT, reduceLE, reduceEq, hd, this]

def checkTx (t : TxR) : Bool := dotOk t.peer t.seq && decide (1 ≤ (t.ops.length : Int)) && restOk t && decide (t.deps.getD t.peer.toNat 0 < t.seq)
set_option maxRecDepth 8000 in
theorem ref_checkTx (t : TxR) (hd : t.deps.length = 13) : PSpec Tryz.prog CT 81 [txD t] (· = .bool (checkTx t)) := by
  refine PSpec.of hT Tryz.func81 rfl (by kernel_rfl) rfl rfl ?_
  simp only [Tryz.f81, go_sem, reduceAdd, reduceSub, reduceMul, reduceLT, reduceLeDiff, ↓reduceIte, reduceCtorEq, reduceEqDiff, reduceToNat, Int.reduceLT, reduceLE, reduceEq, hd]
  refine .inl ⟨by kernel_rfl, ?_⟩
  cases hv : vpeer t.peer with
  | false =>
    refine callD_pure (ref_peer t.peer) (by simp only [go_sem, hd, hv]) (by simp only [go_sem, hd, hv]) ?_; simp only [go_sem, reduceAdd, reduceSub, reduceMul, reduceLT, reduceLeDiff, ↓reduceIte, reduceCtorEq, reduceEqDiff, reduceToNat, Int.reduceLT, reduceLE, reduceEq, hd, hv]
    simp [checkTx, dotOk, hv]
  | true =>
    obtain ⟨h0, h1⟩ := vpeer_of hv
    refine callD_pure (ref_peer t.peer) (by simp only [go_sem, hd, hv]) (by simp only [go_sem, hd, hv]) ?_; simp only [go_sem, reduceAdd, reduceSub, reduceMul, reduceLT, reduceLeDiff, ↓reduceIte, reduceCtorEq, reduceEqDiff, reduceToNat, Int.reduceLT, reduceLE, reduceEq, hd, hv]
    (repeat' (first | ((refine guardK_split (fun hg => ?_) (fun hg => ?_)) <;> (try simp only [go_sem, reduceAdd, reduceSub, reduceMul, reduceLT, reduceLeDiff, ↓reduceIte, reduceCtorEq, reduceEqDiff, reduceToNat, Int.reduceLT, reduceLE, reduceEq, hg, hd, hv, h0, h1])) | ((refine condK_split (fun hg => ?_) (fun hg => ?_)) <;> (try simp only [go_sem, reduceAdd, reduceSub, reduceMul, reduceLT, reduceLeDiff, ↓reduceIte, reduceCtorEq, reduceEqDiff, reduceToNat, Int.reduceLT, reduceLE, reduceEq, hg, hd, hv, h0, h1])) | ((first | refine callK_pure (ref_rest t hd) ?_ ?_ ?_ | refine callD_pure (ref_rest t hd) ?_ ?_ ?_); (iterate 2 (focus (first | rfl | (simp only [go_sem, hd, hv, h0, h1]; done)))); try simp only [go_sem, reduceAdd, reduceSub, reduceMul, reduceLT, reduceLeDiff, ↓reduceIte, reduceCtorEq, reduceEqDiff, reduceToNat, Int.reduceLT, reduceLE, reduceEq, hd, hv, h0, h1]) | ((refine Or.inl ⟨by kernel_rfl, ?_⟩) <;> (try simp only [go_sem, reduceAdd, reduceSub, reduceMul, reduceLT, reduceLeDiff, ↓reduceIte, reduceCtorEq, reduceEqDiff, reduceToNat, Int.reduceLT, reduceLE, reduceEq, hd, hv, h0, h1])))) <;> (first | done | (simp_all [checkTx, dotOk]; done) | (simp_all [checkTx, dotOk]; omega) | (simp_all [checkTx, dotOk]; intros; omega) | (simp_all [checkTx, dotOk]; grind))
end Go.Ab
