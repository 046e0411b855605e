/- What transactions' data look like. Conditions: none. -/
import Derived.Test.YtjafmlbcjhoflaaGreatOpC
open Nat (reduceAdd reduceSub reduceMul reduceLT reduceLeDiff reduceEqDiff)
open Int (reduceToNat reduceLE reduceEq)
set_option linter.unusedSimpArgs false
namespace Go.Ab
open Go.Proofs

theorem inv_mark {d : D} (h : HasTy CT 87 d) : ∃ p s i, d = markD p s i := by
  obtain ⟨l, rfl, hl⟩ := h.inv_struct ty87
  match l, hl with
  | [x, y], hl =>
    obtain ⟨hx, hl⟩ := hl.head
    obtain ⟨hy, _⟩ := hl.head
    obtain ⟨m, rfl, hm⟩ := hx.inv_struct ty32
    obtain ⟨i, rfl, _⟩ := hy.inv_i64 ty3
    match m, hm with
    | [u, v], hm =>
      obtain ⟨hu, hm⟩ := hm.head
      obtain ⟨hv, _⟩ := hm.head
      obtain ⟨p, rfl, _⟩ := hu.inv_i64 ty3
      obtain ⟨s, rfl, _⟩ := hv.inv_i64 ty3
      exact ⟨p, s, i, rfl⟩
    | [], hm => exact absurd hm.1 (by simp)
    | [_], hm => exact absurd hm.1 (by simp)
    | _ :: _ :: _ :: _, hm => exact absurd hm.1 (by simp)
  | [], hl => exact absurd hl.1 (by simp)
  | [_], hl => exact absurd hl.1 (by simp)
  | _ :: _ :: _ :: _, hl => exact absurd hl.1 (by simp)

theorem inv_op {d : D} (h : HasTy CT 89 d) : ∃ o : OpR, d = opD o ∧ True := by
  obtain ⟨l, rfl, hl⟩ := h.inv_struct ty89
  have hlen := hl.1
  match l, hl with
  | [a, b, c, e, f, g, i, j], hl =>
    obtain ⟨h1, hl⟩ := hl.head
    obtain ⟨h2, hl⟩ := hl.head
    obtain ⟨h3, hl⟩ := hl.head
    obtain ⟨h4, hl⟩ := hl.head
    obtain ⟨h5, hl⟩ := hl.head
    obtain ⟨h6, hl⟩ := hl.head
    obtain ⟨h7, hl⟩ := hl.head
    obtain ⟨h8, _⟩ := hl.head
    obtain ⟨kind, rfl, _⟩ := h1.inv_i64 ty3
    obtain ⟨key, rfl, _⟩ := h2.inv_str ty9
    obtain ⟨field, rfl, _⟩ := h3.inv_str ty9
    obtain ⟨inner, rfl, _⟩ := h4.inv_i64 ty3
    obtain ⟨act, rfl, _⟩ := h5.inv_i64 ty3
    obtain ⟨n, rfl, _⟩ := h6.inv_i64 ty3
    obtain ⟨text, rfl, _⟩ := h7.inv_str ty9
    obtain ⟨p, s, q, rfl⟩ := inv_mark h8
    exact ⟨⟨kind, key, field, inner, act, n, text, p, s, q⟩, rfl, trivial⟩
  | [], hl => exact absurd hlen (by simp)
  | [_], hl => exact absurd hlen (by simp)
  | [_, _], hl => exact absurd hlen (by simp)
  | [_, _, _], hl => exact absurd hlen (by simp)
  | [_, _, _, _], hl => exact absurd hlen (by simp)
  | [_, _, _, _, _], hl => exact absurd hlen (by simp)
  | [_, _, _, _, _, _], hl => exact absurd hlen (by simp)
  | [_, _, _, _, _, _, _], hl => exact absurd hlen (by simp)
  | _ :: _ :: _ :: _ :: _ :: _ :: _ :: _ :: _ :: _, hl => exact absurd hlen (by simp)

theorem inv_tx {d : D} (h : HasTy CT 37 d) : ∃ t : TxR, d = txD t ∧ t.deps.length = 13 ∧ t.ops.length ≤ 9223372036854775807 := by
  obtain ⟨l, rfl, hl⟩ := h.inv_struct ty37
  have hlen := hl.1
  match l, hl with
  | [a, b, c, e], hl =>
    obtain ⟨h1, hl⟩ := hl.head
    obtain ⟨h2, hl⟩ := hl.head
    obtain ⟨h3, hl⟩ := hl.head
    obtain ⟨h4, _⟩ := hl.head
    obtain ⟨m, rfl, hm⟩ := h1.inv_struct ty32
    obtain ⟨deps, rfl, hd, _⟩ := h2.inv_ints ty34 ty3
    obtain ⟨time, rfl, _⟩ := h3.inv_i64 ty3
    obtain ⟨os, rfl, ho1, ho2⟩ := h4.inv_slice ty35
    obtain ⟨ops, rfl, _⟩ := all_of (enc := opD) (Q := fun _ => True) fun x hx => inv_op (ho2 x hx)
    match m, hm with
    | [u, v], hm =>
      obtain ⟨hu, hm⟩ := hm.head
      obtain ⟨hv, _⟩ := hm.head
      obtain ⟨p, rfl, _⟩ := hu.inv_i64 ty3
      obtain ⟨s, rfl, _⟩ := hv.inv_i64 ty3
      exact ⟨⟨p, s, deps, time, ops⟩, rfl, hd, by simpa [maxLen] using ho1⟩
    | [], hm => exact absurd hm.1 (by simp)
    | [_], hm => exact absurd hm.1 (by simp)
    | _ :: _ :: _ :: _, hm => exact absurd hm.1 (by simp)
  | [], hl => exact absurd hlen (by simp)
  | [_], hl => exact absurd hlen (by simp)
  | [_, _], hl => exact absurd hlen (by simp)
  | [_, _, _], hl => exact absurd hlen (by simp)
  | _ :: _ :: _ :: _ :: _ :: _, hl => exact absurd hlen (by simp)
end Go.Ab
set_option linter.unusedSimpArgs false
namespace Go.Ab
open Go.Proofs

def smallTx (t : TxR) : Bool := decide (t.ops.length ≤ 40) && (List.range t.ops.length).all fun k => decide (((opAt t k).key.size : Int) ≤ 100) && decide (((opAt t k).field.size : Int) ≤ 100) && decide (((opAt t k).text.size : Int) ≤ 100)
def smallAt (t : TxR) (k : Nat) : Bool := decide (((opAt t k).key.size : Int) ≤ 100) && decide (((opAt t k).field.size : Int) ≤ 100) && decide (((opAt t k).text.size : Int) ≤ 100)
theorem smallTx_not {t : TxR} {k : Nat} (hk : k < t.ops.length) (h : smallAt t k = false) : smallTx t = false := by
  have : ((List.range t.ops.length).all fun k => decide (((opAt t k).key.size : Int) ≤ 100) && decide (((opAt t k).field.size : Int) ≤ 100) && decide (((opAt t k).text.size : Int) ≤ 100)) = false := by
    rw [List.all_eq_false]
    refine ⟨k, List.mem_range.2 hk, ?_⟩
    have h2 := h
    unfold smallAt at h2
    rw [h2]; simp
  simp only [smallTx, this, Bool.and_false]
set_option maxRecDepth 8000 in
theorem ref_small (t : TxR) (hd : t.deps.length = 13) : PSpec Tryz.prog CT 35 [txD t] (· = .bool (smallTx t)) := by
  refine PSpec.of hT Tryz.func35 rfl (by kernel_rfl) rfl rfl ?_
  simp only [Tryz.f35, go_sem, reduceAdd, reduceSub, reduceMul, reduceLT, reduceLeDiff, ↓reduceIte, reduceCtorEq, reduceEqDiff, reduceToNat, Int.reduceLT, reduceLE, reduceEq, hd]
  refine awp_loop (fun n s => ∃ (k : Nat) (ex : List (Sh × D)) (g : Nat → D), s = ⟨[txD t, .ptr 0 [], g 2, .lit (.int .i64 k), g 4, g 5, g 6, g 7, g 8, g 9, g 10, g 11, g 12, g 13, g 14, g 15, g 16, g 17, g 18, g 19, g 20, g 21, g 22, g 23, g 24, g 25, g 26, g 27, g 28, g 29, g 30, g 31, g 32, g 33, g 34, g 35, g 36, g 37, g 38, g 39, g 40, g 41, g 42], ⟨(txSh, txD t) :: ex, []⟩⟩ ∧ n = t.ops.length - k ∧ k ≤ t.ops.length ∧ (k = 0 ∨ t.ops.length ≤ 40) ∧ ∀ p, p < k → smallAt t p = true) t.ops.length ⟨0, _, reg_intro rfl rfl ⟨by simp, by omega, .inl rfl, by simp⟩⟩ ?_
  rintro n s ⟨k, ex, g, rfl, hn, hk, h40, hp⟩
  simp only [go_sem, reduceAdd, reduceSub, reduceMul, reduceLT, reduceLeDiff, ↓reduceIte, reduceCtorEq, reduceEqDiff, reduceToNat, Int.reduceLT, reduceLE, reduceEq, hd]
  have last : (¬ t.ops.length ≤ 40 → smallTx t = false) := fun h => by simp only [smallTx, decide_eq_false h, Bool.false_and]
  refine guardK_split (fun hc => ?_) (fun hc => ?_)
  · have hk' : k < t.ops.length := by have := of_decide_eq_true hc; omega
    simp only [go_sem, reduceAdd, reduceSub, reduceMul, reduceLT, reduceLeDiff, ↓reduceIte, reduceCtorEq, reduceEqDiff, reduceToNat, Int.reduceLT, reduceLE, reduceEq, hd, hc]
    refine condK_split (fun h4 => ?_) (fun h4 => ?_)
    · have hl4 : t.ops.length ≤ 40 := by have := of_decide_eq_true h4; omega
      have bad : smallAt t k = false → smallTx t = false := smallTx_not hk'
      have next : smallAt t k = true → ∀ p, p < k + 1 → smallAt t p = true := fun h p hpk => by
        by_cases e : p = k
        · subst e; exact h
        · exact hp p (by omega)
      simp only [go_sem, reduceAdd, reduceSub, reduceMul, reduceLT, reduceLeDiff, ↓reduceIte, reduceCtorEq, reduceEqDiff, reduceToNat, Int.reduceLT, reduceLE, reduceEq, hd, hk', get_ops]
      (repeat' (first | ((refine guardK_split (fun hg => ?_) (fun hg => ?_)) <;> (try simp only [go_sem, reduceAdd, reduceSub, reduceMul, reduceLT, reduceLeDiff, ↓reduceIte, reduceCtorEq, reduceEqDiff, reduceToNat, Int.reduceLT, reduceLE, reduceEq, hg, hd, hk', wrapNat k (by omega)])) | ((refine condK_split (fun hg => ?_) (fun hg => ?_)) <;> (try simp only [go_sem, reduceAdd, reduceSub, reduceMul, reduceLT, reduceLeDiff, ↓reduceIte, reduceCtorEq, reduceEqDiff, reduceToNat, Int.reduceLT, reduceLE, reduceEq, hg, hd, hk', wrapNat k (by omega)])) | ((refine Or.inl ⟨by kernel_rfl, ?_⟩) <;> (try simp only [go_sem, reduceAdd, reduceSub, reduceMul, reduceLT, reduceLeDiff, ↓reduceIte, reduceCtorEq, reduceEqDiff, reduceToNat, Int.reduceLT, reduceLE, reduceEq, hd, hk', wrapNat k (by omega)])))) <;> (first | done | (rw [bad (by first | (simp_all [smallAt]; done) | (simp_all [smallAt]; omega))]) | exact ⟨t.ops.length - (k + 1), by omega, k + 1, _, reg_intro rfl rfl ⟨rfl, by omega, .inr hl4, next (by first | (simp_all [smallAt]; done) | (simp_all [smallAt]; omega))⟩⟩)
    · have hl4 : ¬ t.ops.length ≤ 40 := by have := of_decide_eq_false h4; omega
      simp only [go_sem, reduceAdd, reduceSub, reduceMul, reduceLT, reduceLeDiff, ↓reduceIte, reduceCtorEq, reduceEqDiff, reduceToNat, Int.reduceLT, reduceLE, reduceEq, hd, last hl4, h4]
  · have hi := of_decide_eq_false hc
    obtain rfl : k = t.ops.length := by omega
    simp only [go_sem, reduceAdd, reduceSub, reduceMul, reduceLT, reduceLeDiff, ↓reduceIte, reduceCtorEq, reduceEqDiff, reduceToNat, Int.reduceLT, reduceLE, reduceEq, hd, hc]
    by_cases h4 : t.ops.length ≤ 40
    · have : smallTx t = true := by
        simp only [smallTx, decide_eq_true h4, Bool.true_and, List.all_eq_true, List.mem_range]
        exact hp
      rw [this, decide_eq_true (by omega)]
    · rw [last h4, decide_eq_false (by omega)]
end Go.Ab
set_option linter.unusedSimpArgs false
namespace Go.Ab
open Go.Proofs

theorem eqB_op (a b : OpR) : eqB (opD a) (opD b) = decide (a = b) := eqB_eq (by
  cases a; cases b
  simp [and_assoc])
theorem eqB_op' (a b : OpR) : eqB (.agg [.lit (.int .i64 a.kind), .lit (.string a.key), .lit (.string a.field), .lit (.int .i64 a.inner), .lit (.int .i64 a.act), .lit (.int .i64 a.n), .lit (.string a.text), markD a.rp a.rs a.ri])
    (.agg [.lit (.int .i64 b.kind), .lit (.string b.key), .lit (.string b.field), .lit (.int .i64 b.inner), .lit (.int .i64 b.act), .lit (.int .i64 b.n), .lit (.string b.text), markD b.rp b.rs b.ri]) = decide (a = b) := eqB_op a b
theorem eqB_vec (a b : List Int) : eqB (ints a) (ints b) = decide (a = b) := eqB_ints a b

set_option maxRecDepth 8000 in
theorem ref_opsEq (a b : List OpR) (ha : a.length < 4000000000) : PSpec Tryz.prog CT 106 [opsD a, opsD b] (· = .bool (decide (a = b))) := by
  refine PSpec.of hT Tryz.func106 rfl (by kernel_rfl) rfl rfl ?_
  simp only [Tryz.f106, go_sem, reduceAdd, reduceSub, reduceMul, reduceLT, reduceLeDiff, ↓reduceIte, reduceCtorEq, reduceEqDiff, reduceToNat, Int.reduceLT, reduceLE, reduceEq]
  refine condK_split (fun hc => ?_) (fun hc => ?_)
  · have : a ≠ b := by rintro rfl; simp at hc
    simp only [go_sem, reduceAdd, reduceSub, reduceMul, reduceLT, reduceLeDiff, ↓reduceIte, reduceCtorEq, reduceEqDiff, reduceToNat, Int.reduceLT, reduceLE, reduceEq, decide_eq_false this]
  · have hl : a.length = b.length := by simp only [Bool.not_eq_false', decide_eq_true_eq] at hc; omega
    simp only [go_sem, reduceAdd, reduceSub, reduceMul, reduceLT, reduceLeDiff, ↓reduceIte, reduceCtorEq, reduceEqDiff, reduceToNat, Int.reduceLT, reduceLE, reduceEq]
    refine awp_loop (fun n s => ∃ (k : Nat) (g : Nat → D), s = ⟨[opsD a, opsD b, g 2, g 3, g 4, .lit (.int .i64 k), g 6, g 7, g 8, g 9, g 10, g 11, g 12, g 13, g 14, g 15, g 16, g 17, g 18, g 19, g 20, g 21, g 22, g 23, g 24, g 25], ⟨[], []⟩⟩ ∧ n = a.length - k ∧ k ≤ a.length ∧ ∀ p, p < k → a.getD p default = b.getD p default) a.length ⟨0, reg_intro rfl rfl ⟨by simp, by omega, by simp⟩⟩ ?_
    rintro n s ⟨k, g, rfl, hn, hk, hp⟩
    simp only [go_sem, reduceAdd, reduceSub, reduceMul, reduceLT, reduceLeDiff, ↓reduceIte, reduceCtorEq, reduceEqDiff, reduceToNat, Int.reduceLT, reduceLE, reduceEq]
    refine condK_split (fun hc => ?_) (fun hc => ?_)
    · have hk' : k < a.length := by have := of_decide_eq_true hc; omega
      have hk2 : k < b.length := by omega
      simp only [go_sem, reduceAdd, reduceSub, reduceMul, reduceLT, reduceLeDiff, ↓reduceIte, reduceCtorEq, reduceEqDiff, reduceToNat, Int.reduceLT, reduceLE, reduceEq, hk', hk2, getD_ops _ _ default]
      refine .inl ⟨by kernel_rfl, condK_split (fun h1 => ?_) (fun h1 => ?_)⟩
      · rw [eqB_op'] at h1
        have : a ≠ b := by rintro rfl; simp at h1
        simp only [go_sem, reduceAdd, reduceSub, reduceMul, reduceLT, reduceLeDiff, ↓reduceIte, reduceCtorEq, reduceEqDiff, reduceToNat, Int.reduceLT, reduceLE, reduceEq, decide_eq_false this]
      · rw [eqB_op'] at h1
        simp only [Bool.not_eq_false', decide_eq_true_eq] at h1
        simp only [go_sem, reduceAdd, reduceSub, reduceMul, reduceLT, reduceLeDiff, ↓reduceIte, reduceCtorEq, reduceEqDiff, reduceToNat, Int.reduceLT, reduceLE, reduceEq, wrapNat k (by omega)]
        refine ⟨a.length - (k + 1), by omega, k + 1, reg_intro rfl rfl ⟨rfl, by omega, fun p h => ?_⟩⟩
        by_cases hpk : p = k
        · subst hpk; exact h1
        · exact hp p (by omega)
    · have hi := of_decide_eq_false hc
      obtain rfl : k = a.length := by omega
      have : a = b := List.ext_getElem hl fun i h1 h2 => by
        have := hp i h1
        simpa [List.getD_eq_getElem?_getD, h1, h2] using this
      simp only [go_sem, reduceAdd, reduceSub, reduceMul, reduceLT, reduceLeDiff, ↓reduceIte, reduceCtorEq, reduceEqDiff, reduceToNat, Int.reduceLT, reduceLE, reduceEq, decide_eq_true this]

def sameTx (a b : TxR) : Bool := decide (a.peer = b.peer) && decide (a.seq = b.seq) && decide (a.deps = b.deps) && decide (a.time = b.time) && decide (a.ops = b.ops)
set_option maxRecDepth 8000 in
theorem ref07_same (a b : TxR) (ha : a.deps.length = 13) (hb : b.deps.length = 13) (hl : a.ops.length < 4000000000) : PSpec Tryz.prog CT 72 [txD a, txD b] (· = .bool (sameTx a b)) := by
  refine PSpec.of hT Tryz.func72 rfl (by kernel_rfl) rfl rfl ?_
  simp only [Tryz.f72, go_sem, reduceAdd, reduceSub, reduceMul, reduceLT, reduceLeDiff, ↓reduceIte, reduceCtorEq, reduceEqDiff, reduceToNat, Int.reduceLT, reduceLE, reduceEq, ha, hb]
  (repeat' (first | ((refine guardK_split (fun hg => ?_) (fun hg => ?_)) <;> (try simp only [go_sem, reduceAdd, reduceSub, reduceMul, reduceLT, reduceLeDiff, ↓reduceIte, reduceCtorEq, reduceEqDiff, reduceToNat, Int.reduceLT, reduceLE, reduceEq, hg, ha, hb, eqB_cons, eqB_nil, eqB_int, eqB_vec, Bool.and_true, pureL_ops])) | ((refine condK_split (fun hg => ?_) (fun hg => ?_)) <;> (try simp only [go_sem, reduceAdd, reduceSub, reduceMul, reduceLT, reduceLeDiff, ↓reduceIte, reduceCtorEq, reduceEqDiff, reduceToNat, Int.reduceLT, reduceLE, reduceEq, hg, ha, hb, eqB_cons, eqB_nil, eqB_int, eqB_vec, Bool.and_true, pureL_ops])) | ((first | refine callK_pure (ref_opsEq a.ops b.ops hl) ?_ ?_ ?_ | refine callD_pure (ref_opsEq a.ops b.ops hl) ?_ ?_ ?_); (iterate 2 (focus (first | rfl | (simp only [go_sem, ha, hb, eqB_cons, eqB_nil, eqB_int, eqB_vec, Bool.and_true, pureL_ops]; done)))); try simp only [go_sem, reduceAdd, reduceSub, reduceMul, reduceLT, reduceLeDiff, ↓reduceIte, reduceCtorEq, reduceEqDiff, reduceToNat, Int.reduceLT, reduceLE, reduceEq, ha, hb, eqB_cons, eqB_nil, eqB_int, eqB_vec, Bool.and_true, pureL_ops]) | ((refine Or.inl ⟨by kernel_rfl, ?_⟩) <;> (try simp only [go_sem, reduceAdd, reduceSub, reduceMul, reduceLT, reduceLeDiff, ↓reduceIte, reduceCtorEq, reduceEqDiff, reduceToNat, Int.reduceLT, reduceLE, reduceEq, ha, hb, eqB_cons, eqB_nil, eqB_int, eqB_vec, Bool.and_true, pureL_ops])))) <;> (first | done | (simp_all [sameTx, eqB_cons, eqB_nil, eqB_int]; done) | (simp_all [sameTx, eqB_cons, eqB_nil, eqB_int]; omega) | (simp_all [sameTx, eqB_cons, eqB_nil, eqB_int]; intros; omega) | (simp_all [sameTx, eqB_cons, eqB_nil, eqB_int]; grind))

end Go.Ab
