/- Transactions delivered, as the document has it. Conditions: none. -/
import Derived.Test.YtebfpijbnklaiaaStC
set_option linter.unusedSimpArgs false
namespace Go.Ab
open Go.Proofs

/-- One look at one transaction. -/
def lookR (l : List TxR) (from_ : Nat) (s : List Int × List TxR) (i : Nat) : List Int × List TxR :=
  if readyTx s.1 (txAt l ((i + from_) % l.length)) then (s.1.set (txAt l ((i + from_) % l.length)).peer.toNat (txAt l ((i + from_) % l.length)).seq, s.2 ++ [txAt l ((i + from_) % l.length)]) else s
def passR (l : List TxR) (from_ : Nat) (s : List Int × List TxR) (k : Nat) : List Int × List TxR := (List.range k).foldl (lookR l from_) s
def roundsR (l : List TxR) (from_ : Nat) (r : Nat) : List Int × List TxR := (List.range r).foldl (fun s _ => passR l from_ s l.length) (zeros 13, [])
def deliverR (l : List TxR) (from_ : Nat) : List Int × List TxR := roundsR l from_ l.length
theorem passR_succ (l : List TxR) (from_ : Nat) (s : List Int × List TxR) (k : Nat) : passR l from_ s (k + 1) = lookR l from_ (passR l from_ s k) k := by
  simp only [passR, List.range_succ, List.foldl_append, List.foldl_cons, List.foldl_nil]
theorem roundsR_succ (l : List TxR) (from_ : Nat) (r : Nat) : roundsR l from_ (r + 1) = passR l from_ (roundsR l from_ r) l.length := by
  simp only [roundsR, List.range_succ, List.foldl_append, List.foldl_cons, List.foldl_nil]
theorem ready_peer {v : List Int} {t : TxR} (h : readyTx v t = true) : vpeer t.peer = true := by
  simp only [readyTx, checkTx, dotOk, Bool.and_eq_true] at h
  exact h.1.1.1.1.1.1.1
theorem txs_snoc (l : List TxR) (t : TxR) : l.map txD ++ [txD t] = (l ++ [t]).map txD := by simp
theorem modLt (i f n : Nat) (h : 0 < n) : (i + f) % n < n := Nat.mod_lt _ h

set_option maxRecDepth 8000 in
theorem ref_deliver (l : List TxR) (from_ : Nat) (ho : TxsOk l) (hl : l.length ≤ 40) (hf : from_ ≤ 1000) :
    PSpec Try.prog CT 29 [txsD l, .lit (.int .i64 from_)] (· = .tup [txsD (deliverR l from_).2, ints (deliverR l from_).1]) := by
  refine PSpec.of hT Try.func29 rfl (by kernel_rfl) rfl rfl ?_
  simp only [Try.f29, go_sem, Nat.reduceAdd, Nat.reduceSub, Nat.reduceMul, Nat.reduceLT, Nat.reduceLeDiff, ↓reduceIte, reduceCtorEq, Nat.reduceEqDiff, Int.reduceToNat, Int.reduceLT, Int.reduceLE, Int.reduceEq, beq_self_eq_true]
  refine awp_loop (fun n s => ∃ (r : Nat) (v : List Int) (o : List TxR) (t : Tok) (tk : List Bool) (ex : List (Sh × D)) (g : Nat → D), s = ⟨[txsD l, .lit (.int .i64 from_), g 2, g 3, g 4, .ptr 0 [], .ptr 1 [], .lst 33 (o.map txD) t, .lit (.int .i64 r), g 9, g 10, g 11, g 12, g 13, g 14, g 15, g 16, g 17, g 18, g 19, g 20, g 21, g 22, g 23, g 24, g 25, g 26, g 27, g 28, g 29, g 30, g 31, g 32, g 33, g 34, g 35, g 36, g 37, g 38, g 39, g 40, g 41, g 42, g 43, g 44, g 45, g 46, g 47], ⟨(.arr 13 .leaf, ints (zeros 13)) :: (.arr 13 .leaf, ints v) :: ex, tk⟩⟩ ∧ n = l.length - r ∧ r ≤ l.length ∧ live t tk ∧ v.length = 13 ∧ o.length ≤ r * l.length ∧ (v, o) = roundsR l from_ r) l.length ⟨0, zeros 13, [], .full, [], _, reg_intro rfl rfl ⟨by simp, by omega, trivial, zeros_len 13, by simp, rfl⟩⟩ ?_
  rintro n s ⟨r, v, o, t, tk, ex, g, rfl, hn, hr, ht, hv, hol, heq⟩
  simp only [go_sem, Nat.reduceAdd, Nat.reduceSub, Nat.reduceMul, Nat.reduceLT, Nat.reduceLeDiff, ↓reduceIte, reduceCtorEq, Nat.reduceEqDiff, Int.reduceToNat, Int.reduceLT, Int.reduceLE, Int.reduceEq, beq_self_eq_true, hv]
  refine condK_split (fun hc => ?_) (fun hc => ?_)
  · have hr' : r < l.length := by have := of_decide_eq_true hc; omega
    simp only [go_sem, Nat.reduceAdd, Nat.reduceSub, Nat.reduceMul, Nat.reduceLT, Nat.reduceLeDiff, ↓reduceIte, reduceCtorEq, Nat.reduceEqDiff, Int.reduceToNat, Int.reduceLT, Int.reduceLE, Int.reduceEq, beq_self_eq_true, hv]
    refine awp_loop (fun n s => ∃ (i : Nat) (v : List Int) (o : List TxR) (t : Tok) (tk : List Bool) (ex : List (Sh × D)) (g : Nat → D), s = ⟨[txsD l, .lit (.int .i64 from_), g 2, g 3, g 4, .ptr 0 [], .ptr 1 [], .lst 33 (o.map txD) t, .lit (.int .i64 r), .lit (.int .i64 i), g 10, g 11, g 12, g 13, g 14, g 15, g 16, g 17, g 18, g 19, g 20, g 21, g 22, g 23, g 24, g 25, g 26, g 27, g 28, g 29, g 30, g 31, g 32, g 33, g 34, g 35, g 36, g 37, g 38, g 39, g 40, g 41, g 42, g 43, g 44, g 45, g 46, g 47], ⟨(.arr 13 .leaf, ints (zeros 13)) :: (.arr 13 .leaf, ints v) :: ex, tk⟩⟩ ∧ n = l.length - i ∧ i ≤ l.length ∧ live t tk ∧ v.length = 13 ∧ o.length ≤ r * l.length + i ∧ (v, o) = passR l from_ (roundsR l from_ r) i) l.length ⟨0, v, o, t, tk, _, reg_intro rfl rfl ⟨by simp, by omega, ht, hv, by omega, by rw [heq]; rfl⟩⟩ ?_
    clear heq hol ht hv
    rintro n s ⟨i, v, o, t, tk, ex, g, rfl, hn, hi, ht, hv, hol, heq⟩
    simp only [go_sem, Nat.reduceAdd, Nat.reduceSub, Nat.reduceMul, Nat.reduceLT, Nat.reduceLeDiff, ↓reduceIte, reduceCtorEq, Nat.reduceEqDiff, Int.reduceToNat, Int.reduceLT, Int.reduceLE, Int.reduceEq, beq_self_eq_true, hv]
    refine condK_split (fun hc2 => ?_) (fun hc2 => ?_)
    · have hi' : i < l.length := by have := of_decide_eq_true hc2; omega
      have hlt := modLt i from_ l.length (by omega)
      have hw : IntKind.i64.wrap ((i : Int) + (from_ : Int)) = ((i + from_ : Nat) : Int) := by rw [wrap64] <;> omega
      have hne : ((l.length : Nat) : Int) ≠ 0 := by omega
      obtain ⟨hd, _⟩ := txsOk_at ho hlt
      have hsucc := passR_succ l from_ (roundsR l from_ r) i
      rw [← heq] at hsucc
      simp only [lookR] at hsucc
      have hrl : r * l.length + i + 1 ≤ 1640 := by
        have : r * l.length ≤ 40 * 40 := Nat.mul_le_mul (by omega) hl
        omega
      simp only [go_sem, Nat.reduceAdd, Nat.reduceSub, Nat.reduceMul, Nat.reduceLT, Nat.reduceLeDiff, ↓reduceIte, reduceCtorEq, Nat.reduceEqDiff, Int.reduceToNat, Int.reduceLT, Int.reduceLE, Int.reduceEq, beq_self_eq_true, hv, hw, hne, tmodNat, hlt, get_txs]
      generalize (i + from_) % l.length = q at hlt hd hsucc ⊢
      simp only [go_sem, Nat.reduceAdd, Nat.reduceSub, Nat.reduceMul, Nat.reduceLT, Nat.reduceLeDiff, ↓reduceIte, reduceCtorEq, Nat.reduceEqDiff, Int.reduceToNat, Int.reduceLT, Int.reduceLE, Int.reduceEq, beq_self_eq_true, hv, hlt, get_txs, hd]
      refine callK_pure (ref_ready v (txAt l q) hv hd) (by simp only [go_sem, Nat.reduceAdd, Nat.reduceSub, Nat.reduceMul, Nat.reduceLT, Nat.reduceLeDiff, ↓reduceIte, reduceCtorEq, Nat.reduceEqDiff, Int.reduceToNat, Int.reduceLT, Int.reduceLE, Int.reduceEq, beq_self_eq_true, hv, hd, pureL_ops]) (by simp only [go_sem, Nat.reduceAdd, Nat.reduceSub, Nat.reduceMul, Nat.reduceLT, Nat.reduceLeDiff, ↓reduceIte, reduceCtorEq, Nat.reduceEqDiff, Int.reduceToNat, Int.reduceLT, Int.reduceLE, Int.reduceEq, beq_self_eq_true, hv, hd, pureL_ops]) ?_; simp only [go_sem, Nat.reduceAdd, Nat.reduceSub, Nat.reduceMul, Nat.reduceLT, Nat.reduceLeDiff, ↓reduceIte, reduceCtorEq, Nat.reduceEqDiff, Int.reduceToNat, Int.reduceLT, Int.reduceLE, Int.reduceEq, beq_self_eq_true, hv, hd, pureL_ops]
      refine condK_split (fun h1 => ?_) (fun h1 => ?_)
      · obtain ⟨p0, p1⟩ := vpeer_of (ready_peer h1)
        simp only [go_sem, Nat.reduceAdd, Nat.reduceSub, Nat.reduceMul, Nat.reduceLT, Nat.reduceLeDiff, ↓reduceIte, reduceCtorEq, Nat.reduceEqDiff, Int.reduceToNat, Int.reduceLT, Int.reduceLE, Int.reduceEq, beq_self_eq_true, hv, hd, p0, p1]
        refine appK_live _ _ _ _ _ _ _ _ _ _ ht (by simp) (by simp only [go_sem, Nat.reduceAdd, Nat.reduceSub, Nat.reduceMul, Nat.reduceLT, Nat.reduceLeDiff, ↓reduceIte, reduceCtorEq, Nat.reduceEqDiff, Int.reduceToNat, Int.reduceLT, Int.reduceLE, Int.reduceEq, beq_self_eq_true]) (by simp only [go_sem, Nat.reduceAdd, Nat.reduceSub, Nat.reduceMul, Nat.reduceLT, Nat.reduceLeDiff, ↓reduceIte, reduceCtorEq, Nat.reduceEqDiff, Int.reduceToNat, Int.reduceLT, Int.reduceLE, Int.reduceEq, beq_self_eq_true, List.length_map]; omega) (fun u tk' hu => ?_)
        simp only [go_sem, Nat.reduceAdd, Nat.reduceSub, Nat.reduceMul, Nat.reduceLT, Nat.reduceLeDiff, ↓reduceIte, reduceCtorEq, Nat.reduceEqDiff, Int.reduceToNat, Int.reduceLT, Int.reduceLE, Int.reduceEq, beq_self_eq_true, hv, txs_snoc, wrapNat i (by omega)]
        rw [if_pos h1] at hsucc
        exact ⟨l.length - (i + 1), by omega, i + 1, _, _, u, tk', _, reg_intro rfl rfl ⟨rfl, by omega, hu, by simp [hv], by simp; omega, hsucc.symm⟩⟩
      · simp only [go_sem, Nat.reduceAdd, Nat.reduceSub, Nat.reduceMul, Nat.reduceLT, Nat.reduceLeDiff, ↓reduceIte, reduceCtorEq, Nat.reduceEqDiff, Int.reduceToNat, Int.reduceLT, Int.reduceLE, Int.reduceEq, beq_self_eq_true, hv, wrapNat i (by omega)]
        rw [if_neg (by rw [h1]; simp)] at hsucc
        exact ⟨l.length - (i + 1), by omega, i + 1, v, o, t, tk, _, reg_intro rfl rfl ⟨rfl, by omega, ht, hv, by omega, hsucc.symm⟩⟩
    · have hii := of_decide_eq_false hc2
      obtain rfl : i = l.length := by omega
      simp only [go_sem, Nat.reduceAdd, Nat.reduceSub, Nat.reduceMul, Nat.reduceLT, Nat.reduceLeDiff, ↓reduceIte, reduceCtorEq, Nat.reduceEqDiff, Int.reduceToNat, Int.reduceLT, Int.reduceLE, Int.reduceEq, beq_self_eq_true, hv, wrapNat r (by omega)]
      refine ⟨l.length - (r + 1), by omega, r + 1, v, o, t, tk, _, reg_intro rfl rfl ⟨rfl, by omega, ht, hv, by rw [Nat.add_mul]; omega, by rw [roundsR_succ]; exact heq⟩⟩
  · have hii := of_decide_eq_false hc
    obtain rfl : r = l.length := by omega
    have hfin : deliverR l from_ = (v, o) := heq.symm
    simp only [go_sem, Nat.reduceAdd, Nat.reduceSub, Nat.reduceMul, Nat.reduceLT, Nat.reduceLeDiff, ↓reduceIte, reduceCtorEq, Nat.reduceEqDiff, Int.reduceToNat, Int.reduceLT, Int.reduceLE, Int.reduceEq, beq_self_eq_true, hv, hfin]
    exact .inl (by kernel_rfl)
end Go.Ab
