/- Transactions: apart, ready, delivered; the document's functions. Conditions: none. -/
import Derived.Test.YtnagdbamieahgaaGrB
set_option linter.unusedSimpArgs false
namespace Go.Ab
open Go.Proofs

theorem tmodNat (a b : Nat) : ((a : Int)).tmod (b : Int) = ((a % b : Nat) : Int) := by
  rw [Int.tmod_eq_emod_of_nonneg (by omega)]; rfl
theorem pureL_txs (l : List TxR) : pureL (l.map txD) = True := pureL_map _ _ fun _ => by simp [pureD, pureL, pureL_ints]

def nextR (v : List Int) (p s : Int) : Bool := vpeer p && decide (v.getD p.toNat 0 < s) && decide (IntKind.i64.wrap (s - 1) = v.getD p.toNat 0)
set_option maxRecDepth 8000 in
theorem ref_next (v : List Int) (p s : Int) (hv : v.length = 13) : PSpec Try.prog CT 92 [ints v, dotD p s] (· = .bool (nextR v p s)) := by
  refine PSpec.of hT Try.func92 rfl (by kernel_rfl) rfl rfl ?_
  simp only [Try.f92, go_sem, Nat.reduceAdd, Nat.reduceSub, Nat.reduceMul, Nat.reduceLT, Nat.reduceLeDiff, ↓reduceIte, reduceCtorEq, Nat.reduceEqDiff, Int.reduceToNat, Int.reduceLT, Int.reduceLE, Int.reduceEq, beq_self_eq_true, hv]
  refine .inl ⟨by kernel_rfl, callD_pure (ref_peer p) (by simp only [go_sem, Nat.reduceAdd, Nat.reduceSub, Nat.reduceMul, Nat.reduceLT, Nat.reduceLeDiff, ↓reduceIte, reduceCtorEq, Nat.reduceEqDiff, Int.reduceToNat, Int.reduceLT, Int.reduceLE, Int.reduceEq, beq_self_eq_true]) (by simp only [go_sem, Nat.reduceAdd, Nat.reduceSub, Nat.reduceMul, Nat.reduceLT, Nat.reduceLeDiff, ↓reduceIte, reduceCtorEq, Nat.reduceEqDiff, Int.reduceToNat, Int.reduceLT, Int.reduceLE, Int.reduceEq, beq_self_eq_true]) ?_⟩
  simp only [go_sem, Nat.reduceAdd, Nat.reduceSub, Nat.reduceMul, Nat.reduceLT, Nat.reduceLeDiff, ↓reduceIte, reduceCtorEq, Nat.reduceEqDiff, Int.reduceToNat, Int.reduceLT, Int.reduceLE, Int.reduceEq, beq_self_eq_true, hv]
  refine guardK_split (fun h => ?_) (fun h => ?_)
  · obtain ⟨h0, h1⟩ := vpeer_of h
    simp only [go_sem, Nat.reduceAdd, Nat.reduceSub, Nat.reduceMul, Nat.reduceLT, Nat.reduceLeDiff, ↓reduceIte, reduceCtorEq, Nat.reduceEqDiff, Int.reduceToNat, Int.reduceLT, Int.reduceLE, Int.reduceEq, beq_self_eq_true, hv, h0, h1, h]
    (repeat' (first | ((refine guardK_split (fun hg => ?_) (fun hg => ?_)) <;> (try simp only [go_sem, Nat.reduceAdd, Nat.reduceSub, Nat.reduceMul, Nat.reduceLT, Nat.reduceLeDiff, ↓reduceIte, reduceCtorEq, Nat.reduceEqDiff, Int.reduceToNat, Int.reduceLT, Int.reduceLE, Int.reduceEq, beq_self_eq_true, hg, hv, h0, h1, h])) | ((refine condK_split (fun hg => ?_) (fun hg => ?_)) <;> (try simp only [go_sem, Nat.reduceAdd, Nat.reduceSub, Nat.reduceMul, Nat.reduceLT, Nat.reduceLeDiff, ↓reduceIte, reduceCtorEq, Nat.reduceEqDiff, Int.reduceToNat, Int.reduceLT, Int.reduceLE, Int.reduceEq, beq_self_eq_true, hg, hv, h0, h1, h])) | ((refine Or.inl ⟨by kernel_rfl, ?_⟩) <;> (try simp only [go_sem, Nat.reduceAdd, Nat.reduceSub, Nat.reduceMul, Nat.reduceLT, Nat.reduceLeDiff, ↓reduceIte, reduceCtorEq, Nat.reduceEqDiff, Int.reduceToNat, Int.reduceLT, Int.reduceLE, Int.reduceEq, beq_self_eq_true, hv, h0, h1, h])))) <;> (first | done | (simp_all [nextR]; done) | (simp_all [nextR]; omega) | (simp_all [nextR]; intros; omega) | (simp_all [nextR]; grind))
  · simp only [go_sem, Nat.reduceAdd, Nat.reduceSub, Nat.reduceMul, Nat.reduceLT, Nat.reduceLeDiff, ↓reduceIte, reduceCtorEq, Nat.reduceEqDiff, Int.reduceToNat, Int.reduceLT, Int.reduceLE, Int.reduceEq, beq_self_eq_true, h, nextR, Bool.false_and]
def readyTx (v : List Int) (t : TxR) : Bool := checkTx t && nextR v t.peer t.seq && vleq t.deps v
set_option maxRecDepth 8000 in
theorem ref_ready (v : List Int) (t : TxR) (hv : v.length = 13) (hd : t.deps.length = 13) : PSpec Try.prog CT 64 [ints v, txD t] (· = .bool (readyTx v t)) := by
  refine PSpec.of hT Try.func64 rfl (by kernel_rfl) rfl rfl ?_
  simp only [Try.f64, go_sem, Nat.reduceAdd, Nat.reduceSub, Nat.reduceMul, Nat.reduceLT, Nat.reduceLeDiff, ↓reduceIte, reduceCtorEq, Nat.reduceEqDiff, Int.reduceToNat, Int.reduceLT, Int.reduceLE, Int.reduceEq, beq_self_eq_true, hv, hd]
  refine callK_pure (ref_checkTx t hd) (by simp only [go_sem, Nat.reduceAdd, Nat.reduceSub, Nat.reduceMul, Nat.reduceLT, Nat.reduceLeDiff, ↓reduceIte, reduceCtorEq, Nat.reduceEqDiff, Int.reduceToNat, Int.reduceLT, Int.reduceLE, Int.reduceEq, beq_self_eq_true, hv, hd, pureL_ops]) (by simp only [go_sem, Nat.reduceAdd, Nat.reduceSub, Nat.reduceMul, Nat.reduceLT, Nat.reduceLeDiff, ↓reduceIte, reduceCtorEq, Nat.reduceEqDiff, Int.reduceToNat, Int.reduceLT, Int.reduceLE, Int.reduceEq, beq_self_eq_true, hv, hd, pureL_ops]) ?_; simp only [go_sem, Nat.reduceAdd, Nat.reduceSub, Nat.reduceMul, Nat.reduceLT, Nat.reduceLeDiff, ↓reduceIte, reduceCtorEq, Nat.reduceEqDiff, Int.reduceToNat, Int.reduceLT, Int.reduceLE, Int.reduceEq, beq_self_eq_true, hv, hd, pureL_ops]
  refine guardK_split (fun h => ?_) (fun h => ?_)
  · simp only [go_sem, Nat.reduceAdd, Nat.reduceSub, Nat.reduceMul, Nat.reduceLT, Nat.reduceLeDiff, ↓reduceIte, reduceCtorEq, Nat.reduceEqDiff, Int.reduceToNat, Int.reduceLT, Int.reduceLE, Int.reduceEq, beq_self_eq_true, hv, hd, h]
    refine callK_pure (ref_next v t.peer t.seq hv) (by simp only [go_sem, Nat.reduceAdd, Nat.reduceSub, Nat.reduceMul, Nat.reduceLT, Nat.reduceLeDiff, ↓reduceIte, reduceCtorEq, Nat.reduceEqDiff, Int.reduceToNat, Int.reduceLT, Int.reduceLE, Int.reduceEq, beq_self_eq_true, hv, hd, h]) (by simp only [go_sem, Nat.reduceAdd, Nat.reduceSub, Nat.reduceMul, Nat.reduceLT, Nat.reduceLeDiff, ↓reduceIte, reduceCtorEq, Nat.reduceEqDiff, Int.reduceToNat, Int.reduceLT, Int.reduceLE, Int.reduceEq, beq_self_eq_true, hv, hd, h]) ?_; simp only [go_sem, Nat.reduceAdd, Nat.reduceSub, Nat.reduceMul, Nat.reduceLT, Nat.reduceLeDiff, ↓reduceIte, reduceCtorEq, Nat.reduceEqDiff, Int.reduceToNat, Int.reduceLT, Int.reduceLE, Int.reduceEq, beq_self_eq_true, hv, hd, h]
    refine guardK_split (fun h2 => ?_) (fun h2 => ?_)
    · simp only [go_sem, Nat.reduceAdd, Nat.reduceSub, Nat.reduceMul, Nat.reduceLT, Nat.reduceLeDiff, ↓reduceIte, reduceCtorEq, Nat.reduceEqDiff, Int.reduceToNat, Int.reduceLT, Int.reduceLE, Int.reduceEq, beq_self_eq_true, hv, hd, h, h2]
      refine callK_pure (ref_leq t.deps v hd hv) (by simp only [go_sem, Nat.reduceAdd, Nat.reduceSub, Nat.reduceMul, Nat.reduceLT, Nat.reduceLeDiff, ↓reduceIte, reduceCtorEq, Nat.reduceEqDiff, Int.reduceToNat, Int.reduceLT, Int.reduceLE, Int.reduceEq, beq_self_eq_true, hv, hd, h, h2, readyTx, Bool.true_and]) (by simp only [go_sem, Nat.reduceAdd, Nat.reduceSub, Nat.reduceMul, Nat.reduceLT, Nat.reduceLeDiff, ↓reduceIte, reduceCtorEq, Nat.reduceEqDiff, Int.reduceToNat, Int.reduceLT, Int.reduceLE, Int.reduceEq, beq_self_eq_true, hv, hd, h, h2, readyTx, Bool.true_and]) ?_; simp only [go_sem, Nat.reduceAdd, Nat.reduceSub, Nat.reduceMul, Nat.reduceLT, Nat.reduceLeDiff, ↓reduceIte, reduceCtorEq, Nat.reduceEqDiff, Int.reduceToNat, Int.reduceLT, Int.reduceLE, Int.reduceEq, beq_self_eq_true, hv, hd, h, h2, readyTx, Bool.true_and]
    · simp only [go_sem, Nat.reduceAdd, Nat.reduceSub, Nat.reduceMul, Nat.reduceLT, Nat.reduceLeDiff, ↓reduceIte, reduceCtorEq, Nat.reduceEqDiff, Int.reduceToNat, Int.reduceLT, Int.reduceLE, Int.reduceEq, beq_self_eq_true, hv, hd, h, h2, readyTx, Bool.true_and, Bool.false_and]
  · simp only [go_sem, Nat.reduceAdd, Nat.reduceSub, Nat.reduceMul, Nat.reduceLT, Nat.reduceLeDiff, ↓reduceIte, reduceCtorEq, Nat.reduceEqDiff, Int.reduceToNat, Int.reduceLT, Int.reduceLE, Int.reduceEq, beq_self_eq_true, hv, hd, h, readyTx, Bool.false_and]

def dotEq16 (a b : TxR) : Bool := decide (a.peer = b.peer) && decide (a.seq = b.seq)
def apartAt (l : List TxR) (i k : Nat) : Bool := !dotEq16 (txAt l k) (txAt l i) || sameTx (txAt l k) (txAt l i)
def apartTx (l : List TxR) : Bool := (List.range l.length).all fun i => (List.range i).all fun k => apartAt l i k
theorem apartTx_not {l : List TxR} {i k : Nat} (hi : i < l.length) (hk : k < i) (h : apartAt l i k = false) : apartTx l = false := by
  unfold apartTx
  rw [List.all_eq_false]
  refine ⟨i, List.mem_range.2 hi, ?_⟩
  rw [Bool.not_eq_true, List.all_eq_false]
  exact ⟨k, List.mem_range.2 hk, by rw [h]; simp⟩
end Go.Ab
set_option linter.unusedSimpArgs false
namespace Go.Ab
open Go.Proofs

/-- One look at one transaction. -/
def lookR (l : List TxR) (from_ : Nat) (s : List Int × List TxR) (i : Nat) : List Int × List TxR :=
  if readyTx s.1 (txAt l ((i + from_) % l.length)) then (s.1.set (txAt l ((i + from_) % l.length)).peer.toNat (txAt l ((i + from_) % l.length)).seq, s.2 ++ [txAt l ((i + from_) % l.length)]) else s
def passR (l : List TxR) (from_ : Nat) (s : List Int × List TxR) (k : Nat) : List Int × List TxR := (List.range k).foldl (lookR l from_) s
def roundsR (l : List TxR) (from_ : Nat) (r : Nat) : List Int × List TxR := (List.range r).foldl (fun s _ => passR l from_ s l.length) (zeros 13, [])
def deliverR (l : List TxR) (from_ : Nat) : List Int × List TxR := roundsR l from_ l.length
theorem passR_succ (l : List TxR) (from_ : Nat) (s : List Int × List TxR) (k : Nat) : passR l from_ s (k + 1) = lookR l from_ (passR l from_ s k) k := by
  simp only [passR, List.range_succ, List.foldl_append, List.foldl_cons, List.foldl_nil]
theorem roundsR_succ (l : List TxR) (from_ : Nat) (r : Nat) : roundsR l from_ (r + 1) = passR l from_ (roundsR l from_ r) l.length := by
  simp only [roundsR, List.range_succ, List.foldl_append, List.foldl_cons, List.foldl_nil]
theorem ready_peer {v : List Int} {t : TxR} (h : readyTx v t = true) : vpeer t.peer = true := by
  simp only [readyTx, checkTx, dotOk, Bool.and_eq_true] at h
  exact h.1.1.1.1.1.1.1
theorem txs_snoc (l : List TxR) (t : TxR) : l.map txD ++ [txD t] = (l ++ [t]).map txD := by simp
theorem modLt (i f n : Nat) (h : 0 < n) : (i + f) % n < n := Nat.mod_lt _ h

set_option maxRecDepth 8000 in
theorem ref_deliver (l : List TxR) (from_ : Nat) (ho : TxsOk l) (hl : l.length ≤ 40) (hf : from_ ≤ 1000) :
    PSpec Try.prog CT 29 [txsD l, .lit (.int .i64 from_)] (· = .tup [txsD (deliverR l from_).2, ints (deliverR l from_).1]) := by
  refine PSpec.of hT Try.func29 rfl (by kernel_rfl) rfl rfl ?_
  simp only [Try.f29, go_sem, Nat.reduceAdd, Nat.reduceSub, Nat.reduceMul, Nat.reduceLT, Nat.reduceLeDiff, ↓reduceIte, reduceCtorEq, Nat.reduceEqDiff, Int.reduceToNat, Int.reduceLT, Int.reduceLE, Int.reduceEq, beq_self_eq_true]
  refine awp_loop (fun n s => ∃ (r : Nat) (v : List Int) (o : List TxR) (t : Tok) (tk : List Bool) (ex : List (Sh × D)) (g : Nat → D), s = ⟨[txsD l, .lit (.int .i64 from_), g 2, g 3, g 4, .ptr 0 [], .ptr 1 [], .lst 42 (o.map txD) t, .lit (.int .i64 r), g 9, g 10, g 11, g 12, g 13, g 14, g 15, g 16, g 17, g 18, g 19, g 20, g 21, g 22, g 23, g 24, g 25, g 26, g 27, g 28, g 29, g 30, g 31, g 32, g 33, g 34, g 35, g 36, g 37, g 38, g 39, g 40, g 41, g 42, g 43, g 44, g 45, g 46, g 47], ⟨(.arr 13 .leaf, ints (zeros 13)) :: (.arr 13 .leaf, ints v) :: ex, tk⟩⟩ ∧ n = l.length - r ∧ r ≤ l.length ∧ live t tk ∧ v.length = 13 ∧ o.length ≤ r * l.length ∧ (v, o) = roundsR l from_ r) l.length ⟨0, zeros 13, [], .full, [], _, reg_intro rfl rfl ⟨by simp, by omega, trivial, zeros_len 13, by simp, rfl⟩⟩ ?_
  rintro n s ⟨r, v, o, t, tk, ex, g, rfl, hn, hr, ht, hv, hol, heq⟩
  simp only [go_sem, Nat.reduceAdd, Nat.reduceSub, Nat.reduceMul, Nat.reduceLT, Nat.reduceLeDiff, ↓reduceIte, reduceCtorEq, Nat.reduceEqDiff, Int.reduceToNat, Int.reduceLT, Int.reduceLE, Int.reduceEq, beq_self_eq_true, hv]
  refine condK_split (fun hc => ?_) (fun hc => ?_)
  · have hr' : r < l.length := by have := of_decide_eq_true hc; omega
    simp only [go_sem, Nat.reduceAdd, Nat.reduceSub, Nat.reduceMul, Nat.reduceLT, Nat.reduceLeDiff, ↓reduceIte, reduceCtorEq, Nat.reduceEqDiff, Int.reduceToNat, Int.reduceLT, Int.reduceLE, Int.reduceEq, beq_self_eq_true, hv]
    refine awp_loop (fun n s => ∃ (i : Nat) (v : List Int) (o : List TxR) (t : Tok) (tk : List Bool) (ex : List (Sh × D)) (g : Nat → D), s = ⟨[txsD l, .lit (.int .i64 from_), g 2, g 3, g 4, .ptr 0 [], .ptr 1 [], .lst 42 (o.map txD) t, .lit (.int .i64 r), .lit (.int .i64 i), g 10, g 11, g 12, g 13, g 14, g 15, g 16, g 17, g 18, g 19, g 20, g 21, g 22, g 23, g 24, g 25, g 26, g 27, g 28, g 29, g 30, g 31, g 32, g 33, g 34, g 35, g 36, g 37, g 38, g 39, g 40, g 41, g 42, g 43, g 44, g 45, g 46, g 47], ⟨(.arr 13 .leaf, ints (zeros 13)) :: (.arr 13 .leaf, ints v) :: ex, tk⟩⟩ ∧ n = l.length - i ∧ i ≤ l.length ∧ live t tk ∧ v.length = 13 ∧ o.length ≤ r * l.length + i ∧ (v, o) = passR l from_ (roundsR l from_ r) i) l.length ⟨0, v, o, t, tk, _, reg_intro rfl rfl ⟨by simp, by omega, ht, hv, by omega, by rw [heq]; rfl⟩⟩ ?_
    clear heq hol ht hv
    rintro n s ⟨i, v, o, t, tk, ex, g, rfl, hn, hi, ht, hv, hol, heq⟩
    simp only [go_sem, Nat.reduceAdd, Nat.reduceSub, Nat.reduceMul, Nat.reduceLT, Nat.reduceLeDiff, ↓reduceIte, reduceCtorEq, Nat.reduceEqDiff, Int.reduceToNat, Int.reduceLT, Int.reduceLE, Int.reduceEq, beq_self_eq_true, hv]
    refine condK_split (fun hc2 => ?_) (fun hc2 => ?_)
    · have hi' : i < l.length := by have := of_decide_eq_true hc2; omega
      have hlt := modLt i from_ l.length (by omega)
      have hw : IntKind.i64.wrap ((i : Int) + (from_ : Int)) = ((i + from_ : Nat) : Int) := by rw [wrap64] <;> omega
      have hne : ((l.length : Nat) : Int) ≠ 0 := by omega
      obtain ⟨hd, _⟩ := txsOk_at ho hlt
      have hsucc := passR_succ l from_ (roundsR l from_ r) i
      rw [← heq] at hsucc
      simp only [lookR] at hsucc
      have hrl : r * l.length + i + 1 ≤ 1640 := by
        have : r * l.length ≤ 40 * 40 := Nat.mul_le_mul (by omega) hl
        omega
      simp only [go_sem, Nat.reduceAdd, Nat.reduceSub, Nat.reduceMul, Nat.reduceLT, Nat.reduceLeDiff, ↓reduceIte, reduceCtorEq, Nat.reduceEqDiff, Int.reduceToNat, Int.reduceLT, Int.reduceLE, Int.reduceEq, beq_self_eq_true, hv, hw, hne, tmodNat, hlt, get_txs]
      generalize (i + from_) % l.length = q at hlt hd hsucc ⊢
      simp only [go_sem, Nat.reduceAdd, Nat.reduceSub, Nat.reduceMul, Nat.reduceLT, Nat.reduceLeDiff, ↓reduceIte, reduceCtorEq, Nat.reduceEqDiff, Int.reduceToNat, Int.reduceLT, Int.reduceLE, Int.reduceEq, beq_self_eq_true, hv, hlt, get_txs, hd]
      refine callK_pure (ref_ready v (txAt l q) hv hd) (by simp only [go_sem, Nat.reduceAdd, Nat.reduceSub, Nat.reduceMul, Nat.reduceLT, Nat.reduceLeDiff, ↓reduceIte, reduceCtorEq, Nat.reduceEqDiff, Int.reduceToNat, Int.reduceLT, Int.reduceLE, Int.reduceEq, beq_self_eq_true, hv, hd, pureL_ops]) (by simp only [go_sem, Nat.reduceAdd, Nat.reduceSub, Nat.reduceMul, Nat.reduceLT, Nat.reduceLeDiff, ↓reduceIte, reduceCtorEq, Nat.reduceEqDiff, Int.reduceToNat, Int.reduceLT, Int.reduceLE, Int.reduceEq, beq_self_eq_true, hv, hd, pureL_ops]) ?_; simp only [go_sem, Nat.reduceAdd, Nat.reduceSub, Nat.reduceMul, Nat.reduceLT, Nat.reduceLeDiff, ↓reduceIte, reduceCtorEq, Nat.reduceEqDiff, Int.reduceToNat, Int.reduceLT, Int.reduceLE, Int.reduceEq, beq_self_eq_true, hv, hd, pureL_ops]
      refine condK_split (fun h1 => ?_) (fun h1 => ?_)
      · obtain ⟨p0, p1⟩ := vpeer_of (ready_peer h1)
        simp only [go_sem, Nat.reduceAdd, Nat.reduceSub, Nat.reduceMul, Nat.reduceLT, Nat.reduceLeDiff, ↓reduceIte, reduceCtorEq, Nat.reduceEqDiff, Int.reduceToNat, Int.reduceLT, Int.reduceLE, Int.reduceEq, beq_self_eq_true, hv, hd, p0, p1]
        refine appK_live _ _ _ _ _ _ _ _ _ _ ht (by simp) (by simp only [go_sem, Nat.reduceAdd, Nat.reduceSub, Nat.reduceMul, Nat.reduceLT, Nat.reduceLeDiff, ↓reduceIte, reduceCtorEq, Nat.reduceEqDiff, Int.reduceToNat, Int.reduceLT, Int.reduceLE, Int.reduceEq, beq_self_eq_true]) (by simp only [go_sem, Nat.reduceAdd, Nat.reduceSub, Nat.reduceMul, Nat.reduceLT, Nat.reduceLeDiff, ↓reduceIte, reduceCtorEq, Nat.reduceEqDiff, Int.reduceToNat, Int.reduceLT, Int.reduceLE, Int.reduceEq, beq_self_eq_true, List.length_map]; omega) (fun u tk' hu => ?_)
        simp only [go_sem, Nat.reduceAdd, Nat.reduceSub, Nat.reduceMul, Nat.reduceLT, Nat.reduceLeDiff, ↓reduceIte, reduceCtorEq, Nat.reduceEqDiff, Int.reduceToNat, Int.reduceLT, Int.reduceLE, Int.reduceEq, beq_self_eq_true, hv, txs_snoc, wrapNat i (by omega)]
        rw [if_pos h1] at hsucc
        exact ⟨l.length - (i + 1), by omega, i + 1, _, _, u, tk', _, reg_intro rfl rfl ⟨rfl, by omega, hu, by simp [hv], by simp; omega, hsucc.symm⟩⟩
      · simp only [go_sem, Nat.reduceAdd, Nat.reduceSub, Nat.reduceMul, Nat.reduceLT, Nat.reduceLeDiff, ↓reduceIte, reduceCtorEq, Nat.reduceEqDiff, Int.reduceToNat, Int.reduceLT, Int.reduceLE, Int.reduceEq, beq_self_eq_true, hv, wrapNat i (by omega)]
        rw [if_neg (by rw [h1]; simp)] at hsucc
        exact ⟨l.length - (i + 1), by omega, i + 1, v, o, t, tk, _, reg_intro rfl rfl ⟨rfl, by omega, ht, hv, by omega, hsucc.symm⟩⟩
    · have hii := of_decide_eq_false hc2
      obtain rfl : i = l.length := by omega
      simp only [go_sem, Nat.reduceAdd, Nat.reduceSub, Nat.reduceMul, Nat.reduceLT, Nat.reduceLeDiff, ↓reduceIte, reduceCtorEq, Nat.reduceEqDiff, Int.reduceToNat, Int.reduceLT, Int.reduceLE, Int.reduceEq, beq_self_eq_true, hv, wrapNat r (by omega)]
      refine ⟨l.length - (r + 1), by omega, r + 1, v, o, t, tk, _, reg_intro rfl rfl ⟨rfl, by omega, ht, hv, by rw [Nat.add_mul]; omega, by rw [roundsR_succ]; exact heq⟩⟩
  · have hii := of_decide_eq_false hc
    obtain rfl : r = l.length := by omega
    have hfin : deliverR l from_ = (v, o) := heq.symm
    simp only [go_sem, Nat.reduceAdd, Nat.reduceSub, Nat.reduceMul, Nat.reduceLT, Nat.reduceLeDiff, ↓reduceIte, reduceCtorEq, Nat.reduceEqDiff, Int.reduceToNat, Int.reduceLT, Int.reduceLE, Int.reduceEq, beq_self_eq_true, hv, hfin]
    exact .inl (by kernel_rfl)
end Go.Ab
set_option linter.unusedSimpArgs false
namespace Go.Ab
open Go.Proofs

def vecOf (o : List TxR) : List Int := o.foldl (fun v t => v.set t.peer.toNat t.seq) (zeros 13)
theorem vecOf_snoc (o : List TxR) (t : TxR) : vecOf (o ++ [t]) = (vecOf o).set t.peer.toNat t.seq := by
  simp only [vecOf, List.foldl_append, List.foldl_cons, List.foldl_nil]
theorem vecOf_len : ∀ o : List TxR, (vecOf o).length = 13 := by
  have : ∀ (o : List TxR) (v : List Int), v.length = 13 → (o.foldl (fun v t => v.set t.peer.toNat t.seq) v).length = 13 := by
    intro o
    induction o with
    | nil => intro v h; exact h
    | cons t o ih => intro v h; exact ih _ (by simp [h])
  exact fun o => this o _ (zeros_len 13)
theorem txTake (o : List TxR) (m : Nat) (h : m < o.length) : o.take (m + 1) = o.take m ++ [txAt o m] := by
  unfold txAt
  rw [List.take_add_one, List.getElem?_eq_getElem h, List.getD_eq_getElem?_getD, List.getElem?_eq_getElem h]; rfl
theorem txAt_app (o : List TxR) (t : TxR) (k : Nat) (h : k < o.length) : txAt (o ++ [t]) k = txAt o k := by
  unfold txAt
  rw [List.getD_eq_getElem?_getD, List.getD_eq_getElem?_getD, List.getElem?_append_left h]
theorem txAt_last (o : List TxR) (t : TxR) : txAt (o ++ [t]) o.length = t := by
  unfold txAt
  rw [List.getD_eq_getElem?_getD]; simp
theorem txAt_mem {o : List TxR} {k : Nat} (h : k < o.length) : txAt o k ∈ o := by
  unfold txAt
  rw [List.getD_eq_getElem?_getD, List.getElem?_eq_getElem h]; exact List.getElem_mem h

structure Good (l : List TxR) (s : List Int × List TxR) : Prop where
  vec : s.1 = vecOf s.2
  mem : ∀ t ∈ s.2, t ∈ l
  rdy : ∀ k, k < s.2.length → readyTx (vecOf (s.2.take k)) (txAt s.2 k) = true

theorem good_nil (l : List TxR) : Good l (zeros 13, []) := ⟨rfl, by simp, by simp⟩
theorem good_look {l : List TxR} {from_ : Nat} {s : List Int × List TxR} {i : Nat} (h : Good l s) (hl : 0 < l.length) : Good l (lookR l from_ s i) := by
  unfold lookR
  have hlt := modLt i from_ l.length hl
  generalize (i + from_) % l.length = q at hlt ⊢
  split
  · rename_i hr
    refine ⟨by rw [vecOf_snoc, h.vec], ?_, ?_⟩
    · intro t ht
      rcases List.mem_append.1 ht with ht | ht
      · exact h.mem t ht
      · simp only [List.mem_singleton] at ht; subst ht; exact txAt_mem hlt
    · intro k hk
      simp only at hk ⊢
      rcases Nat.lt_or_ge k s.2.length with h1 | h1
      · rw [txAt_app _ _ _ h1, List.take_append_of_le_length (by omega)]; exact h.rdy k h1
      · obtain rfl : k = s.2.length := by simp at hk; omega
        rw [txAt_last, List.take_append_of_le_length (Nat.le_refl _), List.take_of_length_le (Nat.le_refl _), ← h.vec]; exact hr
  · exact h
theorem good_pass {l : List TxR} {from_ : Nat} {s : List Int × List TxR} (h : Good l s) (hl : 0 < l.length) : ∀ k, Good l (passR l from_ s k)
  | 0 => h
  | k + 1 => by rw [passR_succ]; exact good_look (good_pass h hl k) hl
theorem good_deliver (l : List TxR) (from_ : Nat) : Good l (deliverR l from_) := by
  have : ∀ r, r ≤ l.length → Good l (roundsR l from_ r) := by
    intro r
    induction r with
    | zero => intro _; exact good_nil l
    | succ r ih => intro hr; rw [roundsR_succ]; exact good_pass (ih (by omega)) (by omega) _
  exact this _ (Nat.le_refl _)

theorem pass_len (l : List TxR) (from_ : Nat) (s : List Int × List TxR) : ∀ k, (passR l from_ s k).2.length ≤ s.2.length + k
  | 0 => by simp [passR]
  | k + 1 => by
    rw [passR_succ]
    have := pass_len l from_ s k
    unfold lookR
    split
    · simp only [List.length_append, List.length_cons, List.length_nil]; omega
    · omega
theorem deliver_len (l : List TxR) (from_ : Nat) : (deliverR l from_).2.length ≤ l.length * l.length := by
  have : ∀ r, (roundsR l from_ r).2.length ≤ r * l.length := by
    intro r
    induction r with
    | zero => simp [roundsR]
    | succ r ih =>
      rw [roundsR_succ]
      have := pass_len l from_ (roundsR l from_ r) l.length
      rw [Nat.add_mul]; omega
  exact this _

theorem ready_facts {v : List Int} {t : TxR} (h : readyTx v t = true) : vpeer t.peer = true ∧ 1 ≤ t.seq ∧ v.getD t.peer.toNat 0 = t.seq - 1 ∧ vleq t.deps v = true := by
  simp only [readyTx, checkTx, dotOk, nextR, Bool.and_eq_true, decide_eq_true_eq] at h
  obtain ⟨⟨⟨⟨⟨⟨⟨a, b⟩, c⟩, _⟩, _⟩, _⟩, ⟨⟨d, e⟩, f⟩⟩, g⟩ := h
  refine ⟨a, b, ?_, g⟩
  rw [← f, wrap64] <;> omega

/-- What a beginning of what is delivered has. -/
theorem good_pre {l : List TxR} {s : List Int × List TxR} (h : Good l s) (hd : ∀ t ∈ l, t.deps.length = 13) : ∀ m, m ≤ s.2.length →
    (∀ j, j < m → vleq (txAt s.2 j).deps (vecOf (s.2.take m)) = true) ∧
    (∀ p, vpeer p = true → ∀ q, 1 ≤ q → q ≤ (vecOf (s.2.take m)).getD p.toNat 0 → ∃ j, j < m ∧ (txAt s.2 j).peer = p ∧ (txAt s.2 j).seq = q)
  | 0, _ => by
    refine ⟨by simp, fun p hp q h1 h2 => ?_⟩
    exfalso
    have : (vecOf ([] : List TxR)).getD p.toNat 0 = 0 := by
      simp only [vecOf, List.foldl_nil]
      rw [List.getD_eq_getElem?_getD]
      cases hz : (zeros 13)[p.toNat]? with
      | none => rfl
      | some x =>
        have : ∀ x ∈ zeros 13, x = 0 := by decide +kernel
        simp [this x (List.mem_of_getElem? hz)]
    rw [List.take_zero, this] at h2
    omega
  | m + 1, hm => by
    obtain ⟨a, b⟩ := good_pre h hd m (by omega)
    have hr := h.rdy m (by omega)
    obtain ⟨f1, f2, f3, f4⟩ := ready_facts hr
    have hlen := vecOf_len (s.2.take m)
    obtain ⟨p0, p1⟩ := vpeer_of f1
    have hv : vecOf (s.2.take (m + 1)) = (vecOf (s.2.take m)).set (txAt s.2 m).peer.toNat (txAt s.2 m).seq := by rw [txTake _ _ (by omega), vecOf_snoc]
    have hup : vleq (vecOf (s.2.take m)) (vecOf (s.2.take (m + 1))) = true := by
      rw [vleq_iff _ _ hlen (vecOf_len _), hv]
      intro p hp
      rw [getD_set _ _ _ _ (by omega)]
      split
      · rename_i e; subst e; rw [f3]; omega
      · exact Int.le_refl _
    have dl : ∀ j, j < s.2.length → (txAt s.2 j).deps.length = 13 := fun j hj => hd _ (h.mem _ (txAt_mem hj))
    refine ⟨fun j hj => ?_, fun p hp q h1 h2 => ?_⟩
    · by_cases e : j = m
      · subst e; exact vleq_trans (dl j (by omega)) hlen (vecOf_len _) f4 hup
      · exact vleq_trans (dl j (by omega)) hlen (vecOf_len _) (a j (by omega)) hup
    · rw [hv, getD_set _ _ _ _ (by omega)] at h2
      split at h2
      · rename_i e
        have hpe : p = (txAt s.2 m).peer := by have := vpeer_of hp; omega
        by_cases hq : q = (txAt s.2 m).seq
        · exact ⟨m, by omega, hpe.symm, hq.symm⟩
        · have hq2 : q ≤ (vecOf (s.2.take m)).getD p.toNat 0 := by rw [e, f3]; omega
          obtain ⟨j, hj, hh⟩ := b p hp q h1 hq2
          exact ⟨j, by omega, hh⟩
      · obtain ⟨j, hj, hh⟩ := b p hp q h1 h2
        exact ⟨j, by omega, hh⟩

/-- Transactions of one Dot have seen the same. -/
theorem apart_deps {l : List TxR} (h : apartTx l = true) {a b : TxR} (ha : a ∈ l) (hb : b ∈ l) (hp : a.peer = b.peer) (hs : a.seq = b.seq) : a.deps = b.deps := by
  obtain ⟨i, hi, rfl⟩ := List.mem_iff_getElem.1 ha
  obtain ⟨k, hk, rfl⟩ := List.mem_iff_getElem.1 hb
  have at_ : ∀ {j} (hj : j < l.length), txAt l j = l[j] := fun {j} hj => by
    unfold txAt
    rw [List.getD_eq_getElem?_getD, List.getElem?_eq_getElem hj, Option.getD_some]
  have key : ∀ {i k : Nat} (hi : i < l.length) (hk : k < l.length), k < i → l[k].peer = l[i].peer → l[k].seq = l[i].seq → l[k].deps = l[i].deps := by
    intro i k hi hk hlt e1 e2
    simp only [apartTx, List.all_eq_true, List.mem_range] at h
    have := h i hi k hlt
    simp only [apartAt, dotEq16, at_ hi, at_ hk, e1, e2, decide_true, Bool.and_self, Bool.not_true, Bool.false_or, sameTx, Bool.and_eq_true, decide_eq_true_eq] at this
    exact this.1.1.2
  rcases Nat.lt_trichotomy i k with h1 | h1 | h1
  · exact key hk hi h1 hp hs
  · subst h1; rfl
  · exact (key hi hk h1 hp.symm hs.symm).symm
end Go.Ab
