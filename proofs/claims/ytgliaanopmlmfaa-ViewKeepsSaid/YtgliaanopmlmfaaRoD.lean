/- Who is there: a transaction taken in; both answers are the same. Conditions: none. -/
import Derived.Test.YtgliaanopmlmfaaRoC
set_option linter.unusedSimpArgs false
namespace Go.Ab
open Go.Proofs

/-- An op on who joined, and who left. -/
def goR (p : List Int × List Int) (o : OpR) : List Int × List Int :=
  if o.kind ≠ 7 then p else if o.act = 1 then (withL p.1 o.n, p.2) else (p.1, withL p.2 o.n)
def applyL (j l : List Int) (t : TxR) : List Int × List Int := if rosterOk j && rosterOk l && checkTx t then t.ops.foldl goR (j, l) else (j, l)

theorem mem_insL {n m : Int} : ∀ {l : List Int}, m ∈ insL n l ↔ m = n ∨ m ∈ l
  | [] => by simp [insL]
  | x :: r => by
    unfold insL
    split
    · simp
    · simp only [List.mem_cons, mem_insL (l := r)]
      constructor
      · rintro (h | h | h) <;> simp [h]
      · rintro (h | h | h) <;> simp [h]
theorem insL_strict {n : Int} : ∀ {l : List Int}, l.Pairwise (· < ·) → n ∉ l → (insL n l).Pairwise (· < ·)
  | [], _, _ => by simp [insL]
  | x :: r, h, hn => by
    rw [List.pairwise_cons] at h
    simp only [List.mem_cons, not_or] at hn
    unfold insL
    split
    · rename_i hx
      refine List.pairwise_cons.2 ⟨fun y hy => ?_, List.pairwise_cons.2 h⟩
      rcases List.mem_cons.1 hy with rfl | hy
      · exact hx
      · have := h.1 y hy; omega
    · rename_i hx
      refine List.pairwise_cons.2 ⟨fun y hy => ?_, insL_strict h.2 hn.2⟩
      rcases mem_insL.1 hy with rfl | hy
      · omega
      · exact h.1 y hy
theorem mem_withL {l : List Int} {n m : Int} : m ∈ withL l n ↔ m = n ∨ m ∈ l := by
  unfold withL
  split
  · rename_i h
    exact ⟨.inr, fun h' => h'.elim (fun e => e ▸ h) id⟩
  · exact mem_insL
theorem withL_strict {l : List Int} {n : Int} (h : l.Pairwise (· < ·)) : (withL l n).Pairwise (· < ·) := by
  unfold withL
  split
  · exact h
  · rename_i hn; exact insL_strict h hn
theorem withL_len (l : List Int) (n : Int) : (withL l n).length ≤ l.length + 1 := by
  unfold withL
  split
  · omega
  · rw [insL_len]; omega
theorem goR_strict {p : List Int × List Int} {o : OpR} (h1 : p.1.Pairwise (· < ·)) (h2 : p.2.Pairwise (· < ·)) : (goR p o).1.Pairwise (· < ·) ∧ (goR p o).2.Pairwise (· < ·) := by
  unfold goR
  split
  · exact ⟨h1, h2⟩
  · split
    · exact ⟨withL_strict h1, h2⟩
    · exact ⟨h1, withL_strict h2⟩
theorem goR_len (p : List Int × List Int) (o : OpR) : (goR p o).1.length ≤ p.1.length + 1 ∧ (goR p o).2.length ≤ p.2.length + 1 := by
  unfold goR
  split
  · omega
  · split
    · have := withL_len p.1 o.n; simp only; omega
    · have := withL_len p.2 o.n; simp only; omega
theorem take_ops (t : TxR) (k : Nat) (hk : k < t.ops.length) : t.ops.take (k + 1) = t.ops.take k ++ [opAt t k] := by
  rw [List.take_add_one, List.getElem?_eq_getElem hk, opAt, List.getD_eq_getElem?_getD, List.getElem?_eq_getElem hk]; rfl
/-- What some ops come to. -/
def upto (j l : List Int) (t : TxR) (k : Nat) : List Int × List Int := (t.ops.take k).foldl goR (j, l)
theorem upto_succ (j l : List Int) (t : TxR) (k : Nat) (hk : k < t.ops.length) : upto j l t (k + 1) = goR (upto j l t k) (opAt t k) := by
  simp only [upto, take_ops t k hk, List.foldl_append, List.foldl_cons, List.foldl_nil]
theorem upto_len (j l : List Int) (t : TxR) (k : Nat) (hk : k ≤ t.ops.length) : (upto j l t k).1.length ≤ j.length + k ∧ (upto j l t k).2.length ≤ l.length + k := by
  induction k with
  | zero => simp [upto]
  | succ k ih =>
    have := ih (by omega)
    rw [upto_succ j l t k (by omega)]
    have := goR_len (upto j l t k) (opAt t k)
    omega
theorem upto_strict {j l : List Int} (t : TxR) (h1 : j.Pairwise (· < ·)) (h2 : l.Pairwise (· < ·)) (k : Nat) (hk : k ≤ t.ops.length) : (upto j l t k).1.Pairwise (· < ·) ∧ (upto j l t k).2.Pairwise (· < ·) := by
  induction k with
  | zero => exact ⟨h1, h2⟩
  | succ k ih =>
    have := ih (by omega)
    rw [upto_succ j l t k (by omega)]
    exact goR_strict this.1 this.2

set_option maxRecDepth 8000 in
theorem ref18_apply (j l : List Int) (t : TxR) (hd : t.deps.length = 13) (hj : j.length < 1000000) (hl : l.length < 1000000) (ht : t.ops.length ≤ 1000) :
    PSpec Try.prog CT 22 [intsL j .no, intsL l .no, txD t] (· = .tup [intsL (applyL j l t).1 .no, intsL (applyL j l t).2 .no]) := by
  refine PSpec.of hT Try.func22 rfl (by kernel_rfl) rfl rfl ?_
  simp only [Try.f22, go_sem, Nat.reduceAdd, Nat.reduceSub, Nat.reduceMul, Nat.reduceLT, Nat.reduceLeDiff, ↓reduceIte, reduceCtorEq, Nat.reduceEqDiff, Int.reduceToNat, Int.reduceLT, Int.reduceLE, Int.reduceEq, beq_self_eq_true, hd]
  refine callK_pure (ref18_check j (by omega)) (by simp only [go_sem, Nat.reduceAdd, Nat.reduceSub, Nat.reduceMul, Nat.reduceLT, Nat.reduceLeDiff, ↓reduceIte, reduceCtorEq, Nat.reduceEqDiff, Int.reduceToNat, Int.reduceLT, Int.reduceLE, Int.reduceEq, beq_self_eq_true, hd, intsL]) (by simp only [go_sem, Nat.reduceAdd, Nat.reduceSub, Nat.reduceMul, Nat.reduceLT, Nat.reduceLeDiff, ↓reduceIte, reduceCtorEq, Nat.reduceEqDiff, Int.reduceToNat, Int.reduceLT, Int.reduceLE, Int.reduceEq, beq_self_eq_true, hd, intsL]) ?_; simp only [go_sem, Nat.reduceAdd, Nat.reduceSub, Nat.reduceMul, Nat.reduceLT, Nat.reduceLeDiff, ↓reduceIte, reduceCtorEq, Nat.reduceEqDiff, Int.reduceToNat, Int.reduceLT, Int.reduceLE, Int.reduceEq, beq_self_eq_true, hd, intsL]
  refine guardK_split (fun h1 => ?_) (fun h1 => ?_)
  · simp only [Bool.not_eq_true'] at h1
    simp only [go_sem, Nat.reduceAdd, Nat.reduceSub, Nat.reduceMul, Nat.reduceLT, Nat.reduceLeDiff, ↓reduceIte, reduceCtorEq, Nat.reduceEqDiff, Int.reduceToNat, Int.reduceLT, Int.reduceLE, Int.reduceEq, beq_self_eq_true, h1, hd, applyL, Bool.false_and, intsL]
  simp only [Bool.not_eq_false'] at h1
  simp only [go_sem, Nat.reduceAdd, Nat.reduceSub, Nat.reduceMul, Nat.reduceLT, Nat.reduceLeDiff, ↓reduceIte, reduceCtorEq, Nat.reduceEqDiff, Int.reduceToNat, Int.reduceLT, Int.reduceLE, Int.reduceEq, beq_self_eq_true, h1, hd]
  refine callK_pure (ref18_check l (by omega)) (by simp only [go_sem, Nat.reduceAdd, Nat.reduceSub, Nat.reduceMul, Nat.reduceLT, Nat.reduceLeDiff, ↓reduceIte, reduceCtorEq, Nat.reduceEqDiff, Int.reduceToNat, Int.reduceLT, Int.reduceLE, Int.reduceEq, beq_self_eq_true, h1, hd]) (by simp only [go_sem, Nat.reduceAdd, Nat.reduceSub, Nat.reduceMul, Nat.reduceLT, Nat.reduceLeDiff, ↓reduceIte, reduceCtorEq, Nat.reduceEqDiff, Int.reduceToNat, Int.reduceLT, Int.reduceLE, Int.reduceEq, beq_self_eq_true, h1, hd]) ?_; simp only [go_sem, Nat.reduceAdd, Nat.reduceSub, Nat.reduceMul, Nat.reduceLT, Nat.reduceLeDiff, ↓reduceIte, reduceCtorEq, Nat.reduceEqDiff, Int.reduceToNat, Int.reduceLT, Int.reduceLE, Int.reduceEq, beq_self_eq_true, h1, hd]
  refine guardK_split (fun h2 => ?_) (fun h2 => ?_)
  · simp only [Bool.not_eq_true'] at h2
    simp only [go_sem, Nat.reduceAdd, Nat.reduceSub, Nat.reduceMul, Nat.reduceLT, Nat.reduceLeDiff, ↓reduceIte, reduceCtorEq, Nat.reduceEqDiff, Int.reduceToNat, Int.reduceLT, Int.reduceLE, Int.reduceEq, beq_self_eq_true, h1, h2, hd, applyL, Bool.false_and, Bool.and_false, intsL]
  simp only [Bool.not_eq_false'] at h2
  simp only [go_sem, Nat.reduceAdd, Nat.reduceSub, Nat.reduceMul, Nat.reduceLT, Nat.reduceLeDiff, ↓reduceIte, reduceCtorEq, Nat.reduceEqDiff, Int.reduceToNat, Int.reduceLT, Int.reduceLE, Int.reduceEq, beq_self_eq_true, h1, h2, hd]
  refine callK_pure (ref_checkTx t hd) (by simp only [go_sem, Nat.reduceAdd, Nat.reduceSub, Nat.reduceMul, Nat.reduceLT, Nat.reduceLeDiff, ↓reduceIte, reduceCtorEq, Nat.reduceEqDiff, Int.reduceToNat, Int.reduceLT, Int.reduceLE, Int.reduceEq, beq_self_eq_true, h1, h2, hd]) (by simp only [go_sem, Nat.reduceAdd, Nat.reduceSub, Nat.reduceMul, Nat.reduceLT, Nat.reduceLeDiff, ↓reduceIte, reduceCtorEq, Nat.reduceEqDiff, Int.reduceToNat, Int.reduceLT, Int.reduceLE, Int.reduceEq, beq_self_eq_true, h1, h2, hd]) ?_; simp only [go_sem, Nat.reduceAdd, Nat.reduceSub, Nat.reduceMul, Nat.reduceLT, Nat.reduceLeDiff, ↓reduceIte, reduceCtorEq, Nat.reduceEqDiff, Int.reduceToNat, Int.reduceLT, Int.reduceLE, Int.reduceEq, beq_self_eq_true, h1, h2, hd]
  refine condK_split (fun h3 => ?_) (fun h3 => ?_)
  · simp only [Bool.not_eq_true'] at h3
    simp only [go_sem, Nat.reduceAdd, Nat.reduceSub, Nat.reduceMul, Nat.reduceLT, Nat.reduceLeDiff, ↓reduceIte, reduceCtorEq, Nat.reduceEqDiff, Int.reduceToNat, Int.reduceLT, Int.reduceLE, Int.reduceEq, beq_self_eq_true, h1, h2, h3, hd, applyL, Bool.and_false, intsL]
  simp only [Bool.not_eq_false'] at h3
  have hv : applyL j l t = t.ops.foldl goR (j, l) := by simp only [applyL, h1, h2, h3, Bool.and_self, if_true]
  simp only [go_sem, Nat.reduceAdd, Nat.reduceSub, Nat.reduceMul, Nat.reduceLT, Nat.reduceLeDiff, ↓reduceIte, reduceCtorEq, Nat.reduceEqDiff, Int.reduceToNat, Int.reduceLT, Int.reduceLE, Int.reduceEq, beq_self_eq_true]
  refine awp_loop (fun n s => ∃ (k : Nat) (g : Nat → D), s = ⟨[intsL (upto j l t k).1 .no, intsL (upto j l t k).2 .no, g 2, g 3, g 4, .ptr 0 [], g 6, g 7, .lit (.int .i64 k), g 9, g 10, g 11, g 12, g 13, g 14, g 15, g 16, g 17, g 18, g 19, g 20, g 21, g 22, g 23, g 24, g 25, g 26, g 27, g 28, g 29, g 30, g 31, g 32, g 33, g 34, g 35, g 36, g 37, g 38, g 39, g 40, g 41, g 42, g 43, g 44, g 45, g 46, g 47, g 48, g 49, g 50, g 51, g 52, g 53, g 54, g 55, g 56, g 57, g 58, g 59, g 60, g 61, g 62], ⟨[(txSh, txD t)], []⟩⟩ ∧ n = t.ops.length - k ∧ k ≤ t.ops.length) t.ops.length ⟨0, reg_intro rfl rfl ⟨by simp, by omega⟩⟩ ?_
  rintro n s ⟨k, g, rfl, hn, hk⟩
  obtain ⟨q1, q2⟩ := upto_len j l t k hk
  simp only [go_sem, Nat.reduceAdd, Nat.reduceSub, Nat.reduceMul, Nat.reduceLT, Nat.reduceLeDiff, ↓reduceIte, reduceCtorEq, Nat.reduceEqDiff, Int.reduceToNat, Int.reduceLT, Int.reduceLE, Int.reduceEq, beq_self_eq_true, hd]
  refine condK_split (fun hc => ?_) (fun hc => ?_)
  · have hk' : k < t.ops.length := by have := of_decide_eq_true hc; omega
    have hs := upto_succ j l t k hk'
    simp only [go_sem, Nat.reduceAdd, Nat.reduceSub, Nat.reduceMul, Nat.reduceLT, Nat.reduceLeDiff, ↓reduceIte, reduceCtorEq, Nat.reduceEqDiff, Int.reduceToNat, Int.reduceLT, Int.reduceLE, Int.reduceEq, beq_self_eq_true, hd, hk', get_ops]
    refine condK_split (fun h4 => ?_) (fun h4 => ?_)
    · have h4' : (opAt t k).kind ≠ 7 := by simpa using h4
      simp only [goR, if_pos h4'] at hs
      simp only [go_sem, Nat.reduceAdd, Nat.reduceSub, Nat.reduceMul, Nat.reduceLT, Nat.reduceLeDiff, ↓reduceIte, reduceCtorEq, Nat.reduceEqDiff, Int.reduceToNat, Int.reduceLT, Int.reduceLE, Int.reduceEq, beq_self_eq_true, hd, hk', get_ops, wrapNat k (by omega)]
      rw [← hs]
      refine ⟨t.ops.length - (k + 1), by omega, k + 1, reg_intro rfl rfl ⟨rfl, by omega⟩⟩
    · have h4' : ¬ (opAt t k).kind ≠ 7 := by simpa using h4
      simp only [go_sem, Nat.reduceAdd, Nat.reduceSub, Nat.reduceMul, Nat.reduceLT, Nat.reduceLeDiff, ↓reduceIte, reduceCtorEq, Nat.reduceEqDiff, Int.reduceToNat, Int.reduceLT, Int.reduceLE, Int.reduceEq, beq_self_eq_true, hd, hk', get_ops]
      refine condK_split (fun h5 => ?_) (fun h5 => ?_)
      · have h5' := of_decide_eq_true h5
        simp only [goR, if_neg h4', if_pos h5'] at hs
        simp only [go_sem, Nat.reduceAdd, Nat.reduceSub, Nat.reduceMul, Nat.reduceLT, Nat.reduceLeDiff, ↓reduceIte, reduceCtorEq, Nat.reduceEqDiff, Int.reduceToNat, Int.reduceLT, Int.reduceLE, Int.reduceEq, beq_self_eq_true, hd, hk', get_ops]
        refine callK_pure (ref18_with (upto j l t k).1 (opAt t k).n (by omega)) (by simp only [go_sem, Nat.reduceAdd, Nat.reduceSub, Nat.reduceMul, Nat.reduceLT, Nat.reduceLeDiff, ↓reduceIte, reduceCtorEq, Nat.reduceEqDiff, Int.reduceToNat, Int.reduceLT, Int.reduceLE, Int.reduceEq, beq_self_eq_true, hd, wrapNat k (by omega)]) (by simp only [go_sem, Nat.reduceAdd, Nat.reduceSub, Nat.reduceMul, Nat.reduceLT, Nat.reduceLeDiff, ↓reduceIte, reduceCtorEq, Nat.reduceEqDiff, Int.reduceToNat, Int.reduceLT, Int.reduceLE, Int.reduceEq, beq_self_eq_true, hd, wrapNat k (by omega)]) ?_; simp only [go_sem, Nat.reduceAdd, Nat.reduceSub, Nat.reduceMul, Nat.reduceLT, Nat.reduceLeDiff, ↓reduceIte, reduceCtorEq, Nat.reduceEqDiff, Int.reduceToNat, Int.reduceLT, Int.reduceLE, Int.reduceEq, beq_self_eq_true, hd, wrapNat k (by omega)]
        refine ⟨t.ops.length - (k + 1), by omega, k + 1, by rw [hs]; exact reg_intro rfl rfl ⟨rfl, by omega⟩⟩
      · have h5' := of_decide_eq_false h5
        simp only [goR, if_neg h4', if_neg h5'] at hs
        simp only [go_sem, Nat.reduceAdd, Nat.reduceSub, Nat.reduceMul, Nat.reduceLT, Nat.reduceLeDiff, ↓reduceIte, reduceCtorEq, Nat.reduceEqDiff, Int.reduceToNat, Int.reduceLT, Int.reduceLE, Int.reduceEq, beq_self_eq_true, hd, hk', get_ops]
        refine callK_pure (ref18_with (upto j l t k).2 (opAt t k).n (by omega)) (by simp only [go_sem, Nat.reduceAdd, Nat.reduceSub, Nat.reduceMul, Nat.reduceLT, Nat.reduceLeDiff, ↓reduceIte, reduceCtorEq, Nat.reduceEqDiff, Int.reduceToNat, Int.reduceLT, Int.reduceLE, Int.reduceEq, beq_self_eq_true, hd, wrapNat k (by omega)]) (by simp only [go_sem, Nat.reduceAdd, Nat.reduceSub, Nat.reduceMul, Nat.reduceLT, Nat.reduceLeDiff, ↓reduceIte, reduceCtorEq, Nat.reduceEqDiff, Int.reduceToNat, Int.reduceLT, Int.reduceLE, Int.reduceEq, beq_self_eq_true, hd, wrapNat k (by omega)]) ?_; simp only [go_sem, Nat.reduceAdd, Nat.reduceSub, Nat.reduceMul, Nat.reduceLT, Nat.reduceLeDiff, ↓reduceIte, reduceCtorEq, Nat.reduceEqDiff, Int.reduceToNat, Int.reduceLT, Int.reduceLE, Int.reduceEq, beq_self_eq_true, hd, wrapNat k (by omega)]
        refine ⟨t.ops.length - (k + 1), by omega, k + 1, by rw [hs]; exact reg_intro rfl rfl ⟨rfl, by omega⟩⟩
  · have hi := of_decide_eq_false hc
    obtain rfl : k = t.ops.length := by omega
    simp only [go_sem, Nat.reduceAdd, Nat.reduceSub, Nat.reduceMul, Nat.reduceLT, Nat.reduceLeDiff, ↓reduceIte, reduceCtorEq, Nat.reduceEqDiff, Int.reduceToNat, Int.reduceLT, Int.reduceLE, Int.reduceEq, beq_self_eq_true, hd, hv, upto, List.take_length]
end Go.Ab
