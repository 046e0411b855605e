/- Who is there: the program takes a transaction in; epochs. Conditions: none. -/
import Derived.Test.YtgliaanopmlmfaaRoD
set_option linter.unusedSimpArgs false
namespace Go.Ab
open Go.Proofs

theorem get_opsM (t : TxR) (k : Nat) (h : (k < t.ops.length) = True) : (t.ops.map opD)[k]? = some (opD (opAt t k)) := get_ops t k h
theorem goR_mem1 {p : List Int × List Int} {o : OpR} (h : o.kind = 7) (ha : o.act = 1) (n : Int) : (n ∈ (goR p o).1 ↔ n ∈ p.1 ∨ n = o.n) ∧ (goR p o).2 = p.2 := by
  have h1 : ¬ o.kind ≠ 7 := by simpa using h
  simp only [goR, if_neg h1, if_pos ha, mem_withL, and_true]
  exact Or.comm
theorem goR_mem2 {p : List Int × List Int} {o : OpR} (h : o.kind = 7) (ha : o.act ≠ 1) (n : Int) : (n ∈ (goR p o).2 ↔ n ∈ p.2 ∨ n = o.n) ∧ (goR p o).1 = p.1 := by
  have h1 : ¬ o.kind ≠ 7 := by simpa using h
  simp only [goR, if_neg h1, if_neg ha, mem_withL, and_true]
  exact Or.comm
theorem goR_no {p : List Int × List Int} {o : OpR} (h : o.kind ≠ 7) : goR p o = p := by simp only [goR, if_pos h]
theorem nodup_sub {z l : List Int} (h : z.Nodup) (hs : ∀ n, n ∈ z ↔ n ∈ l) : z.length ≤ l.length := h.length_le_of_subset fun n hn => (hs n).1 hn

set_option maxRecDepth 8000 in
theorem roster_apply (j l : List Int) (t : TxR) (hd : t.deps.length = 13) (hj : j.length < 1000) (hl : l.length < 1000) (ht : t.ops.length ≤ 1000) :
    PSpec Try.prog CT 21 [intsL j .no, intsL l .no, txD t] (· = .tup [intsL (applyL j l t).1 .no, intsL (applyL j l t).2 .no]) := by
  refine PSpec.of hT Try.func21 rfl (by kernel_rfl) rfl rfl ?_
  simp only [Try.f21, go_sem, Nat.reduceAdd, Nat.reduceSub, Nat.reduceMul, Nat.reduceLT, Nat.reduceLeDiff, ↓reduceIte, reduceCtorEq, Nat.reduceEqDiff, Int.reduceToNat, Int.reduceLT, Int.reduceLE, Int.reduceEq, beq_self_eq_true, hd]
  refine callK_pure (roster_check j (by omega)) (by simp only [go_sem, Nat.reduceAdd, Nat.reduceSub, Nat.reduceMul, Nat.reduceLT, Nat.reduceLeDiff, ↓reduceIte, reduceCtorEq, Nat.reduceEqDiff, Int.reduceToNat, Int.reduceLT, Int.reduceLE, Int.reduceEq, beq_self_eq_true, hd, intsL]) (by simp only [go_sem, Nat.reduceAdd, Nat.reduceSub, Nat.reduceMul, Nat.reduceLT, Nat.reduceLeDiff, ↓reduceIte, reduceCtorEq, Nat.reduceEqDiff, Int.reduceToNat, Int.reduceLT, Int.reduceLE, Int.reduceEq, beq_self_eq_true, hd, intsL]) ?_; simp only [go_sem, Nat.reduceAdd, Nat.reduceSub, Nat.reduceMul, Nat.reduceLT, Nat.reduceLeDiff, ↓reduceIte, reduceCtorEq, Nat.reduceEqDiff, Int.reduceToNat, Int.reduceLT, Int.reduceLE, Int.reduceEq, beq_self_eq_true, hd, intsL]
  refine guardK_split (fun h1 => ?_) (fun h1 => ?_)
  · simp only [Bool.not_eq_true'] at h1
    simp only [go_sem, Nat.reduceAdd, Nat.reduceSub, Nat.reduceMul, Nat.reduceLT, Nat.reduceLeDiff, ↓reduceIte, reduceCtorEq, Nat.reduceEqDiff, Int.reduceToNat, Int.reduceLT, Int.reduceLE, Int.reduceEq, beq_self_eq_true, h1, hd, applyL, Bool.false_and, intsL]
  simp only [Bool.not_eq_false'] at h1
  simp only [go_sem, Nat.reduceAdd, Nat.reduceSub, Nat.reduceMul, Nat.reduceLT, Nat.reduceLeDiff, ↓reduceIte, reduceCtorEq, Nat.reduceEqDiff, Int.reduceToNat, Int.reduceLT, Int.reduceLE, Int.reduceEq, beq_self_eq_true, h1, hd]
  refine callK_pure (roster_check l (by omega)) (by simp only [go_sem, Nat.reduceAdd, Nat.reduceSub, Nat.reduceMul, Nat.reduceLT, Nat.reduceLeDiff, ↓reduceIte, reduceCtorEq, Nat.reduceEqDiff, Int.reduceToNat, Int.reduceLT, Int.reduceLE, Int.reduceEq, beq_self_eq_true, h1, hd]) (by simp only [go_sem, Nat.reduceAdd, Nat.reduceSub, Nat.reduceMul, Nat.reduceLT, Nat.reduceLeDiff, ↓reduceIte, reduceCtorEq, Nat.reduceEqDiff, Int.reduceToNat, Int.reduceLT, Int.reduceLE, Int.reduceEq, beq_self_eq_true, h1, hd]) ?_; simp only [go_sem, Nat.reduceAdd, Nat.reduceSub, Nat.reduceMul, Nat.reduceLT, Nat.reduceLeDiff, ↓reduceIte, reduceCtorEq, Nat.reduceEqDiff, Int.reduceToNat, Int.reduceLT, Int.reduceLE, Int.reduceEq, beq_self_eq_true, h1, hd]
  refine guardK_split (fun h2 => ?_) (fun h2 => ?_)
  · simp only [Bool.not_eq_true'] at h2
    simp only [go_sem, Nat.reduceAdd, Nat.reduceSub, Nat.reduceMul, Nat.reduceLT, Nat.reduceLeDiff, ↓reduceIte, reduceCtorEq, Nat.reduceEqDiff, Int.reduceToNat, Int.reduceLT, Int.reduceLE, Int.reduceEq, beq_self_eq_true, h1, h2, hd, applyL, Bool.false_and, Bool.and_false, intsL]
  simp only [Bool.not_eq_false'] at h2
  simp only [go_sem, Nat.reduceAdd, Nat.reduceSub, Nat.reduceMul, Nat.reduceLT, Nat.reduceLeDiff, ↓reduceIte, reduceCtorEq, Nat.reduceEqDiff, Int.reduceToNat, Int.reduceLT, Int.reduceLE, Int.reduceEq, beq_self_eq_true, h1, h2, hd]
  refine callK_pure (ops_checkTx t hd) (by simp only [go_sem, Nat.reduceAdd, Nat.reduceSub, Nat.reduceMul, Nat.reduceLT, Nat.reduceLeDiff, ↓reduceIte, reduceCtorEq, Nat.reduceEqDiff, Int.reduceToNat, Int.reduceLT, Int.reduceLE, Int.reduceEq, beq_self_eq_true, h1, h2, hd]) (by simp only [go_sem, Nat.reduceAdd, Nat.reduceSub, Nat.reduceMul, Nat.reduceLT, Nat.reduceLeDiff, ↓reduceIte, reduceCtorEq, Nat.reduceEqDiff, Int.reduceToNat, Int.reduceLT, Int.reduceLE, Int.reduceEq, beq_self_eq_true, h1, h2, hd]) ?_; simp only [go_sem, Nat.reduceAdd, Nat.reduceSub, Nat.reduceMul, Nat.reduceLT, Nat.reduceLeDiff, ↓reduceIte, reduceCtorEq, Nat.reduceEqDiff, Int.reduceToNat, Int.reduceLT, Int.reduceLE, Int.reduceEq, beq_self_eq_true, h1, h2, hd]
  refine condK_split (fun h3 => ?_) (fun h3 => ?_)
  · simp only [Bool.not_eq_true'] at h3
    simp only [go_sem, Nat.reduceAdd, Nat.reduceSub, Nat.reduceMul, Nat.reduceLT, Nat.reduceLeDiff, ↓reduceIte, reduceCtorEq, Nat.reduceEqDiff, Int.reduceToNat, Int.reduceLT, Int.reduceLE, Int.reduceEq, beq_self_eq_true, h1, h2, h3, hd, applyL, Bool.and_false, intsL]
  simp only [Bool.not_eq_false'] at h3
  have hv : applyL j l t = upto j l t t.ops.length := by simp only [applyL, h1, h2, h3, Bool.and_self, if_true, upto, List.take_length]
  simp only [go_sem, Nat.reduceAdd, Nat.reduceSub, Nat.reduceMul, Nat.reduceLT, Nat.reduceLeDiff, ↓reduceIte, reduceCtorEq, Nat.reduceEqDiff, Int.reduceToNat, Int.reduceLT, Int.reduceLE, Int.reduceEq, beq_self_eq_true]
  refine callK_h (roster_opened j (by omega) _) ?_
  rintro _ _ ⟨z1, c1, rfl, rfl, hz1, hm1⟩
  simp only [go_sem, Nat.reduceAdd, Nat.reduceSub, Nat.reduceMul, Nat.reduceLT, Nat.reduceLeDiff, ↓reduceIte, reduceCtorEq, Nat.reduceEqDiff, Int.reduceToNat, Int.reduceLT, Int.reduceLE, Int.reduceEq, beq_self_eq_true]
  refine callK_h (roster_opened l (by omega) _) ?_
  rintro _ _ ⟨z2, c2, rfl, rfl, hz2, hm2⟩
  simp only [go_sem, Nat.reduceAdd, Nat.reduceSub, Nat.reduceMul, Nat.reduceLT, Nat.reduceLeDiff, ↓reduceIte, reduceCtorEq, Nat.reduceEqDiff, Int.reduceToNat, Int.reduceLT, Int.reduceLE, Int.reduceEq, beq_self_eq_true, hd]
  refine awp_loop (fun n s => ∃ (k : Nat) (u1 u2 : List Int) (d1 d2 : Nat) (ex : List (Sh × D)) (g : Nat → D), s = ⟨[g 0, g 1, g 2, g 3, g 4, .ptr 0 [], g 6, g 7, .mref 1, .mref 2, g 10, g 11, g 12, g 13, g 14, g 15, g 16, g 17, g 18, g 19, g 20, g 21, g 22, g 23, g 24, g 25, g 26, g 27, g 28, g 29, g 30, g 31, opsD t.ops, .lit (.int .i64 t.ops.length), .lit (.int .i64 k), g 35, g 36, g 37, g 38, g 39, g 40, g 41, g 42, g 43, g 44, g 45, g 46, g 47, g 48, g 49, g 50, g 51, g 52, g 53, g 54, g 55, g 56], ⟨(txSh, txD t) :: (.obj 1, setD u1 d1) :: (.obj 1, setD u2 d2) :: ex, []⟩⟩ ∧ n = t.ops.length - k ∧ k ≤ t.ops.length ∧ u1.Nodup ∧ u2.Nodup ∧ (∀ n, n ∈ u1 ↔ n ∈ (upto j l t k).1) ∧ (∀ n, n ∈ u2 ↔ n ∈ (upto j l t k).2)) t.ops.length ⟨0, z1, z2, c1, c2, [], reg_intro rfl rfl ⟨by simp, by omega, hz1, hz2, hm1, hm2⟩⟩ ?_
  rintro n s ⟨k, u1, u2, d1, d2, ex, g, rfl, hn, hk, hu1, hu2, hq1, hq2⟩
  obtain ⟨q1, q2⟩ := upto_len j l t k hk
  simp only [go_sem, Nat.reduceAdd, Nat.reduceSub, Nat.reduceMul, Nat.reduceLT, Nat.reduceLeDiff, ↓reduceIte, reduceCtorEq, Nat.reduceEqDiff, Int.reduceToNat, Int.reduceLT, Int.reduceLE, Int.reduceEq, beq_self_eq_true, hd]
  refine condK_split (fun hc => ?_) (fun hc => ?_)
  · have hk' : k < t.ops.length := by have := of_decide_eq_true hc; omega
    have hs := upto_succ j l t k hk'
    simp only [go_sem, Nat.reduceAdd, Nat.reduceSub, Nat.reduceMul, Nat.reduceLT, Nat.reduceLeDiff, ↓reduceIte, reduceCtorEq, Nat.reduceEqDiff, Int.reduceToNat, Int.reduceLT, Int.reduceLE, Int.reduceEq, beq_self_eq_true, hd, hk', get_ops]
    refine condK_split (fun h4 => ?_) (fun h4 => ?_)
    · have h4' : (opAt t k).kind ≠ 7 := by simpa using h4
      rw [goR_no h4'] at hs
      simp only [go_sem, Nat.reduceAdd, Nat.reduceSub, Nat.reduceMul, Nat.reduceLT, Nat.reduceLeDiff, ↓reduceIte, reduceCtorEq, Nat.reduceEqDiff, Int.reduceToNat, Int.reduceLT, Int.reduceLE, Int.reduceEq, beq_self_eq_true, hd, hk', get_ops, wrapNat k (by omega)]
      refine ⟨t.ops.length - (k + 1), by omega, k + 1, u1, u2, d1, d2, _, reg_intro rfl rfl ⟨rfl, by omega, hu1, hu2, by rw [hs]; exact hq1, by rw [hs]; exact hq2⟩⟩
    · have h4' : (opAt t k).kind = 7 := by simpa using h4
      simp only [go_sem, Nat.reduceAdd, Nat.reduceSub, Nat.reduceMul, Nat.reduceLT, Nat.reduceLeDiff, ↓reduceIte, reduceCtorEq, Nat.reduceEqDiff, Int.reduceToNat, Int.reduceLT, Int.reduceLE, Int.reduceEq, beq_self_eq_true, hd, hk', get_ops]
      refine condK_split (fun h5 => ?_) (fun h5 => ?_)
      · have h5' := of_decide_eq_true h5
        simp only [go_sem, Nat.reduceAdd, Nat.reduceSub, Nat.reduceMul, Nat.reduceLT, Nat.reduceLeDiff, ↓reduceIte, reduceCtorEq, Nat.reduceEqDiff, Int.reduceToNat, Int.reduceLT, Int.reduceLE, Int.reduceEq, beq_self_eq_true, hd, hk', get_ops]
        refine mapUpd_set rfl rfl rfl fun s' g' hsg => ?_
        simp only [go_sem, Nat.reduceAdd, Nat.reduceSub, Nat.reduceMul, Nat.reduceLT, Nat.reduceLeDiff, ↓reduceIte, reduceCtorEq, Nat.reduceEqDiff, Int.reduceToNat, Int.reduceLT, Int.reduceLE, Int.reduceEq, beq_self_eq_true, hd, hk', wrapNat k (by omega)]
        refine ⟨t.ops.length - (k + 1), by omega, k + 1, s', u2, g', d2, _, reg_intro rfl rfl ⟨rfl, by omega, ?_, hu2, ?_, ?_⟩⟩
        · rcases hsg with ⟨_, rfl, _⟩ | ⟨h, rfl, _⟩
          · exact hu1
          · exact List.nodup_append.2 ⟨hu1, by simp, fun a ha b hb => by rw [List.mem_singleton] at hb; subst hb; rintro rfl; exact h ha⟩
        · intro n
          rw [hs, (goR_mem1 h4' h5' n).1, ← hq1]
          rcases hsg with ⟨h, rfl, _⟩ | ⟨h, rfl, _⟩
          · exact ⟨.inl, fun h' => h'.elim id fun e => e ▸ h⟩
          · simp
        · intro n
          rw [hs, (goR_mem1 h4' h5' n).2]; exact hq2 n
      · have h5' := of_decide_eq_false h5
        simp only [go_sem, Nat.reduceAdd, Nat.reduceSub, Nat.reduceMul, Nat.reduceLT, Nat.reduceLeDiff, ↓reduceIte, reduceCtorEq, Nat.reduceEqDiff, Int.reduceToNat, Int.reduceLT, Int.reduceLE, Int.reduceEq, beq_self_eq_true, hd, hk', get_ops]
        refine mapUpd_set rfl rfl rfl fun s' g' hsg => ?_
        simp only [go_sem, Nat.reduceAdd, Nat.reduceSub, Nat.reduceMul, Nat.reduceLT, Nat.reduceLeDiff, ↓reduceIte, reduceCtorEq, Nat.reduceEqDiff, Int.reduceToNat, Int.reduceLT, Int.reduceLE, Int.reduceEq, beq_self_eq_true, hd, hk', wrapNat k (by omega)]
        refine ⟨t.ops.length - (k + 1), by omega, k + 1, u1, s', d1, g', _, reg_intro rfl rfl ⟨rfl, by omega, hu1, ?_, ?_, ?_⟩⟩
        · rcases hsg with ⟨_, rfl, _⟩ | ⟨h, rfl, _⟩
          · exact hu2
          · exact List.nodup_append.2 ⟨hu2, by simp, fun a ha b hb => by rw [List.mem_singleton] at hb; subst hb; rintro rfl; exact h ha⟩
        · intro n
          rw [hs, (goR_mem2 h4' h5' n).2]; exact hq1 n
        · intro n
          rw [hs, (goR_mem2 h4' h5' n).1, ← hq2]
          rcases hsg with ⟨h, rfl, _⟩ | ⟨h, rfl, _⟩
          · exact ⟨.inl, fun h' => h'.elim id fun e => e ▸ h⟩
          · simp
  · have hi := of_decide_eq_false hc
    obtain rfl : k = t.ops.length := by omega
    obtain ⟨p1, p2⟩ := upto_strict t (rosterOk_strict.1 h1).1 (rosterOk_strict.1 h2).1 t.ops.length (Nat.le_refl _)
    have e1 := sortI_eq hu1 p1 hq1
    have e2 := sortI_eq hu2 p2 hq2
    have b1 := nodup_sub hu1 hq1
    have b2 := nodup_sub hu2 hq2
    simp only [go_sem, Nat.reduceAdd, Nat.reduceSub, Nat.reduceMul, Nat.reduceLT, Nat.reduceLeDiff, ↓reduceIte, reduceCtorEq, Nat.reduceEqDiff, Int.reduceToNat, Int.reduceLT, Int.reduceLE, Int.reduceEq, beq_self_eq_true]
    refine callK_h (roster_closed 1 u1 d1 _ rfl hu1 (by omega)) ?_
    rintro _ _ ⟨rfl, rfl⟩
    simp only [go_sem, Nat.reduceAdd, Nat.reduceSub, Nat.reduceMul, Nat.reduceLT, Nat.reduceLeDiff, ↓reduceIte, reduceCtorEq, Nat.reduceEqDiff, Int.reduceToNat, Int.reduceLT, Int.reduceLE, Int.reduceEq, beq_self_eq_true]
    refine callK_h (roster_closed 2 u2 d2 _ rfl hu2 (by omega)) ?_
    rintro _ _ ⟨rfl, rfl⟩
    simp only [go_sem, Nat.reduceAdd, Nat.reduceSub, Nat.reduceMul, Nat.reduceLT, Nat.reduceLeDiff, ↓reduceIte, reduceCtorEq, Nat.reduceEqDiff, Int.reduceToNat, Int.reduceLT, Int.reduceLE, Int.reduceEq, beq_self_eq_true, hv, e1, e2]

/-- How many changes. -/
def epochL (j l : List Int) : Int := if rosterOk j && rosterOk l then (j.length : Int) + l.length else 0
theorem roster_epoch (j l : List Int) (hj : j.length < 1000000) (hl : l.length < 1000000) : PSpec Try.prog CT 25 [intsL j .no, intsL l .no] (· = .lit (.int .i64 (epochL j l))) := by
  refine PSpec.of hT Try.func25 rfl (by kernel_rfl) rfl rfl ?_
  have hw : IntKind.i64.wrap ((j.length : Int) + (l.length : Int)) = (j.length : Int) + l.length := by rw [wrap64] <;> omega
  simp only [Try.f25, go_sem, Nat.reduceAdd, Nat.reduceSub, Nat.reduceMul, Nat.reduceLT, Nat.reduceLeDiff, ↓reduceIte, reduceCtorEq, Nat.reduceEqDiff, Int.reduceToNat, Int.reduceLT, Int.reduceLE, Int.reduceEq, beq_self_eq_true]
  refine callK_pure (roster_check j (by omega)) (by simp only [go_sem, Nat.reduceAdd, Nat.reduceSub, Nat.reduceMul, Nat.reduceLT, Nat.reduceLeDiff, ↓reduceIte, reduceCtorEq, Nat.reduceEqDiff, Int.reduceToNat, Int.reduceLT, Int.reduceLE, Int.reduceEq, beq_self_eq_true, hw, intsL]) (by simp only [go_sem, Nat.reduceAdd, Nat.reduceSub, Nat.reduceMul, Nat.reduceLT, Nat.reduceLeDiff, ↓reduceIte, reduceCtorEq, Nat.reduceEqDiff, Int.reduceToNat, Int.reduceLT, Int.reduceLE, Int.reduceEq, beq_self_eq_true, hw, intsL]) ?_; simp only [go_sem, Nat.reduceAdd, Nat.reduceSub, Nat.reduceMul, Nat.reduceLT, Nat.reduceLeDiff, ↓reduceIte, reduceCtorEq, Nat.reduceEqDiff, Int.reduceToNat, Int.reduceLT, Int.reduceLE, Int.reduceEq, beq_self_eq_true, hw, intsL]
  refine guardK_split (fun h1 => ?_) (fun h1 => ?_)
  · simp only [Bool.not_eq_true'] at h1
    simp only [go_sem, Nat.reduceAdd, Nat.reduceSub, Nat.reduceMul, Nat.reduceLT, Nat.reduceLeDiff, ↓reduceIte, reduceCtorEq, Nat.reduceEqDiff, Int.reduceToNat, Int.reduceLT, Int.reduceLE, Int.reduceEq, beq_self_eq_true, h1, epochL, Bool.false_and]
  simp only [Bool.not_eq_false'] at h1
  simp only [go_sem, Nat.reduceAdd, Nat.reduceSub, Nat.reduceMul, Nat.reduceLT, Nat.reduceLeDiff, ↓reduceIte, reduceCtorEq, Nat.reduceEqDiff, Int.reduceToNat, Int.reduceLT, Int.reduceLE, Int.reduceEq, beq_self_eq_true, h1]
  refine callK_pure (roster_check l (by omega)) (by simp only [go_sem, Nat.reduceAdd, Nat.reduceSub, Nat.reduceMul, Nat.reduceLT, Nat.reduceLeDiff, ↓reduceIte, reduceCtorEq, Nat.reduceEqDiff, Int.reduceToNat, Int.reduceLT, Int.reduceLE, Int.reduceEq, beq_self_eq_true, h1]) (by simp only [go_sem, Nat.reduceAdd, Nat.reduceSub, Nat.reduceMul, Nat.reduceLT, Nat.reduceLeDiff, ↓reduceIte, reduceCtorEq, Nat.reduceEqDiff, Int.reduceToNat, Int.reduceLT, Int.reduceLE, Int.reduceEq, beq_self_eq_true, h1]) ?_; simp only [go_sem, Nat.reduceAdd, Nat.reduceSub, Nat.reduceMul, Nat.reduceLT, Nat.reduceLeDiff, ↓reduceIte, reduceCtorEq, Nat.reduceEqDiff, Int.reduceToNat, Int.reduceLT, Int.reduceLE, Int.reduceEq, beq_self_eq_true, h1]
  refine condK_split (fun h2 => ?_) (fun h2 => ?_)
  · simp only [Bool.not_eq_true'] at h2
    simp only [go_sem, Nat.reduceAdd, Nat.reduceSub, Nat.reduceMul, Nat.reduceLT, Nat.reduceLeDiff, ↓reduceIte, reduceCtorEq, Nat.reduceEqDiff, Int.reduceToNat, Int.reduceLT, Int.reduceLE, Int.reduceEq, beq_self_eq_true, h1, h2, epochL, Bool.and_false]
  simp only [Bool.not_eq_false'] at h2
  simp only [go_sem, Nat.reduceAdd, Nat.reduceSub, Nat.reduceMul, Nat.reduceLT, Nat.reduceLeDiff, ↓reduceIte, reduceCtorEq, Nat.reduceEqDiff, Int.reduceToNat, Int.reduceLT, Int.reduceLE, Int.reduceEq, beq_self_eq_true, h1, h2, hw, epochL, Bool.and_self]
theorem ref18_epoch (j l : List Int) (hj : j.length < 1000000) (hl : l.length < 1000000) : PSpec Try.prog CT 26 [intsL j .no, intsL l .no] (· = .lit (.int .i64 (epochL j l))) := by
  refine PSpec.of hT Try.func26 rfl (by kernel_rfl) rfl rfl ?_
  have hw : IntKind.i64.wrap ((j.length : Int) + (l.length : Int)) = (j.length : Int) + l.length := by rw [wrap64] <;> omega
  simp only [Try.f26, go_sem, Nat.reduceAdd, Nat.reduceSub, Nat.reduceMul, Nat.reduceLT, Nat.reduceLeDiff, ↓reduceIte, reduceCtorEq, Nat.reduceEqDiff, Int.reduceToNat, Int.reduceLT, Int.reduceLE, Int.reduceEq, beq_self_eq_true]
  refine callK_pure (ref18_check j (by omega)) (by simp only [go_sem, Nat.reduceAdd, Nat.reduceSub, Nat.reduceMul, Nat.reduceLT, Nat.reduceLeDiff, ↓reduceIte, reduceCtorEq, Nat.reduceEqDiff, Int.reduceToNat, Int.reduceLT, Int.reduceLE, Int.reduceEq, beq_self_eq_true, hw, intsL]) (by simp only [go_sem, Nat.reduceAdd, Nat.reduceSub, Nat.reduceMul, Nat.reduceLT, Nat.reduceLeDiff, ↓reduceIte, reduceCtorEq, Nat.reduceEqDiff, Int.reduceToNat, Int.reduceLT, Int.reduceLE, Int.reduceEq, beq_self_eq_true, hw, intsL]) ?_; simp only [go_sem, Nat.reduceAdd, Nat.reduceSub, Nat.reduceMul, Nat.reduceLT, Nat.reduceLeDiff, ↓reduceIte, reduceCtorEq, Nat.reduceEqDiff, Int.reduceToNat, Int.reduceLT, Int.reduceLE, Int.reduceEq, beq_self_eq_true, hw, intsL]
  refine guardK_split (fun h1 => ?_) (fun h1 => ?_)
  · simp only [Bool.not_eq_true'] at h1
    simp only [go_sem, Nat.reduceAdd, Nat.reduceSub, Nat.reduceMul, Nat.reduceLT, Nat.reduceLeDiff, ↓reduceIte, reduceCtorEq, Nat.reduceEqDiff, Int.reduceToNat, Int.reduceLT, Int.reduceLE, Int.reduceEq, beq_self_eq_true, h1, epochL, Bool.false_and]
  simp only [Bool.not_eq_false'] at h1
  simp only [go_sem, Nat.reduceAdd, Nat.reduceSub, Nat.reduceMul, Nat.reduceLT, Nat.reduceLeDiff, ↓reduceIte, reduceCtorEq, Nat.reduceEqDiff, Int.reduceToNat, Int.reduceLT, Int.reduceLE, Int.reduceEq, beq_self_eq_true, h1]
  refine callK_pure (ref18_check l (by omega)) (by simp only [go_sem, Nat.reduceAdd, Nat.reduceSub, Nat.reduceMul, Nat.reduceLT, Nat.reduceLeDiff, ↓reduceIte, reduceCtorEq, Nat.reduceEqDiff, Int.reduceToNat, Int.reduceLT, Int.reduceLE, Int.reduceEq, beq_self_eq_true, h1]) (by simp only [go_sem, Nat.reduceAdd, Nat.reduceSub, Nat.reduceMul, Nat.reduceLT, Nat.reduceLeDiff, ↓reduceIte, reduceCtorEq, Nat.reduceEqDiff, Int.reduceToNat, Int.reduceLT, Int.reduceLE, Int.reduceEq, beq_self_eq_true, h1]) ?_; simp only [go_sem, Nat.reduceAdd, Nat.reduceSub, Nat.reduceMul, Nat.reduceLT, Nat.reduceLeDiff, ↓reduceIte, reduceCtorEq, Nat.reduceEqDiff, Int.reduceToNat, Int.reduceLT, Int.reduceLE, Int.reduceEq, beq_self_eq_true, h1]
  refine condK_split (fun h2 => ?_) (fun h2 => ?_)
  · simp only [Bool.not_eq_true'] at h2
    simp only [go_sem, Nat.reduceAdd, Nat.reduceSub, Nat.reduceMul, Nat.reduceLT, Nat.reduceLeDiff, ↓reduceIte, reduceCtorEq, Nat.reduceEqDiff, Int.reduceToNat, Int.reduceLT, Int.reduceLE, Int.reduceEq, beq_self_eq_true, h1, h2, epochL, Bool.and_false]
  simp only [Bool.not_eq_false'] at h2
  simp only [go_sem, Nat.reduceAdd, Nat.reduceSub, Nat.reduceMul, Nat.reduceLT, Nat.reduceLeDiff, ↓reduceIte, reduceCtorEq, Nat.reduceEqDiff, Int.reduceToNat, Int.reduceLT, Int.reduceLE, Int.reduceEq, beq_self_eq_true, h1, h2, hw, epochL, Bool.and_self]
end Go.Ab
