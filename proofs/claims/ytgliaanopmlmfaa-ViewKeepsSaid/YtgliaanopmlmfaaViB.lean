/- Views: one of some; who is another one. Conditions: none. -/
import Derived.Test.YtgliaanopmlmfaaViA
set_option linter.unusedSimpArgs false
namespace Go.Ab
open Go.Proofs

theorem tmodNat (a b : Nat) : ((a : Int)).tmod (b : Int) = ((a % b : Nat) : Int) := by
  rw [Int.tmod_eq_emod_of_nonneg (by omega)]; rfl
theorem dropL_snoc (l : List Int) (n : Int) (k : Nat) (hk : k < l.length) : dropL (l.take (k + 1)) n = if l.getD k 0 = n then dropL (l.take k) n else dropL (l.take k) n ++ [l.getD k 0] := by
  rw [take_snoc l k hk]
  unfold dropL
  rw [List.filter_append]
  generalize l.getD k 0 = x
  by_cases h : x = n <;> simp [h]
theorem outL_snoc (l n : List Int) (k : Nat) (hk : k < l.length) : outL (l.take (k + 1)) n = if l.getD k 0 ∈ n then outL (l.take k) n else outL (l.take k) n ++ [l.getD k 0] := by
  rw [take_snoc l k hk]
  unfold outL
  rw [List.filter_append]
  generalize l.getD k 0 = x
  by_cases h : x ∈ n <;> simp [h]
theorem outL_len (l n : List Int) : (outL l n).length ≤ l.length := List.length_filter_le ..

theorem ref18_without (l : List Int) (n : Int) (hl : l.length < 1000000000) : PSpec Try.prog CT 88 [intsL l .no, .lit (.int .i64 n)] (· = intsL (dropL l n) .no) := by
  refine PSpec.of hT Try.func88 rfl (by kernel_rfl) rfl rfl ?_
  simp only [Try.f88, go_sem, Nat.reduceAdd, Nat.reduceSub, Nat.reduceMul, Nat.reduceLT, Nat.reduceLeDiff, ↓reduceIte, reduceCtorEq, Nat.reduceEqDiff, Int.reduceToNat, Int.reduceLT, Int.reduceLE, Int.reduceEq, beq_self_eq_true]
  refine awp_loop (fun m s => ∃ (k : Nat) (o : List Int) (t : Tok) (tk : List Bool) (g : Nat → D), s = ⟨[intsL l .no, .lit (.int .i64 n), g 2, g 3, g 4, intsL o t, .lit (.int .i64 k), g 7, g 8, g 9, g 10, g 11, g 12, g 13, g 14, g 15, g 16, g 17, g 18, g 19, g 20, g 21, g 22, g 23, g 24, g 25, g 26], ⟨[], tk⟩⟩ ∧ m = l.length - k ∧ k ≤ l.length ∧ live t tk ∧ o = dropL (l.take k) n) l.length ⟨0, [], .full, [], reg_intro rfl rfl ⟨by simp, by omega, trivial, rfl⟩⟩ ?_
  rintro q s ⟨k, o, t, tk, g, rfl, hn, hk, ht, heq⟩
  simp only [go_sem, Nat.reduceAdd, Nat.reduceSub, Nat.reduceMul, Nat.reduceLT, Nat.reduceLeDiff, ↓reduceIte, reduceCtorEq, Nat.reduceEqDiff, Int.reduceToNat, Int.reduceLT, Int.reduceLE, Int.reduceEq, beq_self_eq_true]
  refine condK_split (fun hc => ?_) (fun hc => ?_)
  · have hk' : k < l.length := by have := of_decide_eq_true hc; omega
    have hs := dropL_snoc l n k hk'
    have hol : o.length ≤ l.length := by rw [heq]; exact Nat.le_trans (dropL_len _ _) (by simp; omega)
    simp only [go_sem, Nat.reduceAdd, Nat.reduceSub, Nat.reduceMul, Nat.reduceLT, Nat.reduceLeDiff, ↓reduceIte, reduceCtorEq, Nat.reduceEqDiff, Int.reduceToNat, Int.reduceLT, Int.reduceLE, Int.reduceEq, beq_self_eq_true, hk']
    refine condK_split (fun h1 => ?_) (fun h1 => ?_)
    · have h1' : ¬ l.getD k 0 = n := by simpa using h1
      rw [if_neg h1'] at hs
      simp only [go_sem, Nat.reduceAdd, Nat.reduceSub, Nat.reduceMul, Nat.reduceLT, Nat.reduceLeDiff, ↓reduceIte, reduceCtorEq, Nat.reduceEqDiff, Int.reduceToNat, Int.reduceLT, Int.reduceLE, Int.reduceEq, beq_self_eq_true, hk']
      refine appK_live _ _ _ _ _ _ _ _ _ _ ht (by simp) (by simp only [go_sem, Nat.reduceAdd, Nat.reduceSub, Nat.reduceMul, Nat.reduceLT, Nat.reduceLeDiff, ↓reduceIte, reduceCtorEq, Nat.reduceEqDiff, Int.reduceToNat, Int.reduceLT, Int.reduceLE, Int.reduceEq, beq_self_eq_true]) (by simp only [go_sem, Nat.reduceAdd, Nat.reduceSub, Nat.reduceMul, Nat.reduceLT, Nat.reduceLeDiff, ↓reduceIte, reduceCtorEq, Nat.reduceEqDiff, Int.reduceToNat, Int.reduceLT, Int.reduceLE, Int.reduceEq, beq_self_eq_true, List.length_map]; omega) (fun u tk' hu => ?_)
      simp only [go_sem, Nat.reduceAdd, Nat.reduceSub, Nat.reduceMul, Nat.reduceLT, Nat.reduceLeDiff, ↓reduceIte, reduceCtorEq, Nat.reduceEqDiff, Int.reduceToNat, Int.reduceLT, Int.reduceLE, Int.reduceEq, beq_self_eq_true, ints_snoc, wrapNat k (by omega)]
      exact ⟨l.length - (k + 1), by omega, k + 1, _, u, tk', reg_intro rfl rfl ⟨rfl, by omega, hu, by rw [hs, heq]⟩⟩
    · have h1' : l.getD k 0 = n := by simpa using h1
      rw [if_pos h1'] at hs
      simp only [go_sem, Nat.reduceAdd, Nat.reduceSub, Nat.reduceMul, Nat.reduceLT, Nat.reduceLeDiff, ↓reduceIte, reduceCtorEq, Nat.reduceEqDiff, Int.reduceToNat, Int.reduceLT, Int.reduceLE, Int.reduceEq, beq_self_eq_true, hk', wrapNat k (by omega)]
      exact ⟨l.length - (k + 1), by omega, k + 1, o, t, tk, reg_intro rfl rfl ⟨rfl, by omega, ht, by rw [hs, heq]⟩⟩
  · have hi := of_decide_eq_false hc
    obtain rfl : k = l.length := by omega
    rw [List.take_length] at heq
    simp only [go_sem, Nat.reduceAdd, Nat.reduceSub, Nat.reduceMul, Nat.reduceLT, Nat.reduceLeDiff, ↓reduceIte, reduceCtorEq, Nat.reduceEqDiff, Int.reduceToNat, Int.reduceLT, Int.reduceLE, Int.reduceEq, beq_self_eq_true, heq]
theorem view_pick (l m : List Int) (d : Int) (hl : l.length < 1000000000) (hm : m.length < 1000000000) : PSpec Try.prog CT 28 [intsL l .no, intsL m .no, .lit (.int .i64 d)] (· = .lit (.int .i64 (pickI l m d))) := by
  refine PSpec.of hT Try.func28 rfl (by kernel_rfl) rfl rfl ?_
  simp only [Try.f28, go_sem, Nat.reduceAdd, Nat.reduceSub, Nat.reduceMul, Nat.reduceLT, Nat.reduceLeDiff, ↓reduceIte, reduceCtorEq, Nat.reduceEqDiff, Int.reduceToNat, Int.reduceLT, Int.reduceLE, Int.reduceEq, beq_self_eq_true]
  refine awp_loop (fun n s => ∃ (k : Nat) (o : List Int) (t : Tok) (tk : List Bool) (g : Nat → D), s = ⟨[intsL l .no, intsL m .no, .lit (.int .i64 d), g 3, g 4, g 5, g 6, intsL o t, g 8, g 9, intsL l .no, .lit (.int .i64 l.length), .lit (.int .i64 k), g 13, g 14, g 15, g 16, g 17, g 18, g 19, g 20, g 21, g 22, g 23, g 24, g 25, g 26, g 27, g 28, g 29, g 30, g 31, g 32, g 33, g 34, g 35], ⟨[], tk⟩⟩ ∧ n = l.length - k ∧ k ≤ l.length ∧ live t tk ∧ o = outL (l.take k) m) l.length ⟨0, [], .full, [], reg_intro rfl rfl ⟨by simp, by omega, trivial, rfl⟩⟩ ?_
  rintro q s ⟨k, o, t, tk, g, rfl, hn, hk, ht, heq⟩
  simp only [go_sem, Nat.reduceAdd, Nat.reduceSub, Nat.reduceMul, Nat.reduceLT, Nat.reduceLeDiff, ↓reduceIte, reduceCtorEq, Nat.reduceEqDiff, Int.reduceToNat, Int.reduceLT, Int.reduceLE, Int.reduceEq, beq_self_eq_true]
  refine condK_split (fun hc => ?_) (fun hc => ?_)
  · have hk' : k < l.length := by have := of_decide_eq_true hc; omega
    have hs := outL_snoc l m k hk'
    have hol : o.length ≤ l.length := by rw [heq]; exact Nat.le_trans (outL_len _ _) (by simp; omega)
    simp only [go_sem, Nat.reduceAdd, Nat.reduceSub, Nat.reduceMul, Nat.reduceLT, Nat.reduceLeDiff, ↓reduceIte, reduceCtorEq, Nat.reduceEqDiff, Int.reduceToNat, Int.reduceLT, Int.reduceLE, Int.reduceEq, beq_self_eq_true, hk']
    refine callK_pure (view_has m (l.getD k 0) (by omega)) (by simp only [go_sem, Nat.reduceAdd, Nat.reduceSub, Nat.reduceMul, Nat.reduceLT, Nat.reduceLeDiff, ↓reduceIte, reduceCtorEq, Nat.reduceEqDiff, Int.reduceToNat, Int.reduceLT, Int.reduceLE, Int.reduceEq, beq_self_eq_true, hk']) (by simp only [go_sem, Nat.reduceAdd, Nat.reduceSub, Nat.reduceMul, Nat.reduceLT, Nat.reduceLeDiff, ↓reduceIte, reduceCtorEq, Nat.reduceEqDiff, Int.reduceToNat, Int.reduceLT, Int.reduceLE, Int.reduceEq, beq_self_eq_true, hk']) ?_; simp only [go_sem, Nat.reduceAdd, Nat.reduceSub, Nat.reduceMul, Nat.reduceLT, Nat.reduceLeDiff, ↓reduceIte, reduceCtorEq, Nat.reduceEqDiff, Int.reduceToNat, Int.reduceLT, Int.reduceLE, Int.reduceEq, beq_self_eq_true, hk']
    refine condK_split (fun h1 => ?_) (fun h1 => ?_)
    · have h1' : ¬ l.getD k 0 ∈ m := by simpa using h1
      rw [if_neg h1'] at hs
      simp only [go_sem, Nat.reduceAdd, Nat.reduceSub, Nat.reduceMul, Nat.reduceLT, Nat.reduceLeDiff, ↓reduceIte, reduceCtorEq, Nat.reduceEqDiff, Int.reduceToNat, Int.reduceLT, Int.reduceLE, Int.reduceEq, beq_self_eq_true, hk']
      refine appK_live _ _ _ _ _ _ _ _ _ _ ht (by simp) (by simp only [go_sem, Nat.reduceAdd, Nat.reduceSub, Nat.reduceMul, Nat.reduceLT, Nat.reduceLeDiff, ↓reduceIte, reduceCtorEq, Nat.reduceEqDiff, Int.reduceToNat, Int.reduceLT, Int.reduceLE, Int.reduceEq, beq_self_eq_true]) (by simp only [go_sem, Nat.reduceAdd, Nat.reduceSub, Nat.reduceMul, Nat.reduceLT, Nat.reduceLeDiff, ↓reduceIte, reduceCtorEq, Nat.reduceEqDiff, Int.reduceToNat, Int.reduceLT, Int.reduceLE, Int.reduceEq, beq_self_eq_true, List.length_map]; omega) (fun u tk' hu => ?_)
      simp only [go_sem, Nat.reduceAdd, Nat.reduceSub, Nat.reduceMul, Nat.reduceLT, Nat.reduceLeDiff, ↓reduceIte, reduceCtorEq, Nat.reduceEqDiff, Int.reduceToNat, Int.reduceLT, Int.reduceLE, Int.reduceEq, beq_self_eq_true, ints_snoc, wrapNat k (by omega)]
      exact ⟨l.length - (k + 1), by omega, k + 1, _, u, tk', reg_intro rfl rfl ⟨rfl, by omega, hu, by rw [hs, heq]⟩⟩
    · have h1' : l.getD k 0 ∈ m := by simpa using h1
      rw [if_pos h1'] at hs
      simp only [go_sem, Nat.reduceAdd, Nat.reduceSub, Nat.reduceMul, Nat.reduceLT, Nat.reduceLeDiff, ↓reduceIte, reduceCtorEq, Nat.reduceEqDiff, Int.reduceToNat, Int.reduceLT, Int.reduceLE, Int.reduceEq, beq_self_eq_true, hk', wrapNat k (by omega)]
      exact ⟨l.length - (k + 1), by omega, k + 1, o, t, tk, reg_intro rfl rfl ⟨rfl, by omega, ht, by rw [hs, heq]⟩⟩
  · have hi := of_decide_eq_false hc
    obtain rfl : k = l.length := by omega
    rw [List.take_length] at heq
    subst heq
    have hol := outL_len l m
    simp only [go_sem, Nat.reduceAdd, Nat.reduceSub, Nat.reduceMul, Nat.reduceLT, Nat.reduceLeDiff, ↓reduceIte, reduceCtorEq, Nat.reduceEqDiff, Int.reduceToNat, Int.reduceLT, Int.reduceLE, Int.reduceEq, beq_self_eq_true]
    refine condK_split (fun h1 => ?_) (fun h1 => ?_)
    · have h1' : (outL l m).length = 0 := by have := of_decide_eq_true h1; omega
      simp only [go_sem, Nat.reduceAdd, Nat.reduceSub, Nat.reduceMul, Nat.reduceLT, Nat.reduceLeDiff, ↓reduceIte, reduceCtorEq, Nat.reduceEqDiff, Int.reduceToNat, Int.reduceLT, Int.reduceLE, Int.reduceEq, beq_self_eq_true, pickI, if_pos h1']
    · have h1' : (outL l m).length ≠ 0 := by have := of_decide_eq_false h1; omega
      have hne : ((outL l m).length : Int) ≠ 0 := by omega
      obtain ⟨e, he⟩ : ∃ e : Nat, max d 0 = (e : Int) := ⟨(max d 0).toNat, by omega⟩
      have hlt : e % (outL l m).length < (outL l m).length := Nat.mod_lt _ (by omega)
      have hpick : pickI l m d = (outL l m).getD (e % (outL l m).length) 0 := by rw [pickI, if_neg h1', he]; rfl
      simp only [go_sem, Nat.reduceAdd, Nat.reduceSub, Nat.reduceMul, Nat.reduceLT, Nat.reduceLeDiff, ↓reduceIte, reduceCtorEq, Nat.reduceEqDiff, Int.reduceToNat, Int.reduceLT, Int.reduceLE, Int.reduceEq, beq_self_eq_true, he, hne, tmodNat, hlt, hpick]
theorem ref25_pick (l m : List Int) (d : Int) (hl : l.length < 1000000000) (hm : m.length < 1000000000) : PSpec Try.prog CT 41 [intsL l .no, intsL m .no, .lit (.int .i64 d)] (· = .lit (.int .i64 (pickI l m d))) := by
  refine PSpec.of hT Try.func41 rfl (by kernel_rfl) rfl rfl ?_
  simp only [Try.f41, go_sem, Nat.reduceAdd, Nat.reduceSub, Nat.reduceMul, Nat.reduceLT, Nat.reduceLeDiff, ↓reduceIte, reduceCtorEq, Nat.reduceEqDiff, Int.reduceToNat, Int.reduceLT, Int.reduceLE, Int.reduceEq, beq_self_eq_true]
  refine awp_loop (fun n s => ∃ (k : Nat) (o : List Int) (t : Tok) (tk : List Bool) (g : Nat → D), s = ⟨[intsL l .no, intsL m .no, .lit (.int .i64 d), g 3, g 4, g 5, g 6, intsL o t, .lit (.int .i64 k), g 9, g 10, g 11, g 12, g 13, g 14, g 15, g 16, g 17, g 18, g 19, g 20, g 21, g 22, g 23, g 24, g 25, g 26, g 27, g 28, g 29, g 30, g 31, g 32, g 33, g 34, g 35, g 36, g 37, g 38, g 39], ⟨[], tk⟩⟩ ∧ n = l.length - k ∧ k ≤ l.length ∧ live t tk ∧ o = outL (l.take k) m) l.length ⟨0, [], .full, [], reg_intro rfl rfl ⟨by simp, by omega, trivial, rfl⟩⟩ ?_
  rintro q s ⟨k, o, t, tk, g, rfl, hn, hk, ht, heq⟩
  simp only [go_sem, Nat.reduceAdd, Nat.reduceSub, Nat.reduceMul, Nat.reduceLT, Nat.reduceLeDiff, ↓reduceIte, reduceCtorEq, Nat.reduceEqDiff, Int.reduceToNat, Int.reduceLT, Int.reduceLE, Int.reduceEq, beq_self_eq_true]
  refine condK_split (fun hc => ?_) (fun hc => ?_)
  · have hk' : k < l.length := by have := of_decide_eq_true hc; omega
    have hs := outL_snoc l m k hk'
    have hol : o.length ≤ l.length := by rw [heq]; exact Nat.le_trans (outL_len _ _) (by simp; omega)
    simp only [go_sem, Nat.reduceAdd, Nat.reduceSub, Nat.reduceMul, Nat.reduceLT, Nat.reduceLeDiff, ↓reduceIte, reduceCtorEq, Nat.reduceEqDiff, Int.reduceToNat, Int.reduceLT, Int.reduceLE, Int.reduceEq, beq_self_eq_true, hk']
    refine callK_pure (ref18_has m (l.getD k 0) (by omega)) (by simp only [go_sem, Nat.reduceAdd, Nat.reduceSub, Nat.reduceMul, Nat.reduceLT, Nat.reduceLeDiff, ↓reduceIte, reduceCtorEq, Nat.reduceEqDiff, Int.reduceToNat, Int.reduceLT, Int.reduceLE, Int.reduceEq, beq_self_eq_true, hk']) (by simp only [go_sem, Nat.reduceAdd, Nat.reduceSub, Nat.reduceMul, Nat.reduceLT, Nat.reduceLeDiff, ↓reduceIte, reduceCtorEq, Nat.reduceEqDiff, Int.reduceToNat, Int.reduceLT, Int.reduceLE, Int.reduceEq, beq_self_eq_true, hk']) ?_; simp only [go_sem, Nat.reduceAdd, Nat.reduceSub, Nat.reduceMul, Nat.reduceLT, Nat.reduceLeDiff, ↓reduceIte, reduceCtorEq, Nat.reduceEqDiff, Int.reduceToNat, Int.reduceLT, Int.reduceLE, Int.reduceEq, beq_self_eq_true, hk']
    refine condK_split (fun h1 => ?_) (fun h1 => ?_)
    · have h1' : ¬ l.getD k 0 ∈ m := by simpa using h1
      rw [if_neg h1'] at hs
      simp only [go_sem, Nat.reduceAdd, Nat.reduceSub, Nat.reduceMul, Nat.reduceLT, Nat.reduceLeDiff, ↓reduceIte, reduceCtorEq, Nat.reduceEqDiff, Int.reduceToNat, Int.reduceLT, Int.reduceLE, Int.reduceEq, beq_self_eq_true, hk']
      refine appK_live _ _ _ _ _ _ _ _ _ _ ht (by simp) (by simp only [go_sem, Nat.reduceAdd, Nat.reduceSub, Nat.reduceMul, Nat.reduceLT, Nat.reduceLeDiff, ↓reduceIte, reduceCtorEq, Nat.reduceEqDiff, Int.reduceToNat, Int.reduceLT, Int.reduceLE, Int.reduceEq, beq_self_eq_true]) (by simp only [go_sem, Nat.reduceAdd, Nat.reduceSub, Nat.reduceMul, Nat.reduceLT, Nat.reduceLeDiff, ↓reduceIte, reduceCtorEq, Nat.reduceEqDiff, Int.reduceToNat, Int.reduceLT, Int.reduceLE, Int.reduceEq, beq_self_eq_true, List.length_map]; omega) (fun u tk' hu => ?_)
      simp only [go_sem, Nat.reduceAdd, Nat.reduceSub, Nat.reduceMul, Nat.reduceLT, Nat.reduceLeDiff, ↓reduceIte, reduceCtorEq, Nat.reduceEqDiff, Int.reduceToNat, Int.reduceLT, Int.reduceLE, Int.reduceEq, beq_self_eq_true, ints_snoc, wrapNat k (by omega)]
      exact ⟨l.length - (k + 1), by omega, k + 1, _, u, tk', reg_intro rfl rfl ⟨rfl, by omega, hu, by rw [hs, heq]⟩⟩
    · have h1' : l.getD k 0 ∈ m := by simpa using h1
      rw [if_pos h1'] at hs
      simp only [go_sem, Nat.reduceAdd, Nat.reduceSub, Nat.reduceMul, Nat.reduceLT, Nat.reduceLeDiff, ↓reduceIte, reduceCtorEq, Nat.reduceEqDiff, Int.reduceToNat, Int.reduceLT, Int.reduceLE, Int.reduceEq, beq_self_eq_true, hk', wrapNat k (by omega)]
      exact ⟨l.length - (k + 1), by omega, k + 1, o, t, tk, reg_intro rfl rfl ⟨rfl, by omega, ht, by rw [hs, heq]⟩⟩
  · have hi := of_decide_eq_false hc
    obtain rfl : k = l.length := by omega
    rw [List.take_length] at heq
    subst heq
    have hol := outL_len l m
    simp only [go_sem, Nat.reduceAdd, Nat.reduceSub, Nat.reduceMul, Nat.reduceLT, Nat.reduceLeDiff, ↓reduceIte, reduceCtorEq, Nat.reduceEqDiff, Int.reduceToNat, Int.reduceLT, Int.reduceLE, Int.reduceEq, beq_self_eq_true]
    refine condK_split (fun h1 => ?_) (fun h1 => ?_)
    · have h1' : (outL l m).length = 0 := by have := of_decide_eq_true h1; omega
      simp only [go_sem, Nat.reduceAdd, Nat.reduceSub, Nat.reduceMul, Nat.reduceLT, Nat.reduceLeDiff, ↓reduceIte, reduceCtorEq, Nat.reduceEqDiff, Int.reduceToNat, Int.reduceLT, Int.reduceLE, Int.reduceEq, beq_self_eq_true, pickI, if_pos h1']
    · have h1' : (outL l m).length ≠ 0 := by have := of_decide_eq_false h1; omega
      have hne : ((outL l m).length : Int) ≠ 0 := by omega
      obtain ⟨e, he⟩ : ∃ e : Nat, max d 0 = (e : Int) := ⟨(max d 0).toNat, by omega⟩
      have he2 : max 0 d = (e : Int) := by omega
      have hlt : e % (outL l m).length < (outL l m).length := Nat.mod_lt _ (by omega)
      have hpick : pickI l m d = (outL l m).getD (e % (outL l m).length) 0 := by rw [pickI, if_neg h1', he]; rfl
      simp only [go_sem, Nat.reduceAdd, Nat.reduceSub, Nat.reduceMul, Nat.reduceLT, Nat.reduceLeDiff, ↓reduceIte, reduceCtorEq, Nat.reduceEqDiff, Int.reduceToNat, Int.reduceLT, Int.reduceLE, Int.reduceEq, beq_self_eq_true, he2, hne, tmodNat, hlt, hpick]
end Go.Ab
