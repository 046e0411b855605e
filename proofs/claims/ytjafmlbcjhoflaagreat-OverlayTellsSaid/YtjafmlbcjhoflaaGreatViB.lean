/- Views: one of some; who is another one. Conditions: none. -/
import Derived.Test.YtjafmlbcjhoflaaGreatViA
import Derived.Test.YtjafmlbcjhoflaaGreatMaA
open Nat (reduceAdd reduceSub reduceMul reduceLT reduceLeDiff reduceEqDiff)
open Int (reduceToNat reduceLE reduceEq)
set_option linter.unusedSimpArgs false
namespace Go.Ab
open Go.Proofs

theorem tmodNat (a b : Nat) : ((a : Int)).tmod (b : Int) = ((a % b : Nat) : Int) := by
  rw [Int.tmod_eq_emod_of_nonneg (by omega)]; rfl
theorem dropL_snoc (l : List Int) (n : Int) (k : Nat) (hk : k < l.length) : dropL (l.take (k + 1)) n = if l.getD k 0 = n then dropL (l.take k) n else dropL (l.take k) n ++ [l.getD k 0] := by
  rw [take_snoc l k hk]
  unfold dropL
  rw [List.filter_append]
  generalize l.getD k 0 = x
  by_cases h : x = n <;> simp [h]
theorem outL_snoc (l n : List Int) (k : Nat) (hk : k < l.length) : outL (l.take (k + 1)) n = if l.getD k 0 ∈ n then outL (l.take k) n else outL (l.take k) n ++ [l.getD k 0] := by
  rw [take_snoc l k hk]
  unfold outL
  rw [List.filter_append]
  generalize l.getD k 0 = x
  by_cases h : x ∈ n <;> simp [h]
theorem outL_len (l n : List Int) : (outL l n).length ≤ l.length := List.length_filter_le ..

theorem ref18_without (l : List Int) (n : Int) (hl : l.length < 1000000000) : PSpec Tryz.prog CT 71 [intsL l .no, .lit (.int .i64 n)] (· = intsL (dropL l n) .no) := by
  refine PSpec.of hT Tryz.func71 rfl (by kernel_rfl) rfl rfl ?_
  simp only [Tryz.f71, go_sem, reduceAdd, reduceSub, reduceMul, reduceLT, reduceLeDiff, ↓reduceIte, reduceCtorEq, reduceEqDiff, reduceToNat, Int.reduceLT, reduceLE, reduceEq]
  refine awp_loop (fun m s => ∃ (k : Nat) (o : List Int) (t : Tok) (tk : List Bool) (g : Nat → D), s = ⟨[intsL l .no, .lit (.int .i64 n), g 2, g 3, g 4, intsL o t, .lit (.int .i64 k), g 7, g 8, g 9, g 10, g 11, g 12, g 13, g 14, g 15, g 16, g 17, g 18, g 19, g 20, g 21, g 22, g 23, g 24, g 25, g 26], ⟨[], tk⟩⟩ ∧ m = l.length - k ∧ k ≤ l.length ∧ live t tk ∧ o = dropL (l.take k) n) l.length ⟨0, [], .full, [], reg_intro rfl rfl ⟨by simp, by omega, trivial, rfl⟩⟩ ?_
  rintro q s ⟨k, o, t, tk, g, rfl, hn, hk, ht, heq⟩
  simp only [go_sem, reduceAdd, reduceSub, reduceMul, reduceLT, reduceLeDiff, ↓reduceIte, reduceCtorEq, reduceEqDiff, reduceToNat, Int.reduceLT, reduceLE, reduceEq]
  refine condK_split (fun hc => ?_) (fun hc => ?_)
  · have hk' : k < l.length := by have := of_decide_eq_true hc; omega
    have hs := dropL_snoc l n k hk'
    have hol : o.length ≤ l.length := by rw [heq]; exact Nat.le_trans (dropL_len _ _) (by simp; omega)
    simp only [go_sem, reduceAdd, reduceSub, reduceMul, reduceLT, reduceLeDiff, ↓reduceIte, reduceCtorEq, reduceEqDiff, reduceToNat, Int.reduceLT, reduceLE, reduceEq, hk']
    refine condK_split (fun h1 => ?_) (fun h1 => ?_)
    · have h1' : ¬ l.getD k 0 = n := by simpa using h1
      rw [if_neg h1'] at hs
      simp only [go_sem, reduceAdd, reduceSub, reduceMul, reduceLT, reduceLeDiff, ↓reduceIte, reduceCtorEq, reduceEqDiff, reduceToNat, Int.reduceLT, reduceLE, reduceEq, hk']
      refine appK_live _ _ _ _ _ _ _ _ _ _ ht (by simp) (by simp only [go_sem, reduceAdd, reduceSub, reduceMul, reduceLT, reduceLeDiff, ↓reduceIte, reduceCtorEq, reduceEqDiff, reduceToNat, Int.reduceLT, reduceLE, reduceEq]) (by simp only [go_sem, reduceAdd, reduceSub, reduceMul, reduceLT, reduceLeDiff, ↓reduceIte, reduceCtorEq, reduceEqDiff, reduceToNat, Int.reduceLT, reduceLE, reduceEq, List.length_map]; omega) (fun u tk' hu => ?_)
      simp only [go_sem, reduceAdd, reduceSub, reduceMul, reduceLT, reduceLeDiff, ↓reduceIte, reduceCtorEq, reduceEqDiff, reduceToNat, Int.reduceLT, reduceLE, reduceEq, ints_snoc, wrapNat k (by omega)]
      exact ⟨l.length - (k + 1), by omega, k + 1, _, u, tk', reg_intro rfl rfl ⟨rfl, by omega, hu, by rw [hs, heq]⟩⟩
    · have h1' : l.getD k 0 = n := by simpa using h1
      rw [if_pos h1'] at hs
      simp only [go_sem, reduceAdd, reduceSub, reduceMul, reduceLT, reduceLeDiff, ↓reduceIte, reduceCtorEq, reduceEqDiff, reduceToNat, Int.reduceLT, reduceLE, reduceEq, hk', wrapNat k (by omega)]
      exact ⟨l.length - (k + 1), by omega, k + 1, o, t, tk, reg_intro rfl rfl ⟨rfl, by omega, ht, by rw [hs, heq]⟩⟩
  · have hi := of_decide_eq_false hc
    obtain rfl : k = l.length := by omega
    rw [List.take_length] at heq
    simp only [go_sem, reduceAdd, reduceSub, reduceMul, reduceLT, reduceLeDiff, ↓reduceIte, reduceCtorEq, reduceEqDiff, reduceToNat, Int.reduceLT, reduceLE, reduceEq, heq]
theorem view_pick (l m : List Int) (d : Int) (hl : l.length < 1000000000) (hm : m.length < 1000000000) : PSpec Tryz.prog CT 74 [intsL l .no, intsL m .no, .lit (.int .i64 d)] (· = .lit (.int .i64 (pickI l m d))) := by
  refine PSpec.of hT Tryz.func74 rfl (by kernel_rfl) rfl rfl ?_
  simp only [Tryz.f74, go_sem, reduceAdd, reduceSub, reduceMul, reduceLT, reduceLeDiff, ↓reduceIte, reduceCtorEq, reduceEqDiff, reduceToNat, Int.reduceLT, reduceLE, reduceEq]
  refine awp_loop (fun n s => ∃ (k : Nat) (o : List Int) (t : Tok) (tk : List Bool) (g : Nat → D), s = ⟨[intsL l .no, intsL m .no, .lit (.int .i64 d), g 3, g 4, g 5, g 6, intsL o t, g 8, g 9, intsL l .no, .lit (.int .i64 l.length), .lit (.int .i64 k), g 13, g 14, g 15, g 16, g 17, g 18, g 19, g 20, g 21, g 22, g 23, g 24, g 25, g 26, g 27, g 28, g 29, g 30, g 31, g 32, g 33, g 34, g 35], ⟨[], tk⟩⟩ ∧ n = l.length - k ∧ k ≤ l.length ∧ live t tk ∧ o = outL (l.take k) m) l.length ⟨0, [], .full, [], reg_intro rfl rfl ⟨by simp, by omega, trivial, rfl⟩⟩ ?_
  rintro q s ⟨k, o, t, tk, g, rfl, hn, hk, ht, heq⟩
  simp only [go_sem, reduceAdd, reduceSub, reduceMul, reduceLT, reduceLeDiff, ↓reduceIte, reduceCtorEq, reduceEqDiff, reduceToNat, Int.reduceLT, reduceLE, reduceEq]
  refine condK_split (fun hc => ?_) (fun hc => ?_)
  · have hk' : k < l.length := by have := of_decide_eq_true hc; omega
    have hs := outL_snoc l m k hk'
    have hol : o.length ≤ l.length := by rw [heq]; exact Nat.le_trans (outL_len _ _) (by simp; omega)
    simp only [go_sem, reduceAdd, reduceSub, reduceMul, reduceLT, reduceLeDiff, ↓reduceIte, reduceCtorEq, reduceEqDiff, reduceToNat, Int.reduceLT, reduceLE, reduceEq, hk']
    refine callK_pure (view_has m (l.getD k 0) (by omega)) (by simp only [go_sem, hk']) (by simp only [go_sem, hk']) ?_; simp only [go_sem, reduceAdd, reduceSub, reduceMul, reduceLT, reduceLeDiff, ↓reduceIte, reduceCtorEq, reduceEqDiff, reduceToNat, Int.reduceLT, reduceLE, reduceEq, hk']
    refine condK_split (fun h1 => ?_) (fun h1 => ?_)
    · have h1' : ¬ l.getD k 0 ∈ m := by simpa using h1
      rw [if_neg h1'] at hs
      simp only [go_sem, reduceAdd, reduceSub, reduceMul, reduceLT, reduceLeDiff, ↓reduceIte, reduceCtorEq, reduceEqDiff, reduceToNat, Int.reduceLT, reduceLE, reduceEq, hk']
      refine appK_live _ _ _ _ _ _ _ _ _ _ ht (by simp) (by simp only [go_sem, reduceAdd, reduceSub, reduceMul, reduceLT, reduceLeDiff, ↓reduceIte, reduceCtorEq, reduceEqDiff, reduceToNat, Int.reduceLT, reduceLE, reduceEq]) (by simp only [go_sem, reduceAdd, reduceSub, reduceMul, reduceLT, reduceLeDiff, ↓reduceIte, reduceCtorEq, reduceEqDiff, reduceToNat, Int.reduceLT, reduceLE, reduceEq, List.length_map]; omega) (fun u tk' hu => ?_)
      simp only [go_sem, reduceAdd, reduceSub, reduceMul, reduceLT, reduceLeDiff, ↓reduceIte, reduceCtorEq, reduceEqDiff, reduceToNat, Int.reduceLT, reduceLE, reduceEq, ints_snoc, wrapNat k (by omega)]
      exact ⟨l.length - (k + 1), by omega, k + 1, _, u, tk', reg_intro rfl rfl ⟨rfl, by omega, hu, by rw [hs, heq]⟩⟩
    · have h1' : l.getD k 0 ∈ m := by simpa using h1
      rw [if_pos h1'] at hs
      simp only [go_sem, reduceAdd, reduceSub, reduceMul, reduceLT, reduceLeDiff, ↓reduceIte, reduceCtorEq, reduceEqDiff, reduceToNat, Int.reduceLT, reduceLE, reduceEq, hk', wrapNat k (by omega)]
      exact ⟨l.length - (k + 1), by omega, k + 1, o, t, tk, reg_intro rfl rfl ⟨rfl, by omega, ht, by rw [hs, heq]⟩⟩
  · have hi := of_decide_eq_false hc
    obtain rfl : k = l.length := by omega
    rw [List.take_length] at heq
    subst heq
    have hol := outL_len l m
    simp only [go_sem, reduceAdd, reduceSub, reduceMul, reduceLT, reduceLeDiff, ↓reduceIte, reduceCtorEq, reduceEqDiff, reduceToNat, Int.reduceLT, reduceLE, reduceEq]
    refine condK_split (fun h1 => ?_) (fun h1 => ?_)
    · have h1' : (outL l m).length = 0 := by have := of_decide_eq_true h1; omega
      simp only [go_sem, reduceAdd, reduceSub, reduceMul, reduceLT, reduceLeDiff, ↓reduceIte, reduceCtorEq, reduceEqDiff, reduceToNat, Int.reduceLT, reduceLE, reduceEq, pickI, if_pos h1']
    · have h1' : (outL l m).length ≠ 0 := by have := of_decide_eq_false h1; omega
      have hne : ((outL l m).length : Int) ≠ 0 := by omega
      obtain ⟨e, he⟩ : ∃ e : Nat, max d 0 = (e : Int) := ⟨(max d 0).toNat, by omega⟩
      have hlt : e % (outL l m).length < (outL l m).length := Nat.mod_lt _ (by omega)
      have hpick : pickI l m d = (outL l m).getD (e % (outL l m).length) 0 := by rw [pickI, if_neg h1', he]; rfl
      simp only [go_sem, reduceAdd, reduceSub, reduceMul, reduceLT, reduceLeDiff, ↓reduceIte, reduceCtorEq, reduceEqDiff, reduceToNat, Int.reduceLT, reduceLE, reduceEq, he, hne, tmodNat, hlt, hpick]
theorem ref25_pick (l m : List Int) (d : Int) (hl : l.length < 1000000000) (hm : m.length < 1000000000) : PSpec Tryz.prog CT 49 [intsL l .no, intsL m .no, .lit (.int .i64 d)] (· = .lit (.int .i64 (pickI l m d))) := by
  refine PSpec.of hT Tryz.func49 rfl (by kernel_rfl) rfl rfl ?_
  simp only [Tryz.f49, go_sem, reduceAdd, reduceSub, reduceMul, reduceLT, reduceLeDiff, ↓reduceIte, reduceCtorEq, reduceEqDiff, reduceToNat, Int.reduceLT, reduceLE, reduceEq]
  refine awp_loop (fun n s => ∃ (k : Nat) (o : List Int) (t : Tok) (tk : List Bool) (g : Nat → D), s = ⟨[intsL l .no, intsL m .no, .lit (.int .i64 d), g 3, g 4, g 5, g 6, intsL o t, .lit (.int .i64 k), g 9, g 10, g 11, g 12, g 13, g 14, g 15, g 16, g 17, g 18, g 19, g 20, g 21, g 22, g 23, g 24, g 25, g 26, g 27, g 28, g 29, g 30, g 31, g 32, g 33, g 34, g 35, g 36, g 37, g 38, g 39], ⟨[], tk⟩⟩ ∧ n = l.length - k ∧ k ≤ l.length ∧ live t tk ∧ o = outL (l.take k) m) l.length ⟨0, [], .full, [], reg_intro rfl rfl ⟨by simp, by omega, trivial, rfl⟩⟩ ?_
  rintro q s ⟨k, o, t, tk, g, rfl, hn, hk, ht, heq⟩
  simp only [go_sem, reduceAdd, reduceSub, reduceMul, reduceLT, reduceLeDiff, ↓reduceIte, reduceCtorEq, reduceEqDiff, reduceToNat, Int.reduceLT, reduceLE, reduceEq]
  refine condK_split (fun hc => ?_) (fun hc => ?_)
  · have hk' : k < l.length := by have := of_decide_eq_true hc; omega
    have hs := outL_snoc l m k hk'
    have hol : o.length ≤ l.length := by rw [heq]; exact Nat.le_trans (outL_len _ _) (by simp; omega)
    simp only [go_sem, reduceAdd, reduceSub, reduceMul, reduceLT, reduceLeDiff, ↓reduceIte, reduceCtorEq, reduceEqDiff, reduceToNat, Int.reduceLT, reduceLE, reduceEq, hk']
    refine callK_pure (ref18_has m (l.getD k 0) (by omega)) (by simp only [go_sem, hk']) (by simp only [go_sem, hk']) ?_; simp only [go_sem, reduceAdd, reduceSub, reduceMul, reduceLT, reduceLeDiff, ↓reduceIte, reduceCtorEq, reduceEqDiff, reduceToNat, Int.reduceLT, reduceLE, reduceEq, hk']
    refine condK_split (fun h1 => ?_) (fun h1 => ?_)
    · have h1' : ¬ l.getD k 0 ∈ m := by simpa using h1
      rw [if_neg h1'] at hs
      simp only [go_sem, reduceAdd, reduceSub, reduceMul, reduceLT, reduceLeDiff, ↓reduceIte, reduceCtorEq, reduceEqDiff, reduceToNat, Int.reduceLT, reduceLE, reduceEq, hk']
      refine appK_live _ _ _ _ _ _ _ _ _ _ ht (by simp) (by simp only [go_sem, reduceAdd, reduceSub, reduceMul, reduceLT, reduceLeDiff, ↓reduceIte, reduceCtorEq, reduceEqDiff, reduceToNat, Int.reduceLT, reduceLE, reduceEq]) (by simp only [go_sem, reduceAdd, reduceSub, reduceMul, reduceLT, reduceLeDiff, ↓reduceIte, reduceCtorEq, reduceEqDiff, reduceToNat, Int.reduceLT, reduceLE, reduceEq, List.length_map]; omega) (fun u tk' hu => ?_)
      simp only [go_sem, reduceAdd, reduceSub, reduceMul, reduceLT, reduceLeDiff, ↓reduceIte, reduceCtorEq, reduceEqDiff, reduceToNat, Int.reduceLT, reduceLE, reduceEq, ints_snoc, wrapNat k (by omega)]
      exact ⟨l.length - (k + 1), by omega, k + 1, _, u, tk', reg_intro rfl rfl ⟨rfl, by omega, hu, by rw [hs, heq]⟩⟩
    · have h1' : l.getD k 0 ∈ m := by simpa using h1
      rw [if_pos h1'] at hs
      simp only [go_sem, reduceAdd, reduceSub, reduceMul, reduceLT, reduceLeDiff, ↓reduceIte, reduceCtorEq, reduceEqDiff, reduceToNat, Int.reduceLT, reduceLE, reduceEq, hk', wrapNat k (by omega)]
      exact ⟨l.length - (k + 1), by omega, k + 1, o, t, tk, reg_intro rfl rfl ⟨rfl, by omega, ht, by rw [hs, heq]⟩⟩
  · have hi := of_decide_eq_false hc
    obtain rfl : k = l.length := by omega
    rw [List.take_length] at heq
    subst heq
    have hol := outL_len l m
    simp only [go_sem, reduceAdd, reduceSub, reduceMul, reduceLT, reduceLeDiff, ↓reduceIte, reduceCtorEq, reduceEqDiff, reduceToNat, Int.reduceLT, reduceLE, reduceEq]
    refine condK_split (fun h1 => ?_) (fun h1 => ?_)
    · have h1' : (outL l m).length = 0 := by have := of_decide_eq_true h1; omega
      simp only [go_sem, reduceAdd, reduceSub, reduceMul, reduceLT, reduceLeDiff, ↓reduceIte, reduceCtorEq, reduceEqDiff, reduceToNat, Int.reduceLT, reduceLE, reduceEq, pickI, if_pos h1']
    · have h1' : (outL l m).length ≠ 0 := by have := of_decide_eq_false h1; omega
      have hne : ((outL l m).length : Int) ≠ 0 := by omega
      obtain ⟨e, he⟩ : ∃ e : Nat, max d 0 = (e : Int) := ⟨(max d 0).toNat, by omega⟩
      have he2 : max 0 d = (e : Int) := by omega
      have hlt : e % (outL l m).length < (outL l m).length := Nat.mod_lt _ (by omega)
      have hpick : pickI l m d = (outL l m).getD (e % (outL l m).length) 0 := by rw [pickI, if_neg h1', he]; rfl
      simp only [go_sem, reduceAdd, reduceSub, reduceMul, reduceLT, reduceLeDiff, ↓reduceIte, reduceCtorEq, reduceEqDiff, reduceToNat, Int.reduceLT, reduceLE, reduceEq, he2, hne, tmodNat, hlt, hpick]
end Go.Ab
set_option linter.unusedSimpArgs false
namespace Go.Ab
open Go.Proofs

abbrev viewD (v : ViewR) : D := .agg [.lit (.int .i64 v.self), intsL v.act .no, intsL v.pas .no]
abbrev viewSh : Sh := .pair .leaf (.pair .leaf (.pair .leaf .unit))
theorem slices_indexFunc (l : List Int) (f : FuncId) (caps : List D) (p : Int → Bool) (bs : List (Sh × D)) (hl : l.length < 1000000000)
    (hf : ∀ x ∈ l, HSpec Tryz.prog CT f (.lit (.int .i64 x) :: caps) bs fun r bs' => r = .lit (.bool (p x)) ∧ bs' = bs) :
    HSpec Tryz.prog CT 115 [intsL l .no, .fn (.func f) caps] bs fun r bs' => bs' = bs ∧ ∃ i : Int, r = .lit (.int .i64 i) ∧ (decide (0 ≤ i) = l.any p) := by
  refine HSpec.of hT Tryz.func115 rfl (by kernel_rfl) rfl rfl fun tk => ?_
  simp only [Tryz.f115, go_sem, reduceAdd, reduceSub, reduceMul, reduceLT, reduceLeDiff, ↓reduceIte, reduceCtorEq, reduceEqDiff, reduceToNat, Int.reduceLT, reduceLE, reduceEq]
  refine awp_loop (fun m s => ∃ (k : Nat) (g : Nat → D), s = ⟨[intsL l .no, .fn (.func f) caps, g 2, g 3, g 4, g 5, intsL l .no, .lit (.int .i64 l.length), .lit (.int .i64 k), g 9, g 10, g 11, g 12, g 13, g 14, g 15, g 16, g 17, g 18], ⟨bs, tk⟩⟩ ∧ m = l.length - k ∧ k ≤ l.length ∧ (l.take k).any p = false) l.length ⟨0, reg_intro rfl rfl ⟨by simp, by omega, by simp⟩⟩ ?_
  rintro m s ⟨k, g, rfl, hn, hk, hp⟩
  simp only [go_sem, reduceAdd, reduceSub, reduceMul, reduceLT, reduceLeDiff, ↓reduceIte, reduceCtorEq, reduceEqDiff, reduceToNat, Int.reduceLT, reduceLE, reduceEq]
  refine condK_split (fun hc => ?_) (fun hc => ?_)
  · have hk' : k < l.length := by have := of_decide_eq_true hc; omega
    simp only [go_sem, reduceAdd, reduceSub, reduceMul, reduceLT, reduceLeDiff, ↓reduceIte, reduceCtorEq, reduceEqDiff, reduceToNat, Int.reduceLT, reduceLE, reduceEq, hk']
    refine callK_h (hf _ (mem_getD hk')) ?_
    rintro _ _ ⟨rfl, rfl⟩
    simp only [go_sem, reduceAdd, reduceSub, reduceMul, reduceLT, reduceLeDiff, ↓reduceIte, reduceCtorEq, reduceEqDiff, reduceToNat, Int.reduceLT, reduceLE, reduceEq]
    refine condK_split (fun h1 => ?_) (fun h1 => ?_)
    · simp only [go_sem, reduceAdd, reduceSub, reduceMul, reduceLT, reduceLeDiff, ↓reduceIte, reduceCtorEq, reduceEqDiff, reduceToNat, Int.reduceLT, reduceLE, reduceEq]
      refine finH_lit ⟨rfl, k, rfl, ?_⟩
      have : l.any p = true := List.any_eq_true.2 ⟨_, mem_getD hk', h1⟩
      rw [this]; simp
    · simp only [go_sem, reduceAdd, reduceSub, reduceMul, reduceLT, reduceLeDiff, ↓reduceIte, reduceCtorEq, reduceEqDiff, reduceToNat, Int.reduceLT, reduceLE, reduceEq, wrapNat k (by omega)]
      refine ⟨l.length - (k + 1), by omega, k + 1, reg_intro rfl rfl ⟨rfl, by omega, ?_⟩⟩
      rw [take_snoc l k hk', List.any_append, hp, Bool.false_or]
      simp only [List.any_cons, List.any_nil, Bool.or_false]; exact h1
  · have hi := of_decide_eq_false hc
    obtain rfl : k = l.length := by omega
    rw [List.take_length] at hp
    simp only [go_sem, reduceAdd, reduceSub, reduceMul, reduceLT, reduceLeDiff, ↓reduceIte, reduceCtorEq, reduceEqDiff, reduceToNat, Int.reduceLT, reduceLE, reduceEq]
    refine finH_lit ⟨rfl, -1, rfl, ?_⟩
    rw [hp]; decide

theorem slices_containsFunc (l : List Int) (f : FuncId) (caps : List D) (p : Int → Bool) (bs : List (Sh × D)) (hl : l.length < 1000000000)
    (hf : ∀ x ∈ l, HSpec Tryz.prog CT f (.lit (.int .i64 x) :: caps) bs fun r bs' => r = .lit (.bool (p x)) ∧ bs' = bs) :
    HSpec Tryz.prog CT 89 [intsL l .no, .fn (.func f) caps] bs fun r bs' => r = .lit (.bool (l.any p)) ∧ bs' = bs := by
  refine HSpec.of hT Tryz.func89 rfl (by kernel_rfl) rfl rfl fun tk => ?_
  simp only [Tryz.f89, go_sem, reduceAdd, reduceSub, reduceMul, reduceLT, reduceLeDiff, ↓reduceIte, reduceCtorEq, reduceEqDiff, reduceToNat, Int.reduceLT, reduceLE, reduceEq]
  refine callK_h (slices_indexFunc l f caps p bs hl hf) ?_
  rintro _ _ ⟨rfl, i, rfl, hi⟩
  simp only [go_sem, reduceAdd, reduceSub, reduceMul, reduceLT, reduceLeDiff, ↓reduceIte, reduceCtorEq, reduceEqDiff, reduceToNat, Int.reduceLT, reduceLE, reduceEq, hi]
  exact finH_lit ⟨rfl, rfl⟩

theorem view_check1 (v : ViewR) (x : Int) (i : Nat) (bs : List (Sh × D)) (hi : bs[i]? = some (viewSh, viewD v)) (hl : v.pas.length < 1000000000) :
    HSpec Tryz.prog CT 90 [.lit (.int .i64 x), .ptr i []] bs fun r bs' => r = .lit (.bool (decide (x ∈ v.pas))) ∧ bs' = bs := by
  refine HSpec.of hT Tryz.func90 rfl (by kernel_rfl) rfl rfl fun tk => ?_
  simp only [Tryz.f90, go_sem, reduceAdd, reduceSub, reduceMul, reduceLT, reduceLeDiff, ↓reduceIte, reduceCtorEq, reduceEqDiff, reduceToNat, Int.reduceLT, reduceLE, reduceEq, hi]
  refine callK_pure (view_has v.pas x (by omega)) (by simp only [go_sem, hi]) (by simp only [go_sem, hi]) ?_; simp only [go_sem, reduceAdd, reduceSub, reduceMul, reduceLT, reduceLeDiff, ↓reduceIte, reduceCtorEq, reduceEqDiff, reduceToNat, Int.reduceLT, reduceLE, reduceEq, hi]
  exact finH_lit ⟨rfl, rfl⟩

set_option maxRecDepth 8000 in
theorem view_check (v : ViewR) (ha : v.act.length < 1000000000) (hp : v.pas.length < 1000000000) : PSpec Tryz.prog CT 56 [viewD v] (· = .bool (checkV v)) := by
  refine PSpec.of hT Tryz.func56 rfl (by kernel_rfl) rfl rfl ?_
  simp only [Tryz.f56, go_sem, reduceAdd, reduceSub, reduceMul, reduceLT, reduceLeDiff, ↓reduceIte, reduceCtorEq, reduceEqDiff, reduceToNat, Int.reduceLT, reduceLE, reduceEq]
  (repeat' (first | ((refine guardK_split (fun hg => ?_) (fun hg => ?_)) <;> (try simp only [go_sem, reduceAdd, reduceSub, reduceMul, reduceLT, reduceLeDiff, ↓reduceIte, reduceCtorEq, reduceEqDiff, reduceToNat, Int.reduceLT, reduceLE, reduceEq, hg])) | ((refine condK_split (fun hg => ?_) (fun hg => ?_)) <;> (try simp only [go_sem, reduceAdd, reduceSub, reduceMul, reduceLT, reduceLeDiff, ↓reduceIte, reduceCtorEq, reduceEqDiff, reduceToNat, Int.reduceLT, reduceLE, reduceEq, hg])) | ((first | refine callK_pure (roster_check v.act (by omega)) ?_ ?_ ?_ | refine callD_pure (roster_check v.act (by omega)) ?_ ?_ ?_); (iterate 2 (focus (first | rfl | (simp only [go_sem]; done)))); try simp only [go_sem, reduceAdd, reduceSub, reduceMul, reduceLT, reduceLeDiff, ↓reduceIte, reduceCtorEq, reduceEqDiff, reduceToNat, Int.reduceLT, reduceLE, reduceEq]) | ((first | refine callK_pure (roster_check v.pas (by omega)) ?_ ?_ ?_ | refine callD_pure (roster_check v.pas (by omega)) ?_ ?_ ?_); (iterate 2 (focus (first | rfl | (simp only [go_sem]; done)))); try simp only [go_sem, reduceAdd, reduceSub, reduceMul, reduceLT, reduceLeDiff, ↓reduceIte, reduceCtorEq, reduceEqDiff, reduceToNat, Int.reduceLT, reduceLE, reduceEq]) | ((first | refine callK_pure (view_has v.act v.self (by omega)) ?_ ?_ ?_ | refine callD_pure (view_has v.act v.self (by omega)) ?_ ?_ ?_); (iterate 2 (focus (first | rfl | (simp only [go_sem]; done)))); try simp only [go_sem, reduceAdd, reduceSub, reduceMul, reduceLT, reduceLeDiff, ↓reduceIte, reduceCtorEq, reduceEqDiff, reduceToNat, Int.reduceLT, reduceLE, reduceEq]) | ((first | refine callK_pure (view_has v.pas v.self (by omega)) ?_ ?_ ?_ | refine callD_pure (view_has v.pas v.self (by omega)) ?_ ?_ ?_); (iterate 2 (focus (first | rfl | (simp only [go_sem]; done)))); try simp only [go_sem, reduceAdd, reduceSub, reduceMul, reduceLT, reduceLeDiff, ↓reduceIte, reduceCtorEq, reduceEqDiff, reduceToNat, Int.reduceLT, reduceLE, reduceEq]) | ((refine Or.inl ⟨by kernel_rfl, ?_⟩) <;> (try simp only [go_sem, reduceAdd, reduceSub, reduceMul, reduceLT, reduceLeDiff, ↓reduceIte, reduceCtorEq, reduceEqDiff, reduceToNat, Int.reduceLT, reduceLE, reduceEq])))) <;> (first | done | (simp_all [checkV, vpeer]; done) | (simp_all [checkV, vpeer]; omega) | (simp_all [checkV, vpeer]; intros; omega) | skip)
  refine callK_h (slices_containsFunc v.act _ _ (fun x => decide (x ∈ v.pas)) _ (by omega) fun x _ => view_check1 v x 0 _ rfl hp) ?_
  rintro _ _ ⟨rfl, rfl⟩
  simp only [go_sem, reduceAdd, reduceSub, reduceMul, reduceLT, reduceLeDiff, ↓reduceIte, reduceCtorEq, reduceEqDiff, reduceToNat, Int.reduceLT, reduceLE, reduceEq]
  have e : v.act.all (fun p => !decide (p ∈ v.pas)) = !v.act.any fun x => decide (x ∈ v.pas) := by rw [List.not_any_eq_all_not]
  rename_i g1 g2 g3 g4 g5 g6 g7
  simp only [Bool.not_eq_false', decide_eq_false_iff_not] at g1 g2 g3 g4 g5 g6 g7 hg
  have e1 : (1 ≤ v.self) = True := by simp; omega
  have e2 : (v.self ≤ 12) = True := by simp; omega
  have e3 : (v.act.length ≤ 4) = True := by simp; omega
  have e4 : (v.pas.length ≤ 8) = True := by simp; omega
  simp only [checkV, vpeer, e1, e2, e3, e4, g3, g4, g7, hg, e, decide_true, decide_false, Bool.true_and, Bool.not_false]

set_option maxRecDepth 8000 in
theorem ref25_check (v : ViewR) (ha : v.act.length < 1000000000) (hp : v.pas.length < 1000000000) : PSpec Tryz.prog CT 8 [viewD v] (· = .bool (checkV v)) := by
  refine PSpec.of hT Tryz.func8 rfl (by kernel_rfl) rfl rfl ?_
  simp only [Tryz.f8, go_sem, reduceAdd, reduceSub, reduceMul, reduceLT, reduceLeDiff, ↓reduceIte, reduceCtorEq, reduceEqDiff, reduceToNat, Int.reduceLT, reduceLE, reduceEq]
  (repeat' (first | ((refine guardK_split (fun hg => ?_) (fun hg => ?_)) <;> (try simp only [go_sem, reduceAdd, reduceSub, reduceMul, reduceLT, reduceLeDiff, ↓reduceIte, reduceCtorEq, reduceEqDiff, reduceToNat, Int.reduceLT, reduceLE, reduceEq, hg])) | ((refine condK_split (fun hg => ?_) (fun hg => ?_)) <;> (try simp only [go_sem, reduceAdd, reduceSub, reduceMul, reduceLT, reduceLeDiff, ↓reduceIte, reduceCtorEq, reduceEqDiff, reduceToNat, Int.reduceLT, reduceLE, reduceEq, hg])) | ((first | refine callK_pure (ref_peer v.self) ?_ ?_ ?_ | refine callD_pure (ref_peer v.self) ?_ ?_ ?_); (iterate 2 (focus (first | rfl | (simp only [go_sem]; done)))); try simp only [go_sem, reduceAdd, reduceSub, reduceMul, reduceLT, reduceLeDiff, ↓reduceIte, reduceCtorEq, reduceEqDiff, reduceToNat, Int.reduceLT, reduceLE, reduceEq]) | ((first | refine callK_pure (ref18_check v.act (by omega)) ?_ ?_ ?_ | refine callD_pure (ref18_check v.act (by omega)) ?_ ?_ ?_); (iterate 2 (focus (first | rfl | (simp only [go_sem]; done)))); try simp only [go_sem, reduceAdd, reduceSub, reduceMul, reduceLT, reduceLeDiff, ↓reduceIte, reduceCtorEq, reduceEqDiff, reduceToNat, Int.reduceLT, reduceLE, reduceEq]) | ((first | refine callK_pure (ref18_check v.pas (by omega)) ?_ ?_ ?_ | refine callD_pure (ref18_check v.pas (by omega)) ?_ ?_ ?_); (iterate 2 (focus (first | rfl | (simp only [go_sem]; done)))); try simp only [go_sem, reduceAdd, reduceSub, reduceMul, reduceLT, reduceLeDiff, ↓reduceIte, reduceCtorEq, reduceEqDiff, reduceToNat, Int.reduceLT, reduceLE, reduceEq]) | ((refine Or.inl ⟨by kernel_rfl, ?_⟩) <;> (try simp only [go_sem, reduceAdd, reduceSub, reduceMul, reduceLT, reduceLeDiff, ↓reduceIte, reduceCtorEq, reduceEqDiff, reduceToNat, Int.reduceLT, reduceLE, reduceEq])))) <;> (first | done | (simp_all [checkV]; done) | (simp_all [checkV]; omega) | (simp_all [checkV]; intros; omega) | skip)
  rename_i g1 g2 g3 g4
  simp only [Bool.not_eq_false', decide_eq_false_iff_not] at g1 g2 g3 g4 hg
  have e3 : (v.act.length ≤ 4) = True := by simp; omega
  have e4 : (v.pas.length ≤ 8) = True := by simp; omega
  have hcv : checkV v = ((v.act.all fun p => !decide (p ∈ v.pas)) && (!decide (v.self ∈ v.act) && !decide (v.self ∈ v.pas))) := by
    simp only [checkV, g1, g2, g3, e3, e4, decide_true, Bool.true_and]
    rw [Bool.and_comm]
  refine awp_loop (fun n s => ∃ (k : Nat) (g : Nat → D), s = ⟨[g 0, .ptr 0 [], g 2, .lit (.int .i64 k), g 4, g 5, g 6, g 7, g 8, g 9, g 10, g 11, g 12, g 13, g 14, g 15, g 16, g 17, g 18, g 19, g 20, g 21, g 22, g 23, g 24, g 25, g 26, g 27, g 28, g 29, g 30, g 31, g 32, g 33, g 34, g 35, g 36, g 37, g 38, g 39, g 40, g 41, g 42, g 43, g 44, g 45, g 46, g 47, g 48, g 49, g 50, g 51, g 52, g 53, g 54, g 55, g 56, g 57, g 58, g 59, g 60], ⟨[(viewSh, viewD v)], []⟩⟩ ∧ n = v.act.length - k ∧ k ≤ v.act.length ∧ (v.act.take k).all (fun p => !decide (p ∈ v.pas)) = true) v.act.length ⟨0, reg_intro rfl rfl ⟨by simp, by omega, by simp⟩⟩ ?_
  rintro n s ⟨k, g, rfl, hn, hk, hk2⟩
  simp only [go_sem, reduceAdd, reduceSub, reduceMul, reduceLT, reduceLeDiff, ↓reduceIte, reduceCtorEq, reduceEqDiff, reduceToNat, Int.reduceLT, reduceLE, reduceEq]
  refine condK_split (fun hc => ?_) (fun hc => ?_)
  · have hk' : k < v.act.length := by have := of_decide_eq_true hc; omega
    simp only [go_sem, reduceAdd, reduceSub, reduceMul, reduceLT, reduceLeDiff, ↓reduceIte, reduceCtorEq, reduceEqDiff, reduceToNat, Int.reduceLT, reduceLE, reduceEq, hk']
    refine .inl ⟨by kernel_rfl, ?_⟩
    refine callD_pure (ref18_has v.pas (v.act.getD k 0) (by omega)) (by simp only [go_sem, hk']) (by simp only [go_sem, hk']) ?_; simp only [go_sem, reduceAdd, reduceSub, reduceMul, reduceLT, reduceLeDiff, ↓reduceIte, reduceCtorEq, reduceEqDiff, reduceToNat, Int.reduceLT, reduceLE, reduceEq, hk']
    refine condK_split (fun h1 => ?_) (fun h1 => ?_)
    · have : v.act.all (fun p => !decide (p ∈ v.pas)) = false := List.all_eq_false.2 ⟨_, mem_getD hk', by rw [h1]; simp⟩
      rw [this, Bool.false_and] at hcv
      simp only [go_sem, reduceAdd, reduceSub, reduceMul, reduceLT, reduceLeDiff, ↓reduceIte, reduceCtorEq, reduceEqDiff, reduceToNat, Int.reduceLT, reduceLE, reduceEq, hcv]
    · simp only [go_sem, reduceAdd, reduceSub, reduceMul, reduceLT, reduceLeDiff, ↓reduceIte, reduceCtorEq, reduceEqDiff, reduceToNat, Int.reduceLT, reduceLE, reduceEq, wrapNat k (by omega)]
      refine ⟨v.act.length - (k + 1), by omega, k + 1, reg_intro rfl rfl ⟨rfl, by omega, ?_⟩⟩
      rw [take_snoc v.act k hk', List.all_append, hk2, Bool.true_and]
      simp only [List.all_cons, List.all_nil, Bool.and_true, h1, Bool.not_false]
  · have hi := of_decide_eq_false hc
    obtain rfl : k = v.act.length := by omega
    rw [List.take_length] at hk2
    rw [hk2, Bool.true_and] at hcv
    simp only [go_sem, reduceAdd, reduceSub, reduceMul, reduceLT, reduceLeDiff, ↓reduceIte, reduceCtorEq, reduceEqDiff, reduceToNat, Int.reduceLT, reduceLE, reduceEq]
    (repeat' (first | ((refine guardK_split (fun hg => ?_) (fun hg => ?_)) <;> (try simp only [go_sem, reduceAdd, reduceSub, reduceMul, reduceLT, reduceLeDiff, ↓reduceIte, reduceCtorEq, reduceEqDiff, reduceToNat, Int.reduceLT, reduceLE, reduceEq, hg])) | ((refine condK_split (fun hg => ?_) (fun hg => ?_)) <;> (try simp only [go_sem, reduceAdd, reduceSub, reduceMul, reduceLT, reduceLeDiff, ↓reduceIte, reduceCtorEq, reduceEqDiff, reduceToNat, Int.reduceLT, reduceLE, reduceEq, hg])) | ((first | refine callK_pure (ref18_has v.act v.self (by omega)) ?_ ?_ ?_ | refine callD_pure (ref18_has v.act v.self (by omega)) ?_ ?_ ?_); (iterate 2 (focus (first | rfl | (simp only [go_sem]; done)))); try simp only [go_sem, reduceAdd, reduceSub, reduceMul, reduceLT, reduceLeDiff, ↓reduceIte, reduceCtorEq, reduceEqDiff, reduceToNat, Int.reduceLT, reduceLE, reduceEq]) | ((first | refine callK_pure (ref18_has v.pas v.self (by omega)) ?_ ?_ ?_ | refine callD_pure (ref18_has v.pas v.self (by omega)) ?_ ?_ ?_); (iterate 2 (focus (first | rfl | (simp only [go_sem]; done)))); try simp only [go_sem, reduceAdd, reduceSub, reduceMul, reduceLT, reduceLeDiff, ↓reduceIte, reduceCtorEq, reduceEqDiff, reduceToNat, Int.reduceLT, reduceLE, reduceEq]) | ((refine Or.inl ⟨by kernel_rfl, ?_⟩) <;> (try simp only [go_sem, reduceAdd, reduceSub, reduceMul, reduceLT, reduceLeDiff, ↓reduceIte, reduceCtorEq, reduceEqDiff, reduceToNat, Int.reduceLT, reduceLE, reduceEq])))) <;> (first | done | (simp_all; done) | skip)

theorem view_other (v : ViewR) (p : Int) : PSpec Tryz.prog CT 91 [viewD v, .lit (.int .i64 p)] (· = .bool (otherV v p)) := by
  refine PSpec.of hT Tryz.func91 rfl (by kernel_rfl) rfl rfl ?_
  simp only [Tryz.f91, go_sem, reduceAdd, reduceSub, reduceMul, reduceLT, reduceLeDiff, ↓reduceIte, reduceCtorEq, reduceEqDiff, reduceToNat, Int.reduceLT, reduceLE, reduceEq]
  (repeat' (first | ((refine guardK_split (fun hg => ?_) (fun hg => ?_)) <;> (try simp only [go_sem, reduceAdd, reduceSub, reduceMul, reduceLT, reduceLeDiff, ↓reduceIte, reduceCtorEq, reduceEqDiff, reduceToNat, Int.reduceLT, reduceLE, reduceEq, hg])) | ((refine condK_split (fun hg => ?_) (fun hg => ?_)) <;> (try simp only [go_sem, reduceAdd, reduceSub, reduceMul, reduceLT, reduceLeDiff, ↓reduceIte, reduceCtorEq, reduceEqDiff, reduceToNat, Int.reduceLT, reduceLE, reduceEq, hg])) | ((refine Or.inl ⟨by kernel_rfl, ?_⟩) <;> (try simp only [go_sem, reduceAdd, reduceSub, reduceMul, reduceLT, reduceLeDiff, ↓reduceIte, reduceCtorEq, reduceEqDiff, reduceToNat, Int.reduceLT, reduceLE, reduceEq])))) <;> (first | done | (simp_all [otherV, vpeer]; done) | (simp_all [otherV, vpeer]; omega) | (simp_all [otherV, vpeer]; intros; omega) | (simp_all [otherV, vpeer]; grind))
theorem ref25_other (v : ViewR) (p : Int) : PSpec Tryz.prog CT 105 [viewD v, .lit (.int .i64 p)] (· = .bool (otherV v p)) := by
  refine PSpec.of hT Tryz.func105 rfl (by kernel_rfl) rfl rfl ?_
  simp only [Tryz.f105, go_sem, reduceAdd, reduceSub, reduceMul, reduceLT, reduceLeDiff, ↓reduceIte, reduceCtorEq, reduceEqDiff, reduceToNat, Int.reduceLT, reduceLE, reduceEq]
  (repeat' (first | ((refine guardK_split (fun hg => ?_) (fun hg => ?_)) <;> (try simp only [go_sem, reduceAdd, reduceSub, reduceMul, reduceLT, reduceLeDiff, ↓reduceIte, reduceCtorEq, reduceEqDiff, reduceToNat, Int.reduceLT, reduceLE, reduceEq, hg])) | ((refine condK_split (fun hg => ?_) (fun hg => ?_)) <;> (try simp only [go_sem, reduceAdd, reduceSub, reduceMul, reduceLT, reduceLeDiff, ↓reduceIte, reduceCtorEq, reduceEqDiff, reduceToNat, Int.reduceLT, reduceLE, reduceEq, hg])) | ((first | refine callK_pure (ref_peer p) ?_ ?_ ?_ | refine callD_pure (ref_peer p) ?_ ?_ ?_); (iterate 2 (focus (first | rfl | (simp only [go_sem]; done)))); try simp only [go_sem, reduceAdd, reduceSub, reduceMul, reduceLT, reduceLeDiff, ↓reduceIte, reduceCtorEq, reduceEqDiff, reduceToNat, Int.reduceLT, reduceLE, reduceEq]) | ((refine Or.inl ⟨by kernel_rfl, ?_⟩) <;> (try simp only [go_sem, reduceAdd, reduceSub, reduceMul, reduceLT, reduceLeDiff, ↓reduceIte, reduceCtorEq, reduceEqDiff, reduceToNat, Int.reduceLT, reduceLE, reduceEq])))) <;> (first | done | (simp_all [otherV, vpeer]; done) | (simp_all [otherV, vpeer]; omega) | (simp_all [otherV, vpeer]; intros; omega) | (simp_all [otherV, vpeer]; grind))
theorem ref25_few (v : ViewR) : PSpec Tryz.prog CT 7 [viewD v] (· = .bool (decide (v.act.length ≤ 40) && decide (v.pas.length ≤ 40))) := by
  refine PSpec.of hT Tryz.func7 rfl (by kernel_rfl) rfl rfl ?_
  simp only [Tryz.f7, go_sem, reduceAdd, reduceSub, reduceMul, reduceLT, reduceLeDiff, ↓reduceIte, reduceCtorEq, reduceEqDiff, reduceToNat, Int.reduceLT, reduceLE, reduceEq]
  (repeat' (first | ((refine guardK_split (fun hg => ?_) (fun hg => ?_)) <;> (try simp only [go_sem, reduceAdd, reduceSub, reduceMul, reduceLT, reduceLeDiff, ↓reduceIte, reduceCtorEq, reduceEqDiff, reduceToNat, Int.reduceLT, reduceLE, reduceEq, hg])) | ((refine condK_split (fun hg => ?_) (fun hg => ?_)) <;> (try simp only [go_sem, reduceAdd, reduceSub, reduceMul, reduceLT, reduceLeDiff, ↓reduceIte, reduceCtorEq, reduceEqDiff, reduceToNat, Int.reduceLT, reduceLE, reduceEq, hg])) | ((refine Or.inl ⟨by kernel_rfl, ?_⟩) <;> (try simp only [go_sem, reduceAdd, reduceSub, reduceMul, reduceLT, reduceLeDiff, ↓reduceIte, reduceCtorEq, reduceEqDiff, reduceToNat, Int.reduceLT, reduceLE, reduceEq])))) <;> (first | done | (simp_all []; done) | (simp_all []; omega) | (simp_all []; intros; omega) | (simp_all []; grind))
def sameVw (a b : ViewR) : Bool := decide (a.self = b.self) && decide (a.act = b.act) && decide (a.pas = b.pas)
theorem ref25_same (a b : ViewR) (ha : a.act.length < 1000000000) (hp : a.pas.length < 1000000000) : PSpec Tryz.prog CT 15 [viewD a, viewD b] (· = .bool (sameVw a b)) := by
  refine PSpec.of hT Tryz.func15 rfl (by kernel_rfl) rfl rfl ?_
  simp only [Tryz.f15, go_sem, reduceAdd, reduceSub, reduceMul, reduceLT, reduceLeDiff, ↓reduceIte, reduceCtorEq, reduceEqDiff, reduceToNat, Int.reduceLT, reduceLE, reduceEq]
  (repeat' (first | ((refine guardK_split (fun hg => ?_) (fun hg => ?_)) <;> (try simp only [go_sem, reduceAdd, reduceSub, reduceMul, reduceLT, reduceLeDiff, ↓reduceIte, reduceCtorEq, reduceEqDiff, reduceToNat, Int.reduceLT, reduceLE, reduceEq, hg])) | ((refine condK_split (fun hg => ?_) (fun hg => ?_)) <;> (try simp only [go_sem, reduceAdd, reduceSub, reduceMul, reduceLT, reduceLeDiff, ↓reduceIte, reduceCtorEq, reduceEqDiff, reduceToNat, Int.reduceLT, reduceLE, reduceEq, hg])) | ((first | refine callK_pure (ref18_ints a.act b.act (by omega)) ?_ ?_ ?_ | refine callD_pure (ref18_ints a.act b.act (by omega)) ?_ ?_ ?_); (iterate 2 (focus (first | rfl | (simp only [go_sem]; done)))); try simp only [go_sem, reduceAdd, reduceSub, reduceMul, reduceLT, reduceLeDiff, ↓reduceIte, reduceCtorEq, reduceEqDiff, reduceToNat, Int.reduceLT, reduceLE, reduceEq]) | ((first | refine callK_pure (ref18_ints a.pas b.pas (by omega)) ?_ ?_ ?_ | refine callD_pure (ref18_ints a.pas b.pas (by omega)) ?_ ?_ ?_); (iterate 2 (focus (first | rfl | (simp only [go_sem]; done)))); try simp only [go_sem, reduceAdd, reduceSub, reduceMul, reduceLT, reduceLeDiff, ↓reduceIte, reduceCtorEq, reduceEqDiff, reduceToNat, Int.reduceLT, reduceLE, reduceEq]) | ((refine Or.inl ⟨by kernel_rfl, ?_⟩) <;> (try simp only [go_sem, reduceAdd, reduceSub, reduceMul, reduceLT, reduceLeDiff, ↓reduceIte, reduceCtorEq, reduceEqDiff, reduceToNat, Int.reduceLT, reduceLE, reduceEq])))) <;> (first | done | (simp_all [sameVw]; done) | (simp_all [sameVw]; omega) | (simp_all [sameVw]; intros; omega) | (simp_all [sameVw]; grind))
end Go.Ab
