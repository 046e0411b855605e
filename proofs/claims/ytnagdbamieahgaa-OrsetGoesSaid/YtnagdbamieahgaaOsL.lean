/- Sets: marks with one more, without some, in the document. Conditions: none. -/
import Derived.Test.YtnagdbamieahgaaOsK
set_option linter.unusedSimpArgs false
namespace Go.Ab
open Go.Proofs

theorem mkD_snoc (l : List MarkR) (m : MarkR) : l.map MarkR.d ++ [m.d] = (l ++ [m]).map MarkR.d := by simp
set_option maxRecDepth 8000 in
theorem ref10_left (l : List MarkR) (t : TxR) (i : Int) (hd : t.deps.length = 13) (hl : l.length < 1000000000) : PSpec Try.prog CT 101 [marksD l .no, txD t, .lit (.int .i64 i)] (· = marksD (leftM l t i) .no) := by
  refine PSpec.of hT Try.func101 rfl (by kernel_rfl) rfl rfl ?_
  simp only [Try.f101, go_sem, Nat.reduceAdd, Nat.reduceSub, Nat.reduceMul, Nat.reduceLT, Nat.reduceLeDiff, ↓reduceIte, reduceCtorEq, Nat.reduceEqDiff, Int.reduceToNat, Int.reduceLT, Int.reduceLE, Int.reduceEq, beq_self_eq_true, hd]
  refine awp_loop (fun n s => ∃ (k : Nat) (o : List MarkR) (u : Tok) (tk : List Bool) (g : Nat → D), s = ⟨[marksD l .no, g 1, .lit (.int .i64 i), g 3, .ptr 0 [], g 5, g 6, marksD o u, .lit (.int .i64 k), g 9, g 10, g 11, g 12, g 13, g 14, g 15, g 16, g 17, g 18, g 19, g 20, g 21, g 22, g 23, g 24, g 25, g 26, g 27, g 28, g 29, g 30], ⟨[(txSh, txD t)], tk⟩⟩ ∧ n = l.length - k ∧ k ≤ l.length ∧ o = keptL (befM t i) (l.take k) ∧ live u tk) l.length ⟨0, [], .full, [], reg_intro rfl rfl ⟨by simp, by omega, by simp [keptL], trivial⟩⟩ ?_
  rintro n s ⟨k, o, u, tk, g, rfl, hn, hk, ho, hu⟩
  simp only [go_sem, Nat.reduceAdd, Nat.reduceSub, Nat.reduceMul, Nat.reduceLT, Nat.reduceLeDiff, ↓reduceIte, reduceCtorEq, Nat.reduceEqDiff, Int.reduceToNat, Int.reduceLT, Int.reduceLE, Int.reduceEq, beq_self_eq_true, hd]
  refine condK_split (fun hcc => ?_) (fun hcc => ?_)
  · have hk' : k < l.length := by have := of_decide_eq_true hcc; omega
    have hks := kept_snoc (p := befM t i) hk'
    have hkl := kept_len (befM t i) (l.take k)
    rw [List.length_take, ← ho] at hkl
    simp only [go_sem, Nat.reduceAdd, Nat.reduceSub, Nat.reduceMul, Nat.reduceLT, Nat.reduceLeDiff, ↓reduceIte, reduceCtorEq, Nat.reduceEqDiff, Int.reduceToNat, Int.reduceLT, Int.reduceLE, Int.reduceEq, beq_self_eq_true, hk', hd]
    refine .inl ⟨by kernel_rfl, ?_⟩
    simp only [go_sem, Nat.reduceAdd, Nat.reduceSub, Nat.reduceMul, Nat.reduceLT, Nat.reduceLeDiff, ↓reduceIte, reduceCtorEq, Nat.reduceEqDiff, Int.reduceToNat, Int.reduceLT, Int.reduceLE, Int.reduceEq, beq_self_eq_true, hk', get_mk, hd]
    refine callD_pure (ref_before (l.getD k default).p (l.getD k default).s (l.getD k default).i t i hd) (by first | rfl | (simp only [go_sem, Nat.reduceAdd, Nat.reduceSub, Nat.reduceMul, Nat.reduceLT, Nat.reduceLeDiff, ↓reduceIte, reduceCtorEq, Nat.reduceEqDiff, Int.reduceToNat, Int.reduceLT, Int.reduceLE, Int.reduceEq, beq_self_eq_true, hd]; done)) (by first | (simp only [go_sem, Nat.reduceAdd, Nat.reduceSub, Nat.reduceMul, Nat.reduceLT, Nat.reduceLeDiff, ↓reduceIte, reduceCtorEq, Nat.reduceEqDiff, Int.reduceToNat, Int.reduceLT, Int.reduceLE, Int.reduceEq, beq_self_eq_true, hd]; done) | (simp [pureL, pureD]; done)) ?_
    simp only [go_sem, Nat.reduceAdd, Nat.reduceSub, Nat.reduceMul, Nat.reduceLT, Nat.reduceLeDiff, ↓reduceIte, reduceCtorEq, Nat.reduceEqDiff, Int.reduceToNat, Int.reduceLT, Int.reduceLE, Int.reduceEq, beq_self_eq_true]
    refine condK_split (fun h2 => ?_) (fun h2 => ?_)
    · have hb : befM t i (l.getD k default) = false := by simpa [befM] using h2
      rw [hb, if_neg (by simp)] at hks
      simp only [go_sem, Nat.reduceAdd, Nat.reduceSub, Nat.reduceMul, Nat.reduceLT, Nat.reduceLeDiff, ↓reduceIte, reduceCtorEq, Nat.reduceEqDiff, Int.reduceToNat, Int.reduceLT, Int.reduceLE, Int.reduceEq, beq_self_eq_true, hk', get_mk]
      refine appK_live _ _ _ _ _ _ _ _ _ _ hu (by simp) (by simp only [go_sem, Nat.reduceAdd, Nat.reduceSub, Nat.reduceMul, Nat.reduceLT, Nat.reduceLeDiff, ↓reduceIte, reduceCtorEq, Nat.reduceEqDiff, Int.reduceToNat, Int.reduceLT, Int.reduceLE, Int.reduceEq, beq_self_eq_true]) (by simp only [go_sem, Nat.reduceAdd, Nat.reduceSub, Nat.reduceMul, Nat.reduceLT, Nat.reduceLeDiff, ↓reduceIte, reduceCtorEq, Nat.reduceEqDiff, Int.reduceToNat, Int.reduceLT, Int.reduceLE, Int.reduceEq, beq_self_eq_true]; omega) (fun u' tk' hu' => ?_)
      simp only [go_sem, Nat.reduceAdd, Nat.reduceSub, Nat.reduceMul, Nat.reduceLT, Nat.reduceLeDiff, ↓reduceIte, reduceCtorEq, Nat.reduceEqDiff, Int.reduceToNat, Int.reduceLT, Int.reduceLE, Int.reduceEq, beq_self_eq_true, mkD_snoc, wrapNat k (by omega)]
      exact ⟨l.length - (k + 1), by omega, k + 1, o ++ [l.getD k default], u', tk', reg_intro rfl rfl ⟨rfl, by omega, by rw [hks, ho], hu'⟩⟩
    · have hb : befM t i (l.getD k default) = true := by simpa [befM] using h2
      rw [hb, if_pos rfl, List.append_nil] at hks
      simp only [go_sem, Nat.reduceAdd, Nat.reduceSub, Nat.reduceMul, Nat.reduceLT, Nat.reduceLeDiff, ↓reduceIte, reduceCtorEq, Nat.reduceEqDiff, Int.reduceToNat, Int.reduceLT, Int.reduceLE, Int.reduceEq, beq_self_eq_true, wrapNat k (by omega)]
      exact ⟨l.length - (k + 1), by omega, k + 1, o, u, tk, reg_intro rfl rfl ⟨rfl, by omega, by rw [hks, ho], hu⟩⟩
  · have hi := of_decide_eq_false hcc
    obtain rfl : k = l.length := by omega
    rw [List.take_length] at ho
    simp only [go_sem, Nat.reduceAdd, Nat.reduceSub, Nat.reduceMul, Nat.reduceLT, Nat.reduceLeDiff, ↓reduceIte, reduceCtorEq, Nat.reduceEqDiff, Int.reduceToNat, Int.reduceLT, Int.reduceLE, Int.reduceEq, beq_self_eq_true, leftM, ← ho]
set_option maxRecDepth 8000 in
theorem ref10_folded (l : List MarkR) (cut : List Int) (hd : cut.length = 13) (hl : l.length < 1000000000) : PSpec Try.prog CT 82 [marksD l .no, ints cut] (· = .tup [marksD (foldM l cut) .no, .bool (decide ((foldM l cut).length < l.length))]) := by
  refine PSpec.of hT Try.func82 rfl (by kernel_rfl) rfl rfl ?_
  simp only [Try.f82, go_sem, Nat.reduceAdd, Nat.reduceSub, Nat.reduceMul, Nat.reduceLT, Nat.reduceLeDiff, ↓reduceIte, reduceCtorEq, Nat.reduceEqDiff, Int.reduceToNat, Int.reduceLT, Int.reduceLE, Int.reduceEq, beq_self_eq_true, hd]
  refine awp_loop (fun n s => ∃ (k : Nat) (o : List MarkR) (u : Tok) (tk : List Bool) (g : Nat → D), s = ⟨[marksD l .no, g 1, g 2, .ptr 0 [], g 4, g 5, marksD o u, .lit (.int .i64 k), g 8, g 9, g 10, g 11, g 12, g 13, g 14, g 15, g 16, g 17, g 18, g 19, g 20, g 21, g 22, g 23, g 24, g 25, g 26, g 27, g 28, g 29, g 30, g 31, g 32, g 33, g 34], ⟨[((.arr 13 .leaf), ints cut)], tk⟩⟩ ∧ n = l.length - k ∧ k ≤ l.length ∧ o = keptL (hasM cut) (l.take k) ∧ live u tk) l.length ⟨0, [], .full, [], reg_intro rfl rfl ⟨by simp, by omega, by simp [keptL], trivial⟩⟩ ?_
  rintro n s ⟨k, o, u, tk, g, rfl, hn, hk, ho, hu⟩
  simp only [go_sem, Nat.reduceAdd, Nat.reduceSub, Nat.reduceMul, Nat.reduceLT, Nat.reduceLeDiff, ↓reduceIte, reduceCtorEq, Nat.reduceEqDiff, Int.reduceToNat, Int.reduceLT, Int.reduceLE, Int.reduceEq, beq_self_eq_true, hd]
  refine condK_split (fun hcc => ?_) (fun hcc => ?_)
  · have hk' : k < l.length := by have := of_decide_eq_true hcc; omega
    have hks := kept_snoc (p := hasM cut) hk'
    have hkl := kept_len (hasM cut) (l.take k)
    rw [List.length_take, ← ho] at hkl
    simp only [go_sem, Nat.reduceAdd, Nat.reduceSub, Nat.reduceMul, Nat.reduceLT, Nat.reduceLeDiff, ↓reduceIte, reduceCtorEq, Nat.reduceEqDiff, Int.reduceToNat, Int.reduceLT, Int.reduceLE, Int.reduceEq, beq_self_eq_true, hk', hd]
    refine .inl ⟨by kernel_rfl, ?_⟩
    simp only [go_sem, Nat.reduceAdd, Nat.reduceSub, Nat.reduceMul, Nat.reduceLT, Nat.reduceLeDiff, ↓reduceIte, reduceCtorEq, Nat.reduceEqDiff, Int.reduceToNat, Int.reduceLT, Int.reduceLE, Int.reduceEq, beq_self_eq_true, hk', get_mk, hd]
    refine callD_pure (ref_has cut (l.getD k default).p (l.getD k default).s hd) (by first | rfl | (simp only [go_sem, Nat.reduceAdd, Nat.reduceSub, Nat.reduceMul, Nat.reduceLT, Nat.reduceLeDiff, ↓reduceIte, reduceCtorEq, Nat.reduceEqDiff, Int.reduceToNat, Int.reduceLT, Int.reduceLE, Int.reduceEq, beq_self_eq_true, hd]; done)) (by first | (simp only [go_sem, Nat.reduceAdd, Nat.reduceSub, Nat.reduceMul, Nat.reduceLT, Nat.reduceLeDiff, ↓reduceIte, reduceCtorEq, Nat.reduceEqDiff, Int.reduceToNat, Int.reduceLT, Int.reduceLE, Int.reduceEq, beq_self_eq_true, hd]; done) | (simp [pureL, pureD]; done)) ?_
    simp only [go_sem, Nat.reduceAdd, Nat.reduceSub, Nat.reduceMul, Nat.reduceLT, Nat.reduceLeDiff, ↓reduceIte, reduceCtorEq, Nat.reduceEqDiff, Int.reduceToNat, Int.reduceLT, Int.reduceLE, Int.reduceEq, beq_self_eq_true]
    refine condK_split (fun h2 => ?_) (fun h2 => ?_)
    · have hb : hasM cut (l.getD k default) = false := by simpa [hasM] using h2
      rw [hb, if_neg (by simp)] at hks
      simp only [go_sem, Nat.reduceAdd, Nat.reduceSub, Nat.reduceMul, Nat.reduceLT, Nat.reduceLeDiff, ↓reduceIte, reduceCtorEq, Nat.reduceEqDiff, Int.reduceToNat, Int.reduceLT, Int.reduceLE, Int.reduceEq, beq_self_eq_true, hk', get_mk]
      refine appK_live _ _ _ _ _ _ _ _ _ _ hu (by simp) (by simp only [go_sem, Nat.reduceAdd, Nat.reduceSub, Nat.reduceMul, Nat.reduceLT, Nat.reduceLeDiff, ↓reduceIte, reduceCtorEq, Nat.reduceEqDiff, Int.reduceToNat, Int.reduceLT, Int.reduceLE, Int.reduceEq, beq_self_eq_true]) (by simp only [go_sem, Nat.reduceAdd, Nat.reduceSub, Nat.reduceMul, Nat.reduceLT, Nat.reduceLeDiff, ↓reduceIte, reduceCtorEq, Nat.reduceEqDiff, Int.reduceToNat, Int.reduceLT, Int.reduceLE, Int.reduceEq, beq_self_eq_true]; omega) (fun u' tk' hu' => ?_)
      simp only [go_sem, Nat.reduceAdd, Nat.reduceSub, Nat.reduceMul, Nat.reduceLT, Nat.reduceLeDiff, ↓reduceIte, reduceCtorEq, Nat.reduceEqDiff, Int.reduceToNat, Int.reduceLT, Int.reduceLE, Int.reduceEq, beq_self_eq_true, mkD_snoc, wrapNat k (by omega)]
      exact ⟨l.length - (k + 1), by omega, k + 1, o ++ [l.getD k default], u', tk', reg_intro rfl rfl ⟨rfl, by omega, by rw [hks, ho], hu'⟩⟩
    · have hb : hasM cut (l.getD k default) = true := by simpa [hasM] using h2
      rw [hb, if_pos rfl, List.append_nil] at hks
      simp only [go_sem, Nat.reduceAdd, Nat.reduceSub, Nat.reduceMul, Nat.reduceLT, Nat.reduceLeDiff, ↓reduceIte, reduceCtorEq, Nat.reduceEqDiff, Int.reduceToNat, Int.reduceLT, Int.reduceLE, Int.reduceEq, beq_self_eq_true, wrapNat k (by omega)]
      exact ⟨l.length - (k + 1), by omega, k + 1, o, u, tk, reg_intro rfl rfl ⟨rfl, by omega, by rw [hks, ho], hu⟩⟩
  · have hi := of_decide_eq_false hcc
    obtain rfl : k = l.length := by omega
    rw [List.take_length] at ho
    simp only [go_sem, Nat.reduceAdd, Nat.reduceSub, Nat.reduceMul, Nat.reduceLT, Nat.reduceLeDiff, ↓reduceIte, reduceCtorEq, Nat.reduceEqDiff, Int.reduceToNat, Int.reduceLT, Int.reduceLE, Int.reduceEq, beq_self_eq_true, foldM, ← ho, Int.ofNat_lt]
set_option maxRecDepth 8000 in
theorem ref10_with (l : List MarkR) (m : MarkR) (hl : l.length < 1000000000) : PSpec Try.prog CT 76 [marksD l .no, m.d] (· = marksD (withM l m) .no) := by
  refine PSpec.of hT Try.func76 rfl (by kernel_rfl) rfl rfl ?_
  simp only [Try.f76, go_sem, Nat.reduceAdd, Nat.reduceSub, Nat.reduceMul, Nat.reduceLT, Nat.reduceLeDiff, ↓reduceIte, reduceCtorEq, Nat.reduceEqDiff, Int.reduceToNat, Int.reduceLT, Int.reduceLE, Int.reduceEq, beq_self_eq_true]
  refine awp_loop (fun n s => ∃ (k : Nat) (o : List MarkR) (dn : Bool) (u : Tok) (tk : List Bool) (g : Nat → D), s = ⟨[marksD l .no, g 1, g 2, .ptr 0 [], g 4, marksD o u, .lit (.bool dn), .lit (.int .i64 k), g 8, g 9, g 10, g 11, g 12, g 13, g 14, g 15, g 16, g 17, g 18, g 19, g 20, g 21, g 22, g 23, g 24, g 25, g 26, g 27, g 28, g 29, g 30, g 31, g 32, g 33, g 34, g 35, g 36, g 37, g 38, g 39, g 40, g 41, g 42, g 43, g 44, g 45, g 46, g 47, g 48], ⟨[((.pair (.pair .leaf (.pair .leaf .unit)) (.pair .leaf .unit)), m.d)], tk⟩⟩ ∧ n = l.length - k ∧ k ≤ l.length ∧ live u tk ∧ (∀ q, q < k → sameK m (l.getD q default) = false) ∧ (dn = true → (∃ y ∈ l.take k, goesK m y = true) ∧ o = insB (goesK m) m (l.take k)) ∧ (dn = false → (∀ y ∈ l.take k, goesK m y = false) ∧ o = l.take k)) l.length ⟨0, [], false, .full, [], reg_intro rfl rfl ⟨by simp, by omega, trivial, by simp, by simp, by simp⟩⟩ ?_
  rintro n st ⟨k, o, dn, u, tk, g, rfl, hn, hk, ht, hp, hd1, hd2⟩
  have hol : o.length ≤ k + 1 := by
    cases dn with
    | true => rw [(hd1 rfl).2, insB_len, List.length_take]; omega
    | false => rw [(hd2 rfl).2, List.length_take]; omega
  simp only [go_sem, Nat.reduceAdd, Nat.reduceSub, Nat.reduceMul, Nat.reduceLT, Nat.reduceLeDiff, ↓reduceIte, reduceCtorEq, Nat.reduceEqDiff, Int.reduceToNat, Int.reduceLT, Int.reduceLE, Int.reduceEq, beq_self_eq_true]
  refine condK_split (fun hc => ?_) (fun hc => ?_)
  · have hk' : k < l.length := by have := of_decide_eq_true hc; omega
    have hts : l.take (k + 1) = l.take k ++ [l.getD k default] := take_snocG l k hk'
    refine .inl ⟨by kernel_rfl, ?_⟩
    simp only [go_sem, Nat.reduceAdd, Nat.reduceSub, Nat.reduceMul, Nat.reduceLT, Nat.reduceLeDiff, ↓reduceIte, reduceCtorEq, Nat.reduceEqDiff, Int.reduceToNat, Int.reduceLT, Int.reduceLE, Int.reduceEq, beq_self_eq_true, hk', get_mk, eqB_mk]
    refine condK_split (fun h2 => ?_) (fun h2 => ?_)
    · have hany : l.any (sameK m) = true := any_at hk' h2
      simp only [go_sem, Nat.reduceAdd, Nat.reduceSub, Nat.reduceMul, Nat.reduceLT, Nat.reduceLeDiff, ↓reduceIte, reduceCtorEq, Nat.reduceEqDiff, Int.reduceToNat, Int.reduceLT, Int.reduceLE, Int.reduceEq, beq_self_eq_true, withM, hany, if_true]
    have hns : sameK m (l.getD k default) = false := h2
    have hp' := next_bad hp hns
    simp only [go_sem, Nat.reduceAdd, Nat.reduceSub, Nat.reduceMul, Nat.reduceLT, Nat.reduceLeDiff, ↓reduceIte, reduceCtorEq, Nat.reduceEqDiff, Int.reduceToNat, Int.reduceLT, Int.reduceLE, Int.reduceEq, beq_self_eq_true]
    refine .inl ⟨by kernel_rfl, ?_⟩
    cases dn with
    | true =>
      obtain ⟨e1, e2⟩ := hd1 rfl
      simp only [go_sem, Nat.reduceAdd, Nat.reduceSub, Nat.reduceMul, Nat.reduceLT, Nat.reduceLeDiff, ↓reduceIte, reduceCtorEq, Nat.reduceEqDiff, Int.reduceToNat, Int.reduceLT, Int.reduceLE, Int.reduceEq, beq_self_eq_true, hk', get_mk, Bool.not_true]
      refine appK_live _ _ _ _ _ _ _ _ _ _ ht (by simp) (by simp only [go_sem, Nat.reduceAdd, Nat.reduceSub, Nat.reduceMul, Nat.reduceLT, Nat.reduceLeDiff, ↓reduceIte, reduceCtorEq, Nat.reduceEqDiff, Int.reduceToNat, Int.reduceLT, Int.reduceLE, Int.reduceEq, beq_self_eq_true]) (by simp only [go_sem, Nat.reduceAdd, Nat.reduceSub, Nat.reduceMul, Nat.reduceLT, Nat.reduceLeDiff, ↓reduceIte, reduceCtorEq, Nat.reduceEqDiff, Int.reduceToNat, Int.reduceLT, Int.reduceLE, Int.reduceEq, beq_self_eq_true]; omega) (fun u tk' hu => ?_)
      simp only [go_sem, Nat.reduceAdd, Nat.reduceSub, Nat.reduceMul, Nat.reduceLT, Nat.reduceLeDiff, ↓reduceIte, reduceCtorEq, Nat.reduceEqDiff, Int.reduceToNat, Int.reduceLT, Int.reduceLE, Int.reduceEq, beq_self_eq_true, mkD_snoc, wrapNat k (by omega)]
      refine ⟨l.length - (k + 1), by omega, k + 1, o ++ [l.getD k default], true, u, tk', reg_intro rfl rfl ⟨rfl, by omega, hu, hp', fun _ => ⟨?_, ?_⟩, by simp⟩⟩
      · obtain ⟨y, hy, hny⟩ := e1
        exact ⟨y, by rw [hts]; simp [hy], hny⟩
      · rw [hts, insB_snoc_done e1, e2]
    | false =>
      obtain ⟨e1, e2⟩ := hd2 rfl
      simp only [go_sem, Nat.reduceAdd, Nat.reduceSub, Nat.reduceMul, Nat.reduceLT, Nat.reduceLeDiff, ↓reduceIte, reduceCtorEq, Nat.reduceEqDiff, Int.reduceToNat, Int.reduceLT, Int.reduceLE, Int.reduceEq, beq_self_eq_true, hk', get_mk, Bool.not_false]
      refine callD_pure (ref_less m (l.getD k default)) (by first | rfl | (simp only [go_sem, Nat.reduceAdd, Nat.reduceSub, Nat.reduceMul, Nat.reduceLT, Nat.reduceLeDiff, ↓reduceIte, reduceCtorEq, Nat.reduceEqDiff, Int.reduceToNat, Int.reduceLT, Int.reduceLE, Int.reduceEq, beq_self_eq_true]; done)) (by first | (simp only [go_sem, Nat.reduceAdd, Nat.reduceSub, Nat.reduceMul, Nat.reduceLT, Nat.reduceLeDiff, ↓reduceIte, reduceCtorEq, Nat.reduceEqDiff, Int.reduceToNat, Int.reduceLT, Int.reduceLE, Int.reduceEq, beq_self_eq_true]; done) | (simp [pureL, pureD]; done)) ?_
      simp only [go_sem, Nat.reduceAdd, Nat.reduceSub, Nat.reduceMul, Nat.reduceLT, Nat.reduceLeDiff, ↓reduceIte, reduceCtorEq, Nat.reduceEqDiff, Int.reduceToNat, Int.reduceLT, Int.reduceLE, Int.reduceEq, beq_self_eq_true]
      refine condK_split (fun h2 => ?_) (fun h2 => ?_)
      · simp only [go_sem, Nat.reduceAdd, Nat.reduceSub, Nat.reduceMul, Nat.reduceLT, Nat.reduceLeDiff, ↓reduceIte, reduceCtorEq, Nat.reduceEqDiff, Int.reduceToNat, Int.reduceLT, Int.reduceLE, Int.reduceEq, beq_self_eq_true, hk', get_mk]
        refine appK_live _ _ _ _ _ _ _ _ _ _ ht (by simp) (by simp only [go_sem, Nat.reduceAdd, Nat.reduceSub, Nat.reduceMul, Nat.reduceLT, Nat.reduceLeDiff, ↓reduceIte, reduceCtorEq, Nat.reduceEqDiff, Int.reduceToNat, Int.reduceLT, Int.reduceLE, Int.reduceEq, beq_self_eq_true]) (by simp only [go_sem, Nat.reduceAdd, Nat.reduceSub, Nat.reduceMul, Nat.reduceLT, Nat.reduceLeDiff, ↓reduceIte, reduceCtorEq, Nat.reduceEqDiff, Int.reduceToNat, Int.reduceLT, Int.reduceLE, Int.reduceEq, beq_self_eq_true]; omega) (fun u tk' hu => ?_)
        simp only [go_sem, Nat.reduceAdd, Nat.reduceSub, Nat.reduceMul, Nat.reduceLT, Nat.reduceLeDiff, ↓reduceIte, reduceCtorEq, Nat.reduceEqDiff, Int.reduceToNat, Int.reduceLT, Int.reduceLE, Int.reduceEq, beq_self_eq_true, mkD_snoc, hk', get_mk]
        refine appK_live _ _ _ _ _ _ _ _ _ _ hu (by simp) (by simp only [go_sem, Nat.reduceAdd, Nat.reduceSub, Nat.reduceMul, Nat.reduceLT, Nat.reduceLeDiff, ↓reduceIte, reduceCtorEq, Nat.reduceEqDiff, Int.reduceToNat, Int.reduceLT, Int.reduceLE, Int.reduceEq, beq_self_eq_true]) (by simp only [go_sem, Nat.reduceAdd, Nat.reduceSub, Nat.reduceMul, Nat.reduceLT, Nat.reduceLeDiff, ↓reduceIte, reduceCtorEq, Nat.reduceEqDiff, Int.reduceToNat, Int.reduceLT, Int.reduceLE, Int.reduceEq, beq_self_eq_true, List.length_append, List.length_singleton]; omega) (fun u tk' hu => ?_)
        simp only [go_sem, Nat.reduceAdd, Nat.reduceSub, Nat.reduceMul, Nat.reduceLT, Nat.reduceLeDiff, ↓reduceIte, reduceCtorEq, Nat.reduceEqDiff, Int.reduceToNat, Int.reduceLT, Int.reduceLE, Int.reduceEq, beq_self_eq_true, mkD_snoc, wrapNat k (by omega)]
        refine ⟨l.length - (k + 1), by omega, k + 1, o ++ [m] ++ [l.getD k default], true, u, tk', reg_intro rfl rfl ⟨rfl, by omega, hu, hp', fun _ => ⟨⟨l.getD k default, by rw [hts]; simp, h2⟩, ?_⟩, by simp⟩⟩
        rw [hts, insB_snoc_new (y := l.getD k default) e1 h2, e2]
      · simp only [go_sem, Nat.reduceAdd, Nat.reduceSub, Nat.reduceMul, Nat.reduceLT, Nat.reduceLeDiff, ↓reduceIte, reduceCtorEq, Nat.reduceEqDiff, Int.reduceToNat, Int.reduceLT, Int.reduceLE, Int.reduceEq, beq_self_eq_true, hk', get_mk]
        refine appK_live _ _ _ _ _ _ _ _ _ _ ht (by simp) (by simp only [go_sem, Nat.reduceAdd, Nat.reduceSub, Nat.reduceMul, Nat.reduceLT, Nat.reduceLeDiff, ↓reduceIte, reduceCtorEq, Nat.reduceEqDiff, Int.reduceToNat, Int.reduceLT, Int.reduceLE, Int.reduceEq, beq_self_eq_true]) (by simp only [go_sem, Nat.reduceAdd, Nat.reduceSub, Nat.reduceMul, Nat.reduceLT, Nat.reduceLeDiff, ↓reduceIte, reduceCtorEq, Nat.reduceEqDiff, Int.reduceToNat, Int.reduceLT, Int.reduceLE, Int.reduceEq, beq_self_eq_true]; omega) (fun u tk' hu => ?_)
        simp only [go_sem, Nat.reduceAdd, Nat.reduceSub, Nat.reduceMul, Nat.reduceLT, Nat.reduceLeDiff, ↓reduceIte, reduceCtorEq, Nat.reduceEqDiff, Int.reduceToNat, Int.reduceLT, Int.reduceLE, Int.reduceEq, beq_self_eq_true, mkD_snoc, wrapNat k (by omega)]
        refine ⟨l.length - (k + 1), by omega, k + 1, o ++ [l.getD k default], false, u, tk', reg_intro rfl rfl ⟨rfl, by omega, hu, hp', by simp, fun _ => ⟨?_, ?_⟩⟩⟩
        · intro y hy
          rw [hts] at hy
          rcases List.mem_append.1 hy with hy | hy
          · exact e1 y hy
          · rw [List.mem_singleton] at hy; subst hy; exact h2
        · rw [hts, e2]
  · have hi := of_decide_eq_false hc
    obtain rfl : k = l.length := by omega
    have hany := any_no hp
    rw [List.take_length] at hd1 hd2
    cases dn with
    | true =>
      obtain ⟨_, e2⟩ := hd1 rfl
      simp only [go_sem, Nat.reduceAdd, Nat.reduceSub, Nat.reduceMul, Nat.reduceLT, Nat.reduceLeDiff, ↓reduceIte, reduceCtorEq, Nat.reduceEqDiff, Int.reduceToNat, Int.reduceLT, Int.reduceLE, Int.reduceEq, beq_self_eq_true, withM, hany, e2]
      skip
    | false =>
      obtain ⟨e1, e2⟩ := hd2 rfl
      simp only [go_sem, Nat.reduceAdd, Nat.reduceSub, Nat.reduceMul, Nat.reduceLT, Nat.reduceLeDiff, ↓reduceIte, reduceCtorEq, Nat.reduceEqDiff, Int.reduceToNat, Int.reduceLT, Int.reduceLE, Int.reduceEq, beq_self_eq_true, Bool.not_false]
      refine appK_live _ _ _ _ _ _ _ _ _ _ ht (by simp) (by simp only [go_sem, Nat.reduceAdd, Nat.reduceSub, Nat.reduceMul, Nat.reduceLT, Nat.reduceLeDiff, ↓reduceIte, reduceCtorEq, Nat.reduceEqDiff, Int.reduceToNat, Int.reduceLT, Int.reduceLE, Int.reduceEq, beq_self_eq_true]) (by simp only [go_sem, Nat.reduceAdd, Nat.reduceSub, Nat.reduceMul, Nat.reduceLT, Nat.reduceLeDiff, ↓reduceIte, reduceCtorEq, Nat.reduceEqDiff, Int.reduceToNat, Int.reduceLT, Int.reduceLE, Int.reduceEq, beq_self_eq_true]; omega) (fun u tk' hu => ?_)
      simp only [go_sem, Nat.reduceAdd, Nat.reduceSub, Nat.reduceMul, Nat.reduceLT, Nat.reduceLeDiff, ↓reduceIte, reduceCtorEq, Nat.reduceEqDiff, Int.reduceToNat, Int.reduceLT, Int.reduceLE, Int.reduceEq, beq_self_eq_true, mkD_snoc, withM, hany, insB_all e1, e2]
      skip
end Go.Ab
set_option linter.unusedSimpArgs false
namespace Go.Ab
open Go.Proofs

theorem fm_snoc {α β : Type} [Inhabited α] (f : α → Option β) (l : List α) {k : Nat} (hk : k < l.length) : (l.take (k + 1)).filterMap f = (l.take k).filterMap f ++ (match f (l.getD k default) with | some y => [y] | none => []) := by
  rw [take_snocG l k hk, List.filterMap_append]
  cases h : f (l.getD k default) <;> simp [List.filterMap_cons, List.getD_eq_getElem?_getD] at h ⊢ <;> simp [h]
theorem fm_len {α β : Type} (f : α → Option β) (l : List α) : (l.filterMap f).length ≤ l.length := List.length_filterMap_le _ _
set_option maxRecDepth 8000 in
set_option maxHeartbeats 2000000 in
theorem ref10_without (c : CellR) (t : TxR) (i : Int) (sx : ByteArray) (all : Bool) (hd : t.deps.length = 13) (hw : c.me.length < 100000000) (hm : ∀ m ∈ c.me, m.marks.length < 100000000) :
    PSpec Try.prog CT 77 [cellD c, txD t, .lit (.int .i64 i), .lit (.string sx), .bool all] (· = cellD (woS c t i sx all)) := by
  refine PSpec.of hT Try.func77 rfl (by kernel_rfl) rfl rfl ?_
  simp only [Try.f77, go_sem, Nat.reduceAdd, Nat.reduceSub, Nat.reduceMul, Nat.reduceLT, Nat.reduceLeDiff, ↓reduceIte, reduceCtorEq, Nat.reduceEqDiff, Int.reduceToNat, Int.reduceLT, Int.reduceLE, Int.reduceEq, beq_self_eq_true, hd]
  refine awp_loop (fun n s => ∃ (k : Nat) (o : List MemberR) (u : Tok) (tk : List Bool) (ex : List (Sh × D)) (g : Nat → D), s = ⟨[g 0, g 1, .lit (.int .i64 i), .lit (.string sx), .bool all, .ptr 0 [], .ptr 1 [], g 7, g 8, g 9, .ptr 2 [], .lst 55 (o.map meD) u, .lit (.int .i64 k), g 13, g 14, g 15, g 16, g 17, g 18, g 19, g 20, g 21, g 22, g 23, g 24, g 25, g 26, g 27, g 28, g 29, g 30, g 31, g 32, g 33, g 34, g 35, g 36, g 37, g 38, g 39, g 40, g 41, g 42, g 43, g 44, g 45, g 46, g 47, g 48, g 49, g 50], ⟨[(cellSh, cellD c), (txSh, txD t), (cellSh, CT.zero 49)] ++ ex, tk⟩⟩ ∧ n = c.me.length - k ∧ k ≤ c.me.length ∧ live u tk ∧ o = (c.me.take k).filterMap (woMe t i sx all)) c.me.length ⟨0, [], .full, [], [], reg_intro rfl rfl ⟨by simp, by omega, trivial, by simp⟩⟩ ?_
  rintro n st ⟨k, o, u, tk, ex, g, rfl, hn, hk, hu, ho⟩
  simp only [go_sem, Nat.reduceAdd, Nat.reduceSub, Nat.reduceMul, Nat.reduceLT, Nat.reduceLeDiff, ↓reduceIte, reduceCtorEq, Nat.reduceEqDiff, Int.reduceToNat, Int.reduceLT, Int.reduceLE, Int.reduceEq, beq_self_eq_true, hd]
  refine condK_split (fun hc => ?_) (fun hc => ?_)
  · have hk' : k < c.me.length := by have := of_decide_eq_true hc; omega
    have hmk : (meAt c k).marks.length < 100000000 := hm_ok hm hk'
    have hfs := fm_snoc (woMe t i sx all) c.me hk'
    have hfl := fm_len (woMe t i sx all) (c.me.take k)
    rw [List.length_take, ← ho] at hfl
    rw [← ho, show c.me.getD k default = meAt c k from rfl] at hfs
    simp only [go_sem, Nat.reduceAdd, Nat.reduceSub, Nat.reduceMul, Nat.reduceLT, Nat.reduceLeDiff, ↓reduceIte, reduceCtorEq, Nat.reduceEqDiff, Int.reduceToNat, Int.reduceLT, Int.reduceLE, Int.reduceEq, beq_self_eq_true, hk', get_me, hd]
    cases all with
    | true =>
      simp only [go_sem, Nat.reduceAdd, Nat.reduceSub, Nat.reduceMul, Nat.reduceLT, Nat.reduceLeDiff, ↓reduceIte, reduceCtorEq, Nat.reduceEqDiff, Int.reduceToNat, Int.reduceLT, Int.reduceLE, Int.reduceEq, beq_self_eq_true, hk', get_me, hd]
      have hwo : woMe t i sx true (meAt c k) = if leftM (meAt c k).marks t i = [] then none else some { (meAt c k) with base := false, marks := leftM (meAt c k).marks t i } := by rw [woMe, if_pos (.inl rfl)]
      refine callK_pure (ref10_left (meAt c k).marks t i hd (by omega)) (by first | rfl | (simp only [go_sem, Nat.reduceAdd, Nat.reduceSub, Nat.reduceMul, Nat.reduceLT, Nat.reduceLeDiff, ↓reduceIte, reduceCtorEq, Nat.reduceEqDiff, Int.reduceToNat, Int.reduceLT, Int.reduceLE, Int.reduceEq, beq_self_eq_true, hd]; done)) (by first | (simp only [go_sem, Nat.reduceAdd, Nat.reduceSub, Nat.reduceMul, Nat.reduceLT, Nat.reduceLeDiff, ↓reduceIte, reduceCtorEq, Nat.reduceEqDiff, Int.reduceToNat, Int.reduceLT, Int.reduceLE, Int.reduceEq, beq_self_eq_true, hd]; done) | (simp [pureL, pureD]; done)) ?_
      simp only [go_sem, Nat.reduceAdd, Nat.reduceSub, Nat.reduceMul, Nat.reduceLT, Nat.reduceLeDiff, ↓reduceIte, reduceCtorEq, Nat.reduceEqDiff, Int.reduceToNat, Int.reduceLT, Int.reduceLE, Int.reduceEq, beq_self_eq_true, hd]
      refine condK_split (fun h3 => ?_) (fun h3 => ?_)
      · have h3' : leftM (meAt c k).marks t i = [] := List.length_eq_zero_iff.1 (by have := of_decide_eq_true h3; omega)
        rw [hwo, if_pos h3', List.append_nil] at hfs
        simp only [go_sem, Nat.reduceAdd, Nat.reduceSub, Nat.reduceMul, Nat.reduceLT, Nat.reduceLeDiff, ↓reduceIte, reduceCtorEq, Nat.reduceEqDiff, Int.reduceToNat, Int.reduceLT, Int.reduceLE, Int.reduceEq, beq_self_eq_true, wrapNat k (by omega)]
        exact ⟨c.me.length - (k + 1), by omega, k + 1, o, u, tk, ex ++ _, reg_intro rfl rfl ⟨rfl, by omega, hu, hfs.symm⟩⟩
      · have h3' : leftM (meAt c k).marks t i ≠ [] := fun e => by have := of_decide_eq_false h3; rw [e] at this; exact this rfl
        rw [hwo, if_neg h3'] at hfs
        simp only [go_sem, Nat.reduceAdd, Nat.reduceSub, Nat.reduceMul, Nat.reduceLT, Nat.reduceLeDiff, ↓reduceIte, reduceCtorEq, Nat.reduceEqDiff, Int.reduceToNat, Int.reduceLT, Int.reduceLE, Int.reduceEq, beq_self_eq_true, hd]
        refine appK_live _ _ _ _ _ _ _ _ _ _ hu (by simp) (by simp only [go_sem, Nat.reduceAdd, Nat.reduceSub, Nat.reduceMul, Nat.reduceLT, Nat.reduceLeDiff, ↓reduceIte, reduceCtorEq, Nat.reduceEqDiff, Int.reduceToNat, Int.reduceLT, Int.reduceLE, Int.reduceEq, beq_self_eq_true]) (by simp only [go_sem, Nat.reduceAdd, Nat.reduceSub, Nat.reduceMul, Nat.reduceLT, Nat.reduceLeDiff, ↓reduceIte, reduceCtorEq, Nat.reduceEqDiff, Int.reduceToNat, Int.reduceLT, Int.reduceLE, Int.reduceEq, beq_self_eq_true]; omega) (fun u' tk' hu' => ?_)
        have ems := me_snoc o { (meAt c k) with base := false, marks := leftM (meAt c k).marks t i }
        simp only [go_sem, Nat.reduceAdd, Nat.reduceSub, Nat.reduceMul, Nat.reduceLT, Nat.reduceLeDiff, ↓reduceIte, reduceCtorEq, Nat.reduceEqDiff, Int.reduceToNat, Int.reduceLT, Int.reduceLE, Int.reduceEq, beq_self_eq_true, ems, wrapNat k (by omega)]
        exact ⟨c.me.length - (k + 1), by omega, k + 1, _, u', tk', ex ++ _, reg_intro rfl rfl ⟨rfl, by omega, hu', hfs.symm⟩⟩
    | false =>
      simp only [go_sem, Nat.reduceAdd, Nat.reduceSub, Nat.reduceMul, Nat.reduceLT, Nat.reduceLeDiff, ↓reduceIte, reduceCtorEq, Nat.reduceEqDiff, Int.reduceToNat, Int.reduceLT, Int.reduceLE, Int.reduceEq, beq_self_eq_true, hk', get_me, hd]
      refine condK_split (fun h2 => ?_) (fun h2 => ?_)
      · have h2' : (meAt c k).text = sx := by simpa using h2
        simp only [go_sem, Nat.reduceAdd, Nat.reduceSub, Nat.reduceMul, Nat.reduceLT, Nat.reduceLeDiff, ↓reduceIte, reduceCtorEq, Nat.reduceEqDiff, Int.reduceToNat, Int.reduceLT, Int.reduceLE, Int.reduceEq, beq_self_eq_true, hk', get_me, hd]
        have hwo : woMe t i sx false (meAt c k) = if leftM (meAt c k).marks t i = [] then none else some { (meAt c k) with base := false, marks := leftM (meAt c k).marks t i } := by rw [woMe, if_pos (.inr h2')]
        refine callK_pure (ref10_left (meAt c k).marks t i hd (by omega)) (by first | rfl | (simp only [go_sem, Nat.reduceAdd, Nat.reduceSub, Nat.reduceMul, Nat.reduceLT, Nat.reduceLeDiff, ↓reduceIte, reduceCtorEq, Nat.reduceEqDiff, Int.reduceToNat, Int.reduceLT, Int.reduceLE, Int.reduceEq, beq_self_eq_true, hd]; done)) (by first | (simp only [go_sem, Nat.reduceAdd, Nat.reduceSub, Nat.reduceMul, Nat.reduceLT, Nat.reduceLeDiff, ↓reduceIte, reduceCtorEq, Nat.reduceEqDiff, Int.reduceToNat, Int.reduceLT, Int.reduceLE, Int.reduceEq, beq_self_eq_true, hd]; done) | (simp [pureL, pureD]; done)) ?_
        simp only [go_sem, Nat.reduceAdd, Nat.reduceSub, Nat.reduceMul, Nat.reduceLT, Nat.reduceLeDiff, ↓reduceIte, reduceCtorEq, Nat.reduceEqDiff, Int.reduceToNat, Int.reduceLT, Int.reduceLE, Int.reduceEq, beq_self_eq_true, hd]
        refine condK_split (fun h3 => ?_) (fun h3 => ?_)
        · have h3' : leftM (meAt c k).marks t i = [] := List.length_eq_zero_iff.1 (by have := of_decide_eq_true h3; omega)
          rw [hwo, if_pos h3', List.append_nil] at hfs
          simp only [go_sem, Nat.reduceAdd, Nat.reduceSub, Nat.reduceMul, Nat.reduceLT, Nat.reduceLeDiff, ↓reduceIte, reduceCtorEq, Nat.reduceEqDiff, Int.reduceToNat, Int.reduceLT, Int.reduceLE, Int.reduceEq, beq_self_eq_true, wrapNat k (by omega)]
          exact ⟨c.me.length - (k + 1), by omega, k + 1, o, u, tk, ex ++ _, reg_intro rfl rfl ⟨rfl, by omega, hu, hfs.symm⟩⟩
        · have h3' : leftM (meAt c k).marks t i ≠ [] := fun e => by have := of_decide_eq_false h3; rw [e] at this; exact this rfl
          rw [hwo, if_neg h3'] at hfs
          simp only [go_sem, Nat.reduceAdd, Nat.reduceSub, Nat.reduceMul, Nat.reduceLT, Nat.reduceLeDiff, ↓reduceIte, reduceCtorEq, Nat.reduceEqDiff, Int.reduceToNat, Int.reduceLT, Int.reduceLE, Int.reduceEq, beq_self_eq_true, hd]
          refine appK_live _ _ _ _ _ _ _ _ _ _ hu (by simp) (by simp only [go_sem, Nat.reduceAdd, Nat.reduceSub, Nat.reduceMul, Nat.reduceLT, Nat.reduceLeDiff, ↓reduceIte, reduceCtorEq, Nat.reduceEqDiff, Int.reduceToNat, Int.reduceLT, Int.reduceLE, Int.reduceEq, beq_self_eq_true]) (by simp only [go_sem, Nat.reduceAdd, Nat.reduceSub, Nat.reduceMul, Nat.reduceLT, Nat.reduceLeDiff, ↓reduceIte, reduceCtorEq, Nat.reduceEqDiff, Int.reduceToNat, Int.reduceLT, Int.reduceLE, Int.reduceEq, beq_self_eq_true]; omega) (fun u' tk' hu' => ?_)
          have ems := me_snoc o { (meAt c k) with base := false, marks := leftM (meAt c k).marks t i }
          simp only [go_sem, Nat.reduceAdd, Nat.reduceSub, Nat.reduceMul, Nat.reduceLT, Nat.reduceLeDiff, ↓reduceIte, reduceCtorEq, Nat.reduceEqDiff, Int.reduceToNat, Int.reduceLT, Int.reduceLE, Int.reduceEq, beq_self_eq_true, ems, wrapNat k (by omega)]
          exact ⟨c.me.length - (k + 1), by omega, k + 1, _, u', tk', ex ++ _, reg_intro rfl rfl ⟨rfl, by omega, hu', hfs.symm⟩⟩
      · have h2' : ¬ (meAt c k).text = sx := by simpa using h2
        have hwo : woMe t i sx false (meAt c k) = some (meAt c k) := by rw [woMe, if_neg (by rintro (h | h); cases h; exact h2' h)]
        rw [hwo] at hfs
        simp only [go_sem, Nat.reduceAdd, Nat.reduceSub, Nat.reduceMul, Nat.reduceLT, Nat.reduceLeDiff, ↓reduceIte, reduceCtorEq, Nat.reduceEqDiff, Int.reduceToNat, Int.reduceLT, Int.reduceLE, Int.reduceEq, beq_self_eq_true, hk', get_me, hd]
        refine appK_live _ _ _ _ _ _ _ _ _ _ hu (by simp) (by simp only [go_sem, Nat.reduceAdd, Nat.reduceSub, Nat.reduceMul, Nat.reduceLT, Nat.reduceLeDiff, ↓reduceIte, reduceCtorEq, Nat.reduceEqDiff, Int.reduceToNat, Int.reduceLT, Int.reduceLE, Int.reduceEq, beq_self_eq_true]) (by simp only [go_sem, Nat.reduceAdd, Nat.reduceSub, Nat.reduceMul, Nat.reduceLT, Nat.reduceLeDiff, ↓reduceIte, reduceCtorEq, Nat.reduceEqDiff, Int.reduceToNat, Int.reduceLT, Int.reduceLE, Int.reduceEq, beq_self_eq_true]; omega) (fun u' tk' hu' => ?_)
        have ems := me_snoc o (meAt c k)
        simp only [go_sem, Nat.reduceAdd, Nat.reduceSub, Nat.reduceMul, Nat.reduceLT, Nat.reduceLeDiff, ↓reduceIte, reduceCtorEq, Nat.reduceEqDiff, Int.reduceToNat, Int.reduceLT, Int.reduceLE, Int.reduceEq, beq_self_eq_true, ems, wrapNat k (by omega)]
        exact ⟨c.me.length - (k + 1), by omega, k + 1, _, u', tk', ex ++ _, reg_intro rfl rfl ⟨rfl, by omega, hu', hfs.symm⟩⟩
  · have hi := of_decide_eq_false hc
    obtain rfl : k = c.me.length := by omega
    rw [List.take_length] at ho
    simp only [go_sem, Nat.reduceAdd, Nat.reduceSub, Nat.reduceMul, Nat.reduceLT, Nat.reduceLeDiff, ↓reduceIte, reduceCtorEq, Nat.reduceEqDiff, Int.reduceToNat, Int.reduceLT, Int.reduceLE, Int.reduceEq, beq_self_eq_true, woS, ← ho]
    skip
end Go.Ab
set_option linter.unusedSimpArgs false
namespace Go.Ab
open Go.Proofs

set_option maxRecDepth 8000 in
set_option maxHeartbeats 2000000 in
theorem ref10_del (c : CellR) (t : TxR) (i : Int) (sx : ByteArray) (hd : t.deps.length = 13) (hw : c.me.length < 100000000) (ha : c.am.length < 1000000000) (hwr : c.wr.length < 1000000000) (he : c.el.length < 1000000000) (hm : ∀ m ∈ c.me, m.marks.length < 100000000) :
    PSpec Try.prog CT 43 [cellD c, txD t, .lit (.int .i64 i), .lit (.string sx)] (· = cellD (delS c t i sx)) := by
  refine PSpec.of hT Try.func43 rfl (by kernel_rfl) rfl rfl ?_
  simp only [Try.f43, go_sem, Nat.reduceAdd, Nat.reduceSub, Nat.reduceMul, Nat.reduceLT, Nat.reduceLeDiff, ↓reduceIte, reduceCtorEq, Nat.reduceEqDiff, Int.reduceToNat, Int.reduceLT, Int.reduceLE, Int.reduceEq, beq_self_eq_true, hd]
  refine callK_pure (args' := [cellD c]) (ref10_check c (by omega) ha hwr he (fun m h => by have := hm m h; omega)) (by first | rfl | (simp only [go_sem, Nat.reduceAdd, Nat.reduceSub, Nat.reduceMul, Nat.reduceLT, Nat.reduceLeDiff, ↓reduceIte, reduceCtorEq, Nat.reduceEqDiff, Int.reduceToNat, Int.reduceLT, Int.reduceLE, Int.reduceEq, beq_self_eq_true]; done)) (by first | (simp only [go_sem, Nat.reduceAdd, Nat.reduceSub, Nat.reduceMul, Nat.reduceLT, Nat.reduceLeDiff, ↓reduceIte, reduceCtorEq, Nat.reduceEqDiff, Int.reduceToNat, Int.reduceLT, Int.reduceLE, Int.reduceEq, beq_self_eq_true]; done) | (simp [pureL, pureD]; done)) ?_
  simp only [go_sem, Nat.reduceAdd, Nat.reduceSub, Nat.reduceMul, Nat.reduceLT, Nat.reduceLeDiff, ↓reduceIte, reduceCtorEq, Nat.reduceEqDiff, Int.reduceToNat, Int.reduceLT, Int.reduceLE, Int.reduceEq, beq_self_eq_true]
  have early : (checkS c = false ∨ i < 1 ∨ 64 < (sx.size : Int)) → delS c t i sx = c := fun h => by rw [delS, if_pos h]
  (repeat' (first | ((refine guardK_split (fun hg => ?_) (fun hg => ?_)) <;> (try simp only [go_sem, Nat.reduceAdd, Nat.reduceSub, Nat.reduceMul, Nat.reduceLT, Nat.reduceLeDiff, ↓reduceIte, reduceCtorEq, Nat.reduceEqDiff, Int.reduceToNat, Int.reduceLT, Int.reduceLE, Int.reduceEq, beq_self_eq_true, hg, hd])) | ((refine condK_split (fun hg => ?_) (fun hg => ?_)) <;> (try simp only [go_sem, Nat.reduceAdd, Nat.reduceSub, Nat.reduceMul, Nat.reduceLT, Nat.reduceLeDiff, ↓reduceIte, reduceCtorEq, Nat.reduceEqDiff, Int.reduceToNat, Int.reduceLT, Int.reduceLE, Int.reduceEq, beq_self_eq_true, hg, hd])) | ((refine Or.inl ⟨by kernel_rfl, ?_⟩) <;> (try simp only [go_sem, Nat.reduceAdd, Nat.reduceSub, Nat.reduceMul, Nat.reduceLT, Nat.reduceLeDiff, ↓reduceIte, reduceCtorEq, Nat.reduceEqDiff, Int.reduceToNat, Int.reduceLT, Int.reduceLE, Int.reduceEq, beq_self_eq_true, hd])))) <;> (first | done | (rw [early (by first | (simp_all; done) | (simp_all; omega))]) | skip)
  all_goals
    have hne : ¬ (checkS c = false ∨ i < 1 ∨ 64 < (sx.size : Int)) := by
      have hck : checkS c = true := by simp_all
      simp only [decide_eq_true_eq, decide_eq_false_iff_not] at *
      rintro (h | h | h)
      · rw [hck] at h; cases h
      · omega
      · omega
    refine callK_pure (args' := [cellD c, txD t, .lit (.int .i64 i), .lit (.string sx), .bool false]) (ref10_without c t i sx false hd hw hm) (by first | rfl | (simp only [go_sem, Nat.reduceAdd, Nat.reduceSub, Nat.reduceMul, Nat.reduceLT, Nat.reduceLeDiff, ↓reduceIte, reduceCtorEq, Nat.reduceEqDiff, Int.reduceToNat, Int.reduceLT, Int.reduceLE, Int.reduceEq, beq_self_eq_true, hd]; done)) (by first | (simp only [go_sem, Nat.reduceAdd, Nat.reduceSub, Nat.reduceMul, Nat.reduceLT, Nat.reduceLeDiff, ↓reduceIte, reduceCtorEq, Nat.reduceEqDiff, Int.reduceToNat, Int.reduceLT, Int.reduceLE, Int.reduceEq, beq_self_eq_true, hd]; done) | (simp [pureL, pureD]; done)) ?_
    simp only [go_sem, Nat.reduceAdd, Nat.reduceSub, Nat.reduceMul, Nat.reduceLT, Nat.reduceLeDiff, ↓reduceIte, reduceCtorEq, Nat.reduceEqDiff, Int.reduceToNat, Int.reduceLT, Int.reduceLE, Int.reduceEq, beq_self_eq_true, delS, if_neg hne]
set_option maxRecDepth 8000 in
set_option maxHeartbeats 2000000 in
theorem ref10_clear (c : CellR) (t : TxR) (i : Int) (hd : t.deps.length = 13) (hw : c.me.length < 100000000) (ha : c.am.length < 1000000000) (hwr : c.wr.length < 1000000000) (he : c.el.length < 1000000000) (hm : ∀ m ∈ c.me, m.marks.length < 100000000) :
    PSpec Try.prog CT 45 [cellD c, txD t, .lit (.int .i64 i)] (· = cellD (clearS c t i)) := by
  refine PSpec.of hT Try.func45 rfl (by kernel_rfl) rfl rfl ?_
  simp only [Try.f45, go_sem, Nat.reduceAdd, Nat.reduceSub, Nat.reduceMul, Nat.reduceLT, Nat.reduceLeDiff, ↓reduceIte, reduceCtorEq, Nat.reduceEqDiff, Int.reduceToNat, Int.reduceLT, Int.reduceLE, Int.reduceEq, beq_self_eq_true, hd]
  refine callK_pure (args' := [cellD c]) (ref10_check c (by omega) ha hwr he (fun m h => by have := hm m h; omega)) (by first | rfl | (simp only [go_sem, Nat.reduceAdd, Nat.reduceSub, Nat.reduceMul, Nat.reduceLT, Nat.reduceLeDiff, ↓reduceIte, reduceCtorEq, Nat.reduceEqDiff, Int.reduceToNat, Int.reduceLT, Int.reduceLE, Int.reduceEq, beq_self_eq_true]; done)) (by first | (simp only [go_sem, Nat.reduceAdd, Nat.reduceSub, Nat.reduceMul, Nat.reduceLT, Nat.reduceLeDiff, ↓reduceIte, reduceCtorEq, Nat.reduceEqDiff, Int.reduceToNat, Int.reduceLT, Int.reduceLE, Int.reduceEq, beq_self_eq_true]; done) | (simp [pureL, pureD]; done)) ?_
  simp only [go_sem, Nat.reduceAdd, Nat.reduceSub, Nat.reduceMul, Nat.reduceLT, Nat.reduceLeDiff, ↓reduceIte, reduceCtorEq, Nat.reduceEqDiff, Int.reduceToNat, Int.reduceLT, Int.reduceLE, Int.reduceEq, beq_self_eq_true]
  have early : (checkS c = false ∨ i < 1) → clearS c t i = c := fun h => by rw [clearS, if_pos h]
  (repeat' (first | ((refine guardK_split (fun hg => ?_) (fun hg => ?_)) <;> (try simp only [go_sem, Nat.reduceAdd, Nat.reduceSub, Nat.reduceMul, Nat.reduceLT, Nat.reduceLeDiff, ↓reduceIte, reduceCtorEq, Nat.reduceEqDiff, Int.reduceToNat, Int.reduceLT, Int.reduceLE, Int.reduceEq, beq_self_eq_true, hg, hd])) | ((refine condK_split (fun hg => ?_) (fun hg => ?_)) <;> (try simp only [go_sem, Nat.reduceAdd, Nat.reduceSub, Nat.reduceMul, Nat.reduceLT, Nat.reduceLeDiff, ↓reduceIte, reduceCtorEq, Nat.reduceEqDiff, Int.reduceToNat, Int.reduceLT, Int.reduceLE, Int.reduceEq, beq_self_eq_true, hg, hd])) | ((refine Or.inl ⟨by kernel_rfl, ?_⟩) <;> (try simp only [go_sem, Nat.reduceAdd, Nat.reduceSub, Nat.reduceMul, Nat.reduceLT, Nat.reduceLeDiff, ↓reduceIte, reduceCtorEq, Nat.reduceEqDiff, Int.reduceToNat, Int.reduceLT, Int.reduceLE, Int.reduceEq, beq_self_eq_true, hd])))) <;> (first | done | (rw [early (by first | (simp_all; done) | (simp_all; omega))]) | skip)
  all_goals
    have hne : ¬ (checkS c = false ∨ i < 1) := by
      have hck : checkS c = true := by simp_all
      simp only [decide_eq_true_eq, decide_eq_false_iff_not] at *
      rintro (h | h)
      · rw [hck] at h; cases h
      · omega
    refine callK_pure (args' := [cellD c, txD t, .lit (.int .i64 i), .lit (.string ⟨#[]⟩), .bool true]) (ref10_without c t i ⟨#[]⟩ true hd hw hm) (by first | rfl | (simp only [go_sem, Nat.reduceAdd, Nat.reduceSub, Nat.reduceMul, Nat.reduceLT, Nat.reduceLeDiff, ↓reduceIte, reduceCtorEq, Nat.reduceEqDiff, Int.reduceToNat, Int.reduceLT, Int.reduceLE, Int.reduceEq, beq_self_eq_true, hd]; done)) (by first | (simp only [go_sem, Nat.reduceAdd, Nat.reduceSub, Nat.reduceMul, Nat.reduceLT, Nat.reduceLeDiff, ↓reduceIte, reduceCtorEq, Nat.reduceEqDiff, Int.reduceToNat, Int.reduceLT, Int.reduceLE, Int.reduceEq, beq_self_eq_true, hd]; done) | (simp [pureL, pureD]; done)) ?_
    simp only [go_sem, Nat.reduceAdd, Nat.reduceSub, Nat.reduceMul, Nat.reduceLT, Nat.reduceLeDiff, ↓reduceIte, reduceCtorEq, Nat.reduceEqDiff, Int.reduceToNat, Int.reduceLT, Int.reduceLE, Int.reduceEq, beq_self_eq_true, clearS, if_neg hne]
theorem map_snoc {α β : Type} [Inhabited α] (f : α → β) (l : List α) {k : Nat} (hk : k < l.length) : (l.take (k + 1)).map f = (l.take k).map f ++ [f (l.getD k default)] := by
  rw [take_snocG l k hk, List.map_append]; rfl
set_option maxRecDepth 8000 in
set_option maxHeartbeats 2000000 in
theorem ref10_fold (c : CellR) (cut : List Int) (hd : cut.length = 13) (hw : c.me.length < 100000000) (ha : c.am.length < 1000000000) (hwr : c.wr.length < 1000000000) (he : c.el.length < 1000000000) (hm : ∀ m ∈ c.me, m.marks.length < 100000000) :
    PSpec Try.prog CT 47 [cellD c, ints cut] (· = cellD (foldS c cut)) := by
  refine PSpec.of hT Try.func47 rfl (by kernel_rfl) rfl rfl ?_
  simp only [Try.f47, go_sem, Nat.reduceAdd, Nat.reduceSub, Nat.reduceMul, Nat.reduceLT, Nat.reduceLeDiff, ↓reduceIte, reduceCtorEq, Nat.reduceEqDiff, Int.reduceToNat, Int.reduceLT, Int.reduceLE, Int.reduceEq, beq_self_eq_true, hd]
  refine callK_pure (args' := [cellD c]) (ref10_check c (by omega) ha hwr he (fun m h => by have := hm m h; omega)) (by first | rfl | (simp only [go_sem, Nat.reduceAdd, Nat.reduceSub, Nat.reduceMul, Nat.reduceLT, Nat.reduceLeDiff, ↓reduceIte, reduceCtorEq, Nat.reduceEqDiff, Int.reduceToNat, Int.reduceLT, Int.reduceLE, Int.reduceEq, beq_self_eq_true]; done)) (by first | (simp only [go_sem, Nat.reduceAdd, Nat.reduceSub, Nat.reduceMul, Nat.reduceLT, Nat.reduceLeDiff, ↓reduceIte, reduceCtorEq, Nat.reduceEqDiff, Int.reduceToNat, Int.reduceLT, Int.reduceLE, Int.reduceEq, beq_self_eq_true]; done) | (simp [pureL, pureD]; done)) ?_
  simp only [go_sem, Nat.reduceAdd, Nat.reduceSub, Nat.reduceMul, Nat.reduceLT, Nat.reduceLeDiff, ↓reduceIte, reduceCtorEq, Nat.reduceEqDiff, Int.reduceToNat, Int.reduceLT, Int.reduceLE, Int.reduceEq, beq_self_eq_true]
  refine condK_split (fun h1 => ?_) (fun h1 => ?_)
  · have hc : checkS c = false := by simpa using h1
    simp only [go_sem, Nat.reduceAdd, Nat.reduceSub, Nat.reduceMul, Nat.reduceLT, Nat.reduceLeDiff, ↓reduceIte, reduceCtorEq, Nat.reduceEqDiff, Int.reduceToNat, Int.reduceLT, Int.reduceLE, Int.reduceEq, beq_self_eq_true, foldS, if_pos hc]
  have hck : checkS c = true := by simpa using h1
  simp only [go_sem, Nat.reduceAdd, Nat.reduceSub, Nat.reduceMul, Nat.reduceLT, Nat.reduceLeDiff, ↓reduceIte, reduceCtorEq, Nat.reduceEqDiff, Int.reduceToNat, Int.reduceLT, Int.reduceLE, Int.reduceEq, beq_self_eq_true]
  refine awp_loop (fun n s => ∃ (k : Nat) (o : List MemberR) (u : Tok) (tk : List Bool) (ex : List (Sh × D)) (g : Nat → D), s = ⟨[g 0, g 1, .ptr 0 [], .ptr 1 [], .ptr 2 [], .lst 55 (o.map meD) u, .lit (.int .i64 k), g 7, g 8, g 9, g 10, g 11, g 12, g 13, g 14, g 15, g 16, g 17, g 18, g 19, g 20, g 21, g 22, g 23, g 24, g 25, g 26, g 27, g 28, g 29, g 30, g 31, g 32, g 33, g 34, g 35, g 36, g 37, g 38, g 39, g 40, g 41, g 42, g 43, g 44, g 45, g 46, g 47], ⟨[(cellSh, cellD c), ((.arr 13 .leaf), ints cut), (cellSh, CT.zero 49)] ++ ex, tk⟩⟩ ∧ n = c.me.length - k ∧ k ≤ c.me.length ∧ live u tk ∧ o = (c.me.take k).map (foldMe cut)) c.me.length ⟨0, [], .full, [], [], reg_intro rfl rfl ⟨by simp, by omega, trivial, by simp⟩⟩ ?_
  rintro n st ⟨k, o, u, tk, ex, g, rfl, hn, hk, hu, ho⟩
  simp only [go_sem, Nat.reduceAdd, Nat.reduceSub, Nat.reduceMul, Nat.reduceLT, Nat.reduceLeDiff, ↓reduceIte, reduceCtorEq, Nat.reduceEqDiff, Int.reduceToNat, Int.reduceLT, Int.reduceLE, Int.reduceEq, beq_self_eq_true]
  refine condK_split (fun hc => ?_) (fun hc => ?_)
  · have hk' : k < c.me.length := by have := of_decide_eq_true hc; omega
    have hmk : (meAt c k).marks.length < 100000000 := hm_ok hm hk'
    have hfs := map_snoc (foldMe cut) c.me hk'
    have hol : o.length ≤ k := by rw [ho]; simp; omega
    rw [← ho, show c.me.getD k default = meAt c k from rfl] at hfs
    simp only [go_sem, Nat.reduceAdd, Nat.reduceSub, Nat.reduceMul, Nat.reduceLT, Nat.reduceLeDiff, ↓reduceIte, reduceCtorEq, Nat.reduceEqDiff, Int.reduceToNat, Int.reduceLT, Int.reduceLE, Int.reduceEq, beq_self_eq_true, hk', get_me, hd]
    refine callK_pure (args' := [marksD (meAt c k).marks .no, ints cut]) (ref10_folded (meAt c k).marks cut hd (by omega)) (by first | rfl | (simp only [go_sem, Nat.reduceAdd, Nat.reduceSub, Nat.reduceMul, Nat.reduceLT, Nat.reduceLeDiff, ↓reduceIte, reduceCtorEq, Nat.reduceEqDiff, Int.reduceToNat, Int.reduceLT, Int.reduceLE, Int.reduceEq, beq_self_eq_true, hd]; done)) (by first | (simp only [go_sem, Nat.reduceAdd, Nat.reduceSub, Nat.reduceMul, Nat.reduceLT, Nat.reduceLeDiff, ↓reduceIte, reduceCtorEq, Nat.reduceEqDiff, Int.reduceToNat, Int.reduceLT, Int.reduceLE, Int.reduceEq, beq_self_eq_true, hd]; done) | (simp [pureL, pureD]; done)) ?_
    simp only [go_sem, Nat.reduceAdd, Nat.reduceSub, Nat.reduceMul, Nat.reduceLT, Nat.reduceLeDiff, ↓reduceIte, reduceCtorEq, Nat.reduceEqDiff, Int.reduceToNat, Int.reduceLT, Int.reduceLE, Int.reduceEq, beq_self_eq_true, hd]
    cases hb : (meAt c k).base with
    | true =>
      have hfm : foldMe cut (meAt c k) = ⟨(meAt c k).text, true, foldM (meAt c k).marks cut⟩ := by rw [foldMe, hb]; rfl
      rw [hfm] at hfs
      simp only [go_sem, Nat.reduceAdd, Nat.reduceSub, Nat.reduceMul, Nat.reduceLT, Nat.reduceLeDiff, ↓reduceIte, reduceCtorEq, Nat.reduceEqDiff, Int.reduceToNat, Int.reduceLT, Int.reduceLE, Int.reduceEq, beq_self_eq_true, hd]
      refine appK_live _ _ _ _ _ _ _ _ _ _ hu (by simp) (by simp only [go_sem, Nat.reduceAdd, Nat.reduceSub, Nat.reduceMul, Nat.reduceLT, Nat.reduceLeDiff, ↓reduceIte, reduceCtorEq, Nat.reduceEqDiff, Int.reduceToNat, Int.reduceLT, Int.reduceLE, Int.reduceEq, beq_self_eq_true]) (by simp only [go_sem, Nat.reduceAdd, Nat.reduceSub, Nat.reduceMul, Nat.reduceLT, Nat.reduceLeDiff, ↓reduceIte, reduceCtorEq, Nat.reduceEqDiff, Int.reduceToNat, Int.reduceLT, Int.reduceLE, Int.reduceEq, beq_self_eq_true]; omega) (fun u' tk' hu' => ?_)
      have ems := me_snoc o ⟨(meAt c k).text, true, foldM (meAt c k).marks cut⟩
      simp only [go_sem, Nat.reduceAdd, Nat.reduceSub, Nat.reduceMul, Nat.reduceLT, Nat.reduceLeDiff, ↓reduceIte, reduceCtorEq, Nat.reduceEqDiff, Int.reduceToNat, Int.reduceLT, Int.reduceLE, Int.reduceEq, beq_self_eq_true, ems, wrapNat k (by omega)]
      exact ⟨c.me.length - (k + 1), by omega, k + 1, _, u', tk', ex ++ _, reg_intro rfl rfl ⟨rfl, by omega, hu', hfs.symm⟩⟩
    | false =>
      have hfm : foldMe cut (meAt c k) = ⟨(meAt c k).text, decide ((foldM (meAt c k).marks cut).length < (meAt c k).marks.length), foldM (meAt c k).marks cut⟩ := by rw [foldMe, hb]; rfl
      rw [hfm] at hfs
      simp only [go_sem, Nat.reduceAdd, Nat.reduceSub, Nat.reduceMul, Nat.reduceLT, Nat.reduceLeDiff, ↓reduceIte, reduceCtorEq, Nat.reduceEqDiff, Int.reduceToNat, Int.reduceLT, Int.reduceLE, Int.reduceEq, beq_self_eq_true, hd]
      refine appK_live _ _ _ _ _ _ _ _ _ _ hu (by simp) (by simp only [go_sem, Nat.reduceAdd, Nat.reduceSub, Nat.reduceMul, Nat.reduceLT, Nat.reduceLeDiff, ↓reduceIte, reduceCtorEq, Nat.reduceEqDiff, Int.reduceToNat, Int.reduceLT, Int.reduceLE, Int.reduceEq, beq_self_eq_true]) (by simp only [go_sem, Nat.reduceAdd, Nat.reduceSub, Nat.reduceMul, Nat.reduceLT, Nat.reduceLeDiff, ↓reduceIte, reduceCtorEq, Nat.reduceEqDiff, Int.reduceToNat, Int.reduceLT, Int.reduceLE, Int.reduceEq, beq_self_eq_true]; omega) (fun u' tk' hu' => ?_)
      have ems := me_snoc o ⟨(meAt c k).text, decide ((foldM (meAt c k).marks cut).length < (meAt c k).marks.length), foldM (meAt c k).marks cut⟩
      simp only [go_sem, Nat.reduceAdd, Nat.reduceSub, Nat.reduceMul, Nat.reduceLT, Nat.reduceLeDiff, ↓reduceIte, reduceCtorEq, Nat.reduceEqDiff, Int.reduceToNat, Int.reduceLT, Int.reduceLE, Int.reduceEq, beq_self_eq_true, ems, wrapNat k (by omega)]
      exact ⟨c.me.length - (k + 1), by omega, k + 1, _, u', tk', ex ++ _, reg_intro rfl rfl ⟨rfl, by omega, hu', hfs.symm⟩⟩
  · have hi := of_decide_eq_false hc
    obtain rfl : k = c.me.length := by omega
    rw [List.take_length] at ho
    have e : foldS c cut = { c with me := c.me.map (foldMe cut) } := by rw [foldS, if_neg (by rw [hck]; simp)]
    simp only [go_sem, Nat.reduceAdd, Nat.reduceSub, Nat.reduceMul, Nat.reduceLT, Nat.reduceLeDiff, ↓reduceIte, reduceCtorEq, Nat.reduceEqDiff, Int.reduceToNat, Int.reduceLT, Int.reduceLE, Int.reduceEq, beq_self_eq_true, e, ← ho]
    skip
end Go.Ab
set_option linter.unusedSimpArgs false
namespace Go.Ab
open Go.Proofs

theorem PSpec.deepR {P : Program} {C : Tab} {f : FuncId} {args : List D} {c : D} (h : PSpec P C f args fun r => deep r = c) (hc : pureR c) : PSpec P C f args (· = c) :=
  ⟨h.1, fun ρ w vs hr hv => (h.2 ρ w vs hr hv).mono fun _ _ ⟨v, r, h', ρ', h1, h2, h3, h4, h5⟩ => ⟨v, deep r, h', ρ', h1, h2, h3, vv_deep h4, by rw [h5.2]; exact hc, h5.2⟩⟩
theorem deepL_app (a b : List D) : deepL (a ++ b) = deepL a ++ deepL b := by simp [deepL_map]
theorem deepL_enc {α : Type} {e : α → D} (h : ∀ x, deep (e x) = e x) (l : List α) : deepL (l.map e) = l.map e := by simp [deepL_map, h]
theorem deep_mk (m : MarkR) : deep m.d = m.d := by simp [deep, deepL]
theorem deep_am (a : AmountR) : deep (amD a) = amD a := by simp [amD, deep, deepL]
theorem deep_wr (a : WriteR) : deep (wrD a) = wrD a := by simp [wrD, deep, deepL]
theorem deep_me (a : MemberR) : deep (meD a) = meD a := by simp only [meD, deep, deepL, deepL_enc deep_mk]
theorem deep_el (a : ElemR) : deep (elD a) = elD a := by simp only [elD, deep, deepL, deepL_enc deep_mk, deep_mk]
theorem deep_cell (c : CellR) : deep (cellD c) = cellD c := by simp only [cellD, wrsD, deep, deepL, deepL_enc deep_am, deepL_enc deep_wr, deepL_enc deep_me, deepL_enc deep_el]
theorem deep_cellL (c : CellR) {L : List D} {l : List MemberR} (h : deepL L = l.map meD) : deep (.agg [.lit (.int .i64 c.kind), .lit (.int .i64 c.base), .lst 107 (c.am.map amD) .no, .lst 95 (c.wr.map wrD) .no, .lst 55 L .no, .lst 97 (c.el.map elD) .no]) = cellD { c with me := l } := by
  simp only [cellD, wrsD, deep, deepL, deepL_enc deep_am, deepL_enc deep_wr, deepL_enc deep_el, h]
abbrev newD (sx : ByteArray) (own : MarkR) : D := .agg [.lit (.string sx), .lit (.bool false), .lst 58 [own.d] .full]
theorem deep_new (sx : ByteArray) (own : MarkR) : deep (newD sx own) = meD ⟨sx, false, [own]⟩ := by simp only [newD, meD, marksD, deep, deepL, List.map_cons, List.map_nil]
theorem fold_snoc {α β : Type} [Inhabited α] (f : β → α → β) (z : β) (l : List α) {k : Nat} (hk : k < l.length) : (l.take (k + 1)).foldl f z = f ((l.take k).foldl f z) (l.getD k default) := by
  rw [take_snocG l k hk, List.foldl_append]; rfl
theorem addStep_len (s : ByteArray) (own : MarkR) (o : List MemberR × Bool) (m : MemberR) : (addStep s own o m).1.length ≤ o.1.length + 2 := by
  unfold addStep
  split
  · simp
  · split <;> simp
theorem addFold_len (s : ByteArray) (own : MarkR) : ∀ (l : List MemberR) (o : List MemberR × Bool), (l.foldl (addStep s own) o).1.length ≤ o.1.length + 2 * l.length
  | [], o => by simp
  | m :: r, o => by
    have h1 := addFold_len s own r (addStep s own o m)
    have h2 := addStep_len s own o m
    simp only [List.foldl_cons, List.length_cons]; omega
theorem addMe_len (l : List MemberR) (s : ByteArray) (own : MarkR) : (addMe l s own).length ≤ 2 * l.length + 1 := by
  have h := addFold_len s own l ([], false)
  simp only [List.length_nil, Nat.zero_add] at h
  unfold addMe addEnd
  split
  · omega
  · simp; omega
set_option maxRecDepth 8000 in
set_option maxHeartbeats 2000000 in
theorem ref10_add (c : CellR) (t : TxR) (i : Int) (sx : ByteArray) (hd : t.deps.length = 13) (hw : c.me.length < 100000000) (ha : c.am.length < 1000000000) (hwr : c.wr.length < 1000000000) (he : c.el.length < 1000000000) (hm : ∀ m ∈ c.me, m.marks.length < 100000000) :
    PSpec Try.prog CT 42 [cellD c, txD t, .lit (.int .i64 i), .lit (.string sx)] (· = cellD (addS c t i sx)) := by
  refine PSpec.deepR ?_ (pure_cell _)
  refine PSpec.of hT Try.func42 rfl (by kernel_rfl) rfl rfl ?_
  simp only [Try.f42, go_sem, Nat.reduceAdd, Nat.reduceSub, Nat.reduceMul, Nat.reduceLT, Nat.reduceLeDiff, ↓reduceIte, reduceCtorEq, Nat.reduceEqDiff, Int.reduceToNat, Int.reduceLT, Int.reduceLE, Int.reduceEq, beq_self_eq_true, hd]
  refine callK_pure (args' := [cellD c]) (ref10_check c (by omega) ha hwr he (fun m h => by have := hm m h; omega)) (by first | rfl | (simp only [go_sem, Nat.reduceAdd, Nat.reduceSub, Nat.reduceMul, Nat.reduceLT, Nat.reduceLeDiff, ↓reduceIte, reduceCtorEq, Nat.reduceEqDiff, Int.reduceToNat, Int.reduceLT, Int.reduceLE, Int.reduceEq, beq_self_eq_true]; done)) (by first | (simp only [go_sem, Nat.reduceAdd, Nat.reduceSub, Nat.reduceMul, Nat.reduceLT, Nat.reduceLeDiff, ↓reduceIte, reduceCtorEq, Nat.reduceEqDiff, Int.reduceToNat, Int.reduceLT, Int.reduceLE, Int.reduceEq, beq_self_eq_true]; done) | (simp [pureL, pureD]; done)) ?_
  simp only [go_sem, Nat.reduceAdd, Nat.reduceSub, Nat.reduceMul, Nat.reduceLT, Nat.reduceLeDiff, ↓reduceIte, reduceCtorEq, Nat.reduceEqDiff, Int.reduceToNat, Int.reduceLT, Int.reduceLE, Int.reduceEq, beq_self_eq_true]
  have early : (checkS c = false ∨ i < 1 ∨ 64 < (sx.size : Int)) → addS c t i sx = c := fun h => by rw [addS, if_pos h]
  (repeat' (first | ((refine guardK_split (fun hg => ?_) (fun hg => ?_)) <;> (try simp only [go_sem, Nat.reduceAdd, Nat.reduceSub, Nat.reduceMul, Nat.reduceLT, Nat.reduceLeDiff, ↓reduceIte, reduceCtorEq, Nat.reduceEqDiff, Int.reduceToNat, Int.reduceLT, Int.reduceLE, Int.reduceEq, beq_self_eq_true, hg, hd])) | ((refine condK_split (fun hg => ?_) (fun hg => ?_)) <;> (try simp only [go_sem, Nat.reduceAdd, Nat.reduceSub, Nat.reduceMul, Nat.reduceLT, Nat.reduceLeDiff, ↓reduceIte, reduceCtorEq, Nat.reduceEqDiff, Int.reduceToNat, Int.reduceLT, Int.reduceLE, Int.reduceEq, beq_self_eq_true, hg, hd])) | ((refine Or.inl ⟨by kernel_rfl, ?_⟩) <;> (try simp only [go_sem, Nat.reduceAdd, Nat.reduceSub, Nat.reduceMul, Nat.reduceLT, Nat.reduceLeDiff, ↓reduceIte, reduceCtorEq, Nat.reduceEqDiff, Int.reduceToNat, Int.reduceLT, Int.reduceLE, Int.reduceEq, beq_self_eq_true, hd])))) <;> (first | done | (rw [early (by first | (simp_all; done) | (simp_all; omega))]; exact deep_cell c) | skip)
  have hne : ¬ (checkS c = false ∨ i < 1 ∨ 64 < (sx.size : Int)) := by
    have hck : checkS c = true := by simp_all
    simp only [decide_eq_true_eq, decide_eq_false_iff_not] at *
    rintro (h | h | h)
    · rw [hck] at h; cases h
    · omega
    · omega
  have e : addS c t i sx = { c with me := addMe c.me sx ⟨t.peer, t.seq, i⟩ } := by rw [addS, if_neg hne]
  rw [e]
  generalize hown : (⟨t.peer, t.seq, i⟩ : MarkR) = own
  have hod : D.agg [dotD t.peer t.seq, .lit (.int .i64 i)] = own.d := by rw [← hown]
  refine awp_loop (fun n s => ∃ (k : Nat) (L : List D) (o : List MemberR) (dn : Bool) (u : Tok) (tk : List Bool) (ex : List (Sh × D)) (g : Nat → D), s = ⟨[g 0, g 1, g 2, .lit (.string sx), .ptr 0 [], g 5, g 6, g 7, .ptr 2 [], .ptr 3 [], .lst 55 L u, .bool dn, .lit (.int .i64 k), g 13, g 14, g 15, g 16, g 17, g 18, g 19, g 20, g 21, g 22, g 23, g 24, g 25, g 26, g 27, g 28, g 29, g 30, g 31, g 32, g 33, g 34, g 35, g 36, g 37, g 38, g 39, g 40, g 41, g 42, g 43, g 44, g 45, g 46, g 47, g 48, g 49, g 50, g 51, g 52, g 53, g 54, g 55, g 56, g 57, g 58, g 59, g 60, g 61, g 62, g 63, g 64, g 65, g 66, g 67, g 68, g 69, g 70, g 71, g 72, g 73, g 74, g 75, g 76, g 77, g 78, g 79, g 80, g 81, g 82], ⟨[(cellSh, cellD c), (txSh, txD t), (cellSh, CT.zero 49), ((.pair (.pair .leaf (.pair .leaf .unit)) (.pair .leaf .unit)), own.d)] ++ ex, tk⟩⟩ ∧ n = c.me.length - k ∧ k ≤ c.me.length ∧ live u tk ∧ deepL L = o.map meD ∧ (o, dn) = (c.me.take k).foldl (addStep sx own) ([], false)) c.me.length ⟨0, [], [], false, .full, [], [], by rw [hod]; exact reg_intro rfl rfl ⟨by simp, by omega, trivial, rfl, by simp⟩⟩ ?_
  rintro n st ⟨k, L, o, dn, u, tk, ex, g, rfl, hn, hk, hu, hL, ho⟩
  have hLl : L.length = o.length := by have := congrArg List.length hL; simpa [deepL_map] using this
  simp only [go_sem, Nat.reduceAdd, Nat.reduceSub, Nat.reduceMul, Nat.reduceLT, Nat.reduceLeDiff, ↓reduceIte, reduceCtorEq, Nat.reduceEqDiff, Int.reduceToNat, Int.reduceLT, Int.reduceLE, Int.reduceEq, beq_self_eq_true]
  refine condK_split (fun hc => ?_) (fun hc => ?_)
  · have hk' : k < c.me.length := by have := of_decide_eq_true hc; omega
    have hmk : (meAt c k).marks.length < 100000000 := hm_ok hm hk'
    have hfs := fold_snoc (addStep sx own) ([], false) c.me hk'
    have hol : o.length ≤ 2 * k := by
      have := addFold_len sx own (c.me.take k) ([], false)
      rw [← ho, List.length_take] at this
      simp only [List.length_nil] at this
      omega
    rw [← ho, show c.me.getD k default = meAt c k from rfl] at hfs
    simp only [go_sem, Nat.reduceAdd, Nat.reduceSub, Nat.reduceMul, Nat.reduceLT, Nat.reduceLeDiff, ↓reduceIte, reduceCtorEq, Nat.reduceEqDiff, Int.reduceToNat, Int.reduceLT, Int.reduceLE, Int.reduceEq, beq_self_eq_true, hk', get_me]
    refine condK_split (fun h2 => ?_) (fun h2 => ?_)
    · have h2' : (meAt c k).text = sx := by simpa using h2
      have hst : addStep sx own (o, dn) (meAt c k) = (o ++ [{ (meAt c k) with marks := withM (meAt c k).marks own }], true) := by rw [addStep, if_pos h2']
      rw [hst] at hfs
      simp only [go_sem, Nat.reduceAdd, Nat.reduceSub, Nat.reduceMul, Nat.reduceLT, Nat.reduceLeDiff, ↓reduceIte, reduceCtorEq, Nat.reduceEqDiff, Int.reduceToNat, Int.reduceLT, Int.reduceLE, Int.reduceEq, beq_self_eq_true, hk', get_me]
      refine callK_pure (args' := [marksD (meAt c k).marks .no, own.d]) (ref10_with (meAt c k).marks own (by omega)) (by first | rfl | (simp only [go_sem, Nat.reduceAdd, Nat.reduceSub, Nat.reduceMul, Nat.reduceLT, Nat.reduceLeDiff, ↓reduceIte, reduceCtorEq, Nat.reduceEqDiff, Int.reduceToNat, Int.reduceLT, Int.reduceLE, Int.reduceEq, beq_self_eq_true]; done)) (by first | (simp only [go_sem, Nat.reduceAdd, Nat.reduceSub, Nat.reduceMul, Nat.reduceLT, Nat.reduceLeDiff, ↓reduceIte, reduceCtorEq, Nat.reduceEqDiff, Int.reduceToNat, Int.reduceLT, Int.reduceLE, Int.reduceEq, beq_self_eq_true]; done) | (simp [pureL, pureD]; done)) ?_
      simp only [go_sem, Nat.reduceAdd, Nat.reduceSub, Nat.reduceMul, Nat.reduceLT, Nat.reduceLeDiff, ↓reduceIte, reduceCtorEq, Nat.reduceEqDiff, Int.reduceToNat, Int.reduceLT, Int.reduceLE, Int.reduceEq, beq_self_eq_true, Bool.not_true]
      refine appK_live _ _ _ _ _ _ _ _ _ _ hu (by simp) (by simp only [go_sem, Nat.reduceAdd, Nat.reduceSub, Nat.reduceMul, Nat.reduceLT, Nat.reduceLeDiff, ↓reduceIte, reduceCtorEq, Nat.reduceEqDiff, Int.reduceToNat, Int.reduceLT, Int.reduceLE, Int.reduceEq, beq_self_eq_true]) (by simp only [go_sem, Nat.reduceAdd, Nat.reduceSub, Nat.reduceMul, Nat.reduceLT, Nat.reduceLeDiff, ↓reduceIte, reduceCtorEq, Nat.reduceEqDiff, Int.reduceToNat, Int.reduceLT, Int.reduceLE, Int.reduceEq, beq_self_eq_true]; omega) (fun u' tk' hu' => ?_)
      have ems := deep_me { (meAt c k) with marks := withM (meAt c k).marks own }
      simp only [go_sem, Nat.reduceAdd, Nat.reduceSub, Nat.reduceMul, Nat.reduceLT, Nat.reduceLeDiff, ↓reduceIte, reduceCtorEq, Nat.reduceEqDiff, Int.reduceToNat, Int.reduceLT, Int.reduceLE, Int.reduceEq, beq_self_eq_true, wrapNat k (by omega)]
      exact ⟨c.me.length - (k + 1), by omega, k + 1, _, _, true, u', tk', ex ++ _, reg_intro rfl rfl ⟨rfl, by omega, hu', by rw [deepL_app, hL, ← me_snoc]; simp only [deepL]; rw [ems], hfs.symm⟩⟩
    · have h2' : ¬ (meAt c k).text = sx := by simpa using h2
      simp only [go_sem, Nat.reduceAdd, Nat.reduceSub, Nat.reduceMul, Nat.reduceLT, Nat.reduceLeDiff, ↓reduceIte, reduceCtorEq, Nat.reduceEqDiff, Int.reduceToNat, Int.reduceLT, Int.reduceLE, Int.reduceEq, beq_self_eq_true, hk', get_me]
      cases dn with
      | true =>
        have hst : addStep sx own (o, true) (meAt c k) = (o ++ [meAt c k], true) := by rw [addStep, if_neg h2', if_neg (by rintro ⟨h, _⟩; cases h)]
        rw [hst] at hfs
        simp only [go_sem, Nat.reduceAdd, Nat.reduceSub, Nat.reduceMul, Nat.reduceLT, Nat.reduceLeDiff, ↓reduceIte, reduceCtorEq, Nat.reduceEqDiff, Int.reduceToNat, Int.reduceLT, Int.reduceLE, Int.reduceEq, beq_self_eq_true, Bool.not_true]
        refine appK_live _ _ _ _ _ _ _ _ _ _ hu (by simp) (by simp only [go_sem, Nat.reduceAdd, Nat.reduceSub, Nat.reduceMul, Nat.reduceLT, Nat.reduceLeDiff, ↓reduceIte, reduceCtorEq, Nat.reduceEqDiff, Int.reduceToNat, Int.reduceLT, Int.reduceLE, Int.reduceEq, beq_self_eq_true]) (by simp only [go_sem, Nat.reduceAdd, Nat.reduceSub, Nat.reduceMul, Nat.reduceLT, Nat.reduceLeDiff, ↓reduceIte, reduceCtorEq, Nat.reduceEqDiff, Int.reduceToNat, Int.reduceLT, Int.reduceLE, Int.reduceEq, beq_self_eq_true]; omega) (fun u' tk' hu' => ?_)
        simp only [go_sem, Nat.reduceAdd, Nat.reduceSub, Nat.reduceMul, Nat.reduceLT, Nat.reduceLeDiff, ↓reduceIte, reduceCtorEq, Nat.reduceEqDiff, Int.reduceToNat, Int.reduceLT, Int.reduceLE, Int.reduceEq, beq_self_eq_true, wrapNat k (by omega)]
        exact ⟨c.me.length - (k + 1), by omega, k + 1, _, _, true, u', tk', ex ++ _, reg_intro rfl rfl ⟨rfl, by omega, hu', by rw [deepL_app, hL, ← me_snoc]; simp only [deepL]; rw [deep_me], hfs.symm⟩⟩
      | false =>
        simp only [go_sem, Nat.reduceAdd, Nat.reduceSub, Nat.reduceMul, Nat.reduceLT, Nat.reduceLeDiff, ↓reduceIte, reduceCtorEq, Nat.reduceEqDiff, Int.reduceToNat, Int.reduceLT, Int.reduceLE, Int.reduceEq, beq_self_eq_true, Bool.not_false]
        refine condK_split (fun h3 => ?_) (fun h3 => ?_)
        · have hst : addStep sx own (o, false) (meAt c k) = (o ++ [⟨sx, false, [own]⟩] ++ [meAt c k], true) := by rw [addStep, if_neg h2', if_pos ⟨rfl, h3⟩]
          rw [hst] at hfs
          simp only [go_sem, Nat.reduceAdd, Nat.reduceSub, Nat.reduceMul, Nat.reduceLT, Nat.reduceLeDiff, ↓reduceIte, reduceCtorEq, Nat.reduceEqDiff, Int.reduceToNat, Int.reduceLT, Int.reduceLE, Int.reduceEq, beq_self_eq_true]
          refine appK_live _ _ _ _ _ _ _ _ _ _ hu (by simp) (by simp only [go_sem, Nat.reduceAdd, Nat.reduceSub, Nat.reduceMul, Nat.reduceLT, Nat.reduceLeDiff, ↓reduceIte, reduceCtorEq, Nat.reduceEqDiff, Int.reduceToNat, Int.reduceLT, Int.reduceLE, Int.reduceEq, beq_self_eq_true]) (by simp only [go_sem, Nat.reduceAdd, Nat.reduceSub, Nat.reduceMul, Nat.reduceLT, Nat.reduceLeDiff, ↓reduceIte, reduceCtorEq, Nat.reduceEqDiff, Int.reduceToNat, Int.reduceLT, Int.reduceLE, Int.reduceEq, beq_self_eq_true]; omega) (fun u' tk' hu' => ?_)
          simp only [go_sem, Nat.reduceAdd, Nat.reduceSub, Nat.reduceMul, Nat.reduceLT, Nat.reduceLeDiff, ↓reduceIte, reduceCtorEq, Nat.reduceEqDiff, Int.reduceToNat, Int.reduceLT, Int.reduceLE, Int.reduceEq, beq_self_eq_true]
          refine appK_live _ _ _ _ _ _ _ _ _ _ hu' (by simp) (by simp only [go_sem, Nat.reduceAdd, Nat.reduceSub, Nat.reduceMul, Nat.reduceLT, Nat.reduceLeDiff, ↓reduceIte, reduceCtorEq, Nat.reduceEqDiff, Int.reduceToNat, Int.reduceLT, Int.reduceLE, Int.reduceEq, beq_self_eq_true]) (by simp only [go_sem, Nat.reduceAdd, Nat.reduceSub, Nat.reduceMul, Nat.reduceLT, Nat.reduceLeDiff, ↓reduceIte, reduceCtorEq, Nat.reduceEqDiff, Int.reduceToNat, Int.reduceLT, Int.reduceLE, Int.reduceEq, beq_self_eq_true, List.length_append, List.length_singleton]; omega) (fun u' tk' hu' => ?_)
          simp only [go_sem, Nat.reduceAdd, Nat.reduceSub, Nat.reduceMul, Nat.reduceLT, Nat.reduceLeDiff, ↓reduceIte, reduceCtorEq, Nat.reduceEqDiff, Int.reduceToNat, Int.reduceLT, Int.reduceLE, Int.reduceEq, beq_self_eq_true, wrapNat k (by omega)]
          exact ⟨c.me.length - (k + 1), by omega, k + 1, _, _, true, u', tk', ex ++ _, reg_intro rfl rfl ⟨rfl, by omega, hu', by rw [deepL_app, deepL_app, hL, ← me_snoc, ← me_snoc]; simp only [deepL]; rw [deep_me, deep_new], hfs.symm⟩⟩
        · have hst : addStep sx own (o, false) (meAt c k) = (o ++ [meAt c k], false) := by rw [addStep, if_neg h2', if_neg (by rintro ⟨_, h⟩; rw [bLt] at h; rw [h] at h3; cases h3)]
          rw [hst] at hfs
          simp only [go_sem, Nat.reduceAdd, Nat.reduceSub, Nat.reduceMul, Nat.reduceLT, Nat.reduceLeDiff, ↓reduceIte, reduceCtorEq, Nat.reduceEqDiff, Int.reduceToNat, Int.reduceLT, Int.reduceLE, Int.reduceEq, beq_self_eq_true]
          refine appK_live _ _ _ _ _ _ _ _ _ _ hu (by simp) (by simp only [go_sem, Nat.reduceAdd, Nat.reduceSub, Nat.reduceMul, Nat.reduceLT, Nat.reduceLeDiff, ↓reduceIte, reduceCtorEq, Nat.reduceEqDiff, Int.reduceToNat, Int.reduceLT, Int.reduceLE, Int.reduceEq, beq_self_eq_true]) (by simp only [go_sem, Nat.reduceAdd, Nat.reduceSub, Nat.reduceMul, Nat.reduceLT, Nat.reduceLeDiff, ↓reduceIte, reduceCtorEq, Nat.reduceEqDiff, Int.reduceToNat, Int.reduceLT, Int.reduceLE, Int.reduceEq, beq_self_eq_true]; omega) (fun u' tk' hu' => ?_)
          simp only [go_sem, Nat.reduceAdd, Nat.reduceSub, Nat.reduceMul, Nat.reduceLT, Nat.reduceLeDiff, ↓reduceIte, reduceCtorEq, Nat.reduceEqDiff, Int.reduceToNat, Int.reduceLT, Int.reduceLE, Int.reduceEq, beq_self_eq_true, wrapNat k (by omega)]
          exact ⟨c.me.length - (k + 1), by omega, k + 1, _, _, false, u', tk', ex ++ _, reg_intro rfl rfl ⟨rfl, by omega, hu', by rw [deepL_app, hL, ← me_snoc]; simp only [deepL]; rw [deep_me], hfs.symm⟩⟩
  · have hi := of_decide_eq_false hc
    obtain rfl : k = c.me.length := by omega
    rw [List.take_length] at ho
    have hol := addFold_len sx own c.me ([], false)
    rw [← ho] at hol
    simp only [List.length_nil] at hol
    cases dn with
    | true =>
      have ha : addMe c.me sx own = o := by rw [addMe, ← ho]; rfl
      simp only [go_sem, Nat.reduceAdd, Nat.reduceSub, Nat.reduceMul, Nat.reduceLT, Nat.reduceLeDiff, ↓reduceIte, reduceCtorEq, Nat.reduceEqDiff, Int.reduceToNat, Int.reduceLT, Int.reduceLE, Int.reduceEq, beq_self_eq_true, ha, Bool.not_true, deep_cellL c hL]
      skip
    | false =>
      have ha : addMe c.me sx own = o ++ [⟨sx, false, [own]⟩] := by rw [addMe, ← ho]; rfl
      simp only [go_sem, Nat.reduceAdd, Nat.reduceSub, Nat.reduceMul, Nat.reduceLT, Nat.reduceLeDiff, ↓reduceIte, reduceCtorEq, Nat.reduceEqDiff, Int.reduceToNat, Int.reduceLT, Int.reduceLE, Int.reduceEq, beq_self_eq_true, Bool.not_false]
      refine appK_live _ _ _ _ _ _ _ _ _ _ hu (by simp) (by simp only [go_sem, Nat.reduceAdd, Nat.reduceSub, Nat.reduceMul, Nat.reduceLT, Nat.reduceLeDiff, ↓reduceIte, reduceCtorEq, Nat.reduceEqDiff, Int.reduceToNat, Int.reduceLT, Int.reduceLE, Int.reduceEq, beq_self_eq_true]) (by simp only [go_sem, Nat.reduceAdd, Nat.reduceSub, Nat.reduceMul, Nat.reduceLT, Nat.reduceLeDiff, ↓reduceIte, reduceCtorEq, Nat.reduceEqDiff, Int.reduceToNat, Int.reduceLT, Int.reduceLE, Int.reduceEq, beq_self_eq_true]; omega) (fun u' tk' hu' => ?_)
      have hL' : deepL (L ++ [newD sx own]) = (o ++ [(⟨sx, false, [own]⟩ : MemberR)]).map meD := by rw [deepL_app, hL, ← me_snoc]; simp only [deepL, deep_new]
      simp only [go_sem, Nat.reduceAdd, Nat.reduceSub, Nat.reduceMul, Nat.reduceLT, Nat.reduceLeDiff, ↓reduceIte, reduceCtorEq, Nat.reduceEqDiff, Int.reduceToNat, Int.reduceLT, Int.reduceLE, Int.reduceEq, beq_self_eq_true, ha]
      exact deep_cellL c hL'
end Go.Ab
