/- The law that what all have safely is stable. Conditions: none. -/
import Derived.Test.YtebfpijbnklaiaaAbSe
set_option linter.unusedSimpArgs false
namespace Go.Ab
open Go.Proofs

set_option maxRecDepth 8000 in
theorem law_stable_all (rows : List (List Int)) (self : Int) (own live : List Int) (hr : rows.length = 13) (hr2 : lens 13 rows) (ho : own.length = 13) :
    PSpec Try.prog CT 10 [tab rows, .lit (.int .i64 self), ints own, intsL live .no] (· = .bool true) := by
  refine PSpec.of hT Try.func10 rfl (by kernel_rfl) rfl rfl ?_
  simp only [Try.f10, go_sem, Nat.reduceAdd, Nat.reduceSub, Nat.reduceMul, Nat.reduceLT, Nat.reduceLeDiff, reduceIte, reduceCtorEq, Nat.reduceEqDiff, Int.reduceToNat, Int.reduceLT, Int.reduceLE, Int.reduceEq, hr, hr2, ho]
  refine guardK_split (fun hc => ?_) (fun hc => ?_)
  · simp only [go_sem, Nat.reduceAdd, Nat.reduceSub, Nat.reduceMul, Nat.reduceLT, Nat.reduceLeDiff, reduceIte, reduceCtorEq, Nat.reduceEqDiff, Int.reduceToNat, Int.reduceLT, Int.reduceLE, Int.reduceEq, hr, hr2, ho, hc]
    refine callK_pure (heads20) (by simp only [go_sem, Nat.reduceAdd, Nat.reduceSub, Nat.reduceMul, Nat.reduceLT, Nat.reduceLeDiff, reduceIte, reduceCtorEq, Nat.reduceEqDiff, Int.reduceToNat, Int.reduceLT, Int.reduceLE, Int.reduceEq, hr, hr2, ho]) (by simp only [go_sem, Nat.reduceAdd, Nat.reduceSub, Nat.reduceMul, Nat.reduceLT, Nat.reduceLeDiff, reduceIte, reduceCtorEq, Nat.reduceEqDiff, Int.reduceToNat, Int.reduceLT, Int.reduceLE, Int.reduceEq, hr, hr2, ho]) ?_; simp only [go_sem, Nat.reduceAdd, Nat.reduceSub, Nat.reduceMul, Nat.reduceLT, Nat.reduceLeDiff, reduceIte, reduceCtorEq, Nat.reduceEqDiff, Int.reduceToNat, Int.reduceLT, Int.reduceLE, Int.reduceEq, hr, hr2, ho]
  have hl : live.length < 4000000000 := by have := of_decide_eq_false hc; omega
  simp only [go_sem, Nat.reduceAdd, Nat.reduceSub, Nat.reduceMul, Nat.reduceLT, Nat.reduceLeDiff, reduceIte, reduceCtorEq, Nat.reduceEqDiff, Int.reduceToNat, Int.reduceLT, Int.reduceLE, Int.reduceEq, hr, hr2, ho, hc]
  refine guardK_split (fun hs1 => ?_) (fun hs1 => ?_)
  · simp only [go_sem, Nat.reduceAdd, Nat.reduceSub, Nat.reduceMul, Nat.reduceLT, Nat.reduceLeDiff, reduceIte, reduceCtorEq, Nat.reduceEqDiff, Int.reduceToNat, Int.reduceLT, Int.reduceLE, Int.reduceEq, hr, hr2, ho, hs1]
    refine callK_pure (heads20) (by simp only [go_sem, Nat.reduceAdd, Nat.reduceSub, Nat.reduceMul, Nat.reduceLT, Nat.reduceLeDiff, reduceIte, reduceCtorEq, Nat.reduceEqDiff, Int.reduceToNat, Int.reduceLT, Int.reduceLE, Int.reduceEq, hr, hr2, ho]) (by simp only [go_sem, Nat.reduceAdd, Nat.reduceSub, Nat.reduceMul, Nat.reduceLT, Nat.reduceLeDiff, reduceIte, reduceCtorEq, Nat.reduceEqDiff, Int.reduceToNat, Int.reduceLT, Int.reduceLE, Int.reduceEq, hr, hr2, ho]) ?_; simp only [go_sem, Nat.reduceAdd, Nat.reduceSub, Nat.reduceMul, Nat.reduceLT, Nat.reduceLeDiff, reduceIte, reduceCtorEq, Nat.reduceEqDiff, Int.reduceToNat, Int.reduceLT, Int.reduceLE, Int.reduceEq, hr, hr2, ho]
  simp only [go_sem, Nat.reduceAdd, Nat.reduceSub, Nat.reduceMul, Nat.reduceLT, Nat.reduceLeDiff, reduceIte, reduceCtorEq, Nat.reduceEqDiff, Int.reduceToNat, Int.reduceLT, Int.reduceLE, Int.reduceEq, hr, hr2, ho, hs1]
  refine condK_split (fun hs2 => ?_) (fun hs2 => ?_)
  · simp only [go_sem, Nat.reduceAdd, Nat.reduceSub, Nat.reduceMul, Nat.reduceLT, Nat.reduceLeDiff, reduceIte, reduceCtorEq, Nat.reduceEqDiff, Int.reduceToNat, Int.reduceLT, Int.reduceLE, Int.reduceEq, hr, hr2, ho]
    refine callK_pure (heads20) (by simp only [go_sem, Nat.reduceAdd, Nat.reduceSub, Nat.reduceMul, Nat.reduceLT, Nat.reduceLeDiff, reduceIte, reduceCtorEq, Nat.reduceEqDiff, Int.reduceToNat, Int.reduceLT, Int.reduceLE, Int.reduceEq, hr, hr2, ho]) (by simp only [go_sem, Nat.reduceAdd, Nat.reduceSub, Nat.reduceMul, Nat.reduceLT, Nat.reduceLeDiff, reduceIte, reduceCtorEq, Nat.reduceEqDiff, Int.reduceToNat, Int.reduceLT, Int.reduceLE, Int.reduceEq, hr, hr2, ho]) ?_; simp only [go_sem, Nat.reduceAdd, Nat.reduceSub, Nat.reduceMul, Nat.reduceLT, Nat.reduceLeDiff, reduceIte, reduceCtorEq, Nat.reduceEqDiff, Int.reduceToNat, Int.reduceLT, Int.reduceLE, Int.reduceEq, hr, hr2, ho]
  have hpe : vpeer self = true := by
    have a := of_decide_eq_false hs1; have b := of_decide_eq_false hs2
    simp only [vpeer, Bool.and_eq_true, decide_eq_true_eq]; omega
  simp only [go_sem, Nat.reduceAdd, Nat.reduceSub, Nat.reduceMul, Nat.reduceLT, Nat.reduceLeDiff, reduceIte, reduceCtorEq, Nat.reduceEqDiff, Int.reduceToNat, Int.reduceLT, Int.reduceLE, Int.reduceEq, hr, hr2, ho]
  refine awp_loop (fun n s => ∃ (k : Nat) (rs : List (List Int)) (ex : List (Sh × D)) (g : Nat → D), s = ⟨[tab rows, .lit (.int .i64 self), ints own, intsL live .no, .ptr 0 [], g 5, .ptr 1 [], g 7, g 8, .lit (.int .i64 k), g 10, g 11, g 12, g 13, g 14, g 15, g 16, g 17, g 18, g 19, g 20, g 21, g 22, g 23, g 24, g 25, g 26, g 27, g 28, g 29, g 30, g 31, g 32, g 33, g 34, g 35, g 36, g 37, g 38, g 39, g 40, g 41, g 42, g 43, g 44, g 45, g 46, g 47, g 48, g 49, g 50, g 51, g 52, g 53, g 54, g 55, g 56, g 57, g 58, g 59, g 60, g 61, g 62, g 63, g 64, g 65, g 66, g 67, g 68, g 69, g 70, g 71, g 72, g 73, g 74, g 75, g 76, g 77, g 78, g 79, g 80, g 81, g 82, g 83, g 84], ⟨(.arr 13 (.arr 13 .leaf), tab rs) :: (.arr 13 .leaf, ints own) :: ex, []⟩⟩ ∧ n = live.length - k ∧ k ≤ live.length ∧ rs.length = 13 ∧ lens 13 rs ∧ (∀ p, p < k → rosterAt live p = true) ∧ ∀ p, p < k → vleq own (rs.getD (live.getD p 0).toNat []) = true) live.length ⟨0, rows, [], reg_intro rfl rfl ⟨by simp, by omega, hr, hr2, by simp, by simp⟩⟩ ?_
  rintro n s ⟨k, rs, ex, g, rfl, hn, hk, kr, kr2, hro, hle⟩
  simp only [go_sem, Nat.reduceAdd, Nat.reduceSub, Nat.reduceMul, Nat.reduceLT, Nat.reduceLeDiff, reduceIte, reduceCtorEq, Nat.reduceEqDiff, Int.reduceToNat, Int.reduceLT, Int.reduceLE, Int.reduceEq, kr, kr2, ho]
  refine condK_split (fun hc2 => ?_) (fun hc2 => ?_)
  · have hk' : k < live.length := by have := of_decide_eq_true hc2; omega
    simp only [go_sem, Nat.reduceAdd, Nat.reduceSub, Nat.reduceMul, Nat.reduceLT, Nat.reduceLeDiff, reduceIte, reduceCtorEq, Nat.reduceEqDiff, Int.reduceToNat, Int.reduceLT, Int.reduceLE, Int.reduceEq, kr, kr2, ho, hk']
    refine .inl ⟨by kernel_rfl, guardK_split (fun h4 => ?_) (fun h4 => ?_)⟩
    · simp only [go_sem, Nat.reduceAdd, Nat.reduceSub, Nat.reduceMul, Nat.reduceLT, Nat.reduceLeDiff, reduceIte, reduceCtorEq, Nat.reduceEqDiff, Int.reduceToNat, Int.reduceLT, Int.reduceLE, Int.reduceEq, kr, kr2, ho, hk', h4]
      refine callK_pure (heads20) (by simp only [go_sem, Nat.reduceAdd, Nat.reduceSub, Nat.reduceMul, Nat.reduceLT, Nat.reduceLeDiff, reduceIte, reduceCtorEq, Nat.reduceEqDiff, Int.reduceToNat, Int.reduceLT, Int.reduceLE, Int.reduceEq, kr, kr2, ho]) (by simp only [go_sem, Nat.reduceAdd, Nat.reduceSub, Nat.reduceMul, Nat.reduceLT, Nat.reduceLeDiff, reduceIte, reduceCtorEq, Nat.reduceEqDiff, Int.reduceToNat, Int.reduceLT, Int.reduceLE, Int.reduceEq, kr, kr2, ho]) ?_; simp only [go_sem, Nat.reduceAdd, Nat.reduceSub, Nat.reduceMul, Nat.reduceLT, Nat.reduceLeDiff, reduceIte, reduceCtorEq, Nat.reduceEqDiff, Int.reduceToNat, Int.reduceLT, Int.reduceLE, Int.reduceEq, kr, kr2, ho]
    simp only [go_sem, Nat.reduceAdd, Nat.reduceSub, Nat.reduceMul, Nat.reduceLT, Nat.reduceLeDiff, reduceIte, reduceCtorEq, Nat.reduceEqDiff, Int.reduceToNat, Int.reduceLT, Int.reduceLE, Int.reduceEq, kr, kr2, ho, hk', h4]
    refine guardK_split (fun h5 => ?_) (fun h5 => ?_)
    · simp only [go_sem, Nat.reduceAdd, Nat.reduceSub, Nat.reduceMul, Nat.reduceLT, Nat.reduceLeDiff, reduceIte, reduceCtorEq, Nat.reduceEqDiff, Int.reduceToNat, Int.reduceLT, Int.reduceLE, Int.reduceEq, kr, kr2, ho, hk', h5]
      refine callK_pure (heads20) (by simp only [go_sem, Nat.reduceAdd, Nat.reduceSub, Nat.reduceMul, Nat.reduceLT, Nat.reduceLeDiff, reduceIte, reduceCtorEq, Nat.reduceEqDiff, Int.reduceToNat, Int.reduceLT, Int.reduceLE, Int.reduceEq, kr, kr2, ho]) (by simp only [go_sem, Nat.reduceAdd, Nat.reduceSub, Nat.reduceMul, Nat.reduceLT, Nat.reduceLeDiff, reduceIte, reduceCtorEq, Nat.reduceEqDiff, Int.reduceToNat, Int.reduceLT, Int.reduceLE, Int.reduceEq, kr, kr2, ho]) ?_; simp only [go_sem, Nat.reduceAdd, Nat.reduceSub, Nat.reduceMul, Nat.reduceLT, Nat.reduceLeDiff, reduceIte, reduceCtorEq, Nat.reduceEqDiff, Int.reduceToNat, Int.reduceLT, Int.reduceLE, Int.reduceEq, kr, kr2, ho]
    have a4 := of_decide_eq_false h4
    have a5 := of_decide_eq_false h5
    have q1 : 0 ≤ live.getD k 0 := by omega
    have q2 : (live.getD k 0).toNat < 13 := by omega
    have hg : (rs.getD (live.getD k 0).toNat []).length = 13 := lens_getD kr2 (by omega)
    have hvp : vpeer (live.getD k 0) = true := by simp only [vpeer, Bool.and_eq_true, decide_eq_true_eq]; omega
    have fin : ∀ (h : rosterAt live k = true), (∀ p, p < k + 1 → rosterAt live p = true) ∧ (rs.set (live.getD k 0).toNat (vjoin (rs.getD (live.getD k 0).toNat []) own)).length = 13 ∧ lens 13 (rs.set (live.getD k 0).toNat (vjoin (rs.getD (live.getD k 0).toNat []) own)) ∧
        ∀ p, p < k + 1 → vleq own ((rs.set (live.getD k 0).toNat (vjoin (rs.getD (live.getD k 0).toNat []) own)).getD (live.getD p 0).toNat []) = true := by
      intro h
      have hj := vjoin_len _ _ hg ho
      have hjo : vleq own (vjoin (rs.getD (live.getD k 0).toNat []) own) = true := by
        have := vleq_refl _ hj
        rw [vjoin_leq _ _ _ hg ho hj, Bool.and_eq_true] at this
        exact this.2
      refine ⟨fun p hp => ?_, by simp [kr], ?_, fun p hp => ?_⟩
      · by_cases e : p = k
        · subst e; exact h
        · exact hro p (by omega)
      · rw [lens_set_t 13 rs _ _ (eq_true kr2) (eq_true hj)]; trivial
      · by_cases e : (live.getD p 0).toNat = (live.getD k 0).toNat
        · rw [e, List.getD_eq_getElem?_getD, List.getElem?_set_self (by omega), Option.getD_some]; exact hjo
        · rw [List.getD_eq_getElem?_getD, List.getElem?_set_ne (fun h => e h.symm), ← List.getD_eq_getElem?_getD]
          refine hle p ?_
          by_cases e2 : p = k
          · subst e2; exact absurd rfl e
          · omega
    simp only [go_sem, Nat.reduceAdd, Nat.reduceSub, Nat.reduceMul, Nat.reduceLT, Nat.reduceLeDiff, reduceIte, reduceCtorEq, Nat.reduceEqDiff, Int.reduceToNat, Int.reduceLT, Int.reduceLE, Int.reduceEq, kr, kr2, ho, hk', h5]
    refine guardK_split (fun h6 => ?_) (fun h6 => ?_)
    · have a6 := of_decide_eq_true h6
      have hk1 : k - 1 < live.length := by omega
      simp only [go_sem, Nat.reduceAdd, Nat.reduceSub, Nat.reduceMul, Nat.reduceLT, Nat.reduceLeDiff, reduceIte, reduceCtorEq, Nat.reduceEqDiff, Int.reduceToNat, Int.reduceLT, Int.reduceLE, Int.reduceEq, kr, kr2, ho, hk', h6, hk1, wrapPred k (by omega) (by omega)]
      refine condK_split (fun h7 => ?_) (fun h7 => ?_)
      · simp only [go_sem, Nat.reduceAdd, Nat.reduceSub, Nat.reduceMul, Nat.reduceLT, Nat.reduceLeDiff, reduceIte, reduceCtorEq, Nat.reduceEqDiff, Int.reduceToNat, Int.reduceLT, Int.reduceLE, Int.reduceEq, kr, kr2, ho, hk']
        refine callK_pure (heads20) (by simp only [go_sem, Nat.reduceAdd, Nat.reduceSub, Nat.reduceMul, Nat.reduceLT, Nat.reduceLeDiff, reduceIte, reduceCtorEq, Nat.reduceEqDiff, Int.reduceToNat, Int.reduceLT, Int.reduceLE, Int.reduceEq, kr, kr2, ho]) (by simp only [go_sem, Nat.reduceAdd, Nat.reduceSub, Nat.reduceMul, Nat.reduceLT, Nat.reduceLeDiff, reduceIte, reduceCtorEq, Nat.reduceEqDiff, Int.reduceToNat, Int.reduceLT, Int.reduceLE, Int.reduceEq, kr, kr2, ho]) ?_; simp only [go_sem, Nat.reduceAdd, Nat.reduceSub, Nat.reduceMul, Nat.reduceLT, Nat.reduceLeDiff, reduceIte, reduceCtorEq, Nat.reduceEqDiff, Int.reduceToNat, Int.reduceLT, Int.reduceLE, Int.reduceEq, kr, kr2, ho]
      have a7 := of_decide_eq_false h7
      obtain ⟨f1, f2, f3, f4⟩ := fin (by simp only [rosterAt, hvp, Bool.true_and, Bool.or_eq_true, decide_eq_true_eq]; omega)
      simp only [go_sem, Nat.reduceAdd, Nat.reduceSub, Nat.reduceMul, Nat.reduceLT, Nat.reduceLeDiff, reduceIte, reduceCtorEq, Nat.reduceEqDiff, Int.reduceToNat, Int.reduceLT, Int.reduceLE, Int.reduceEq, kr, kr2, ho, hk', q1, q2, hg]
      refine .inl ⟨by kernel_rfl, ?_⟩
      refine callD_pure (ref_join _ own hg ho) (by simp only [go_sem, Nat.reduceAdd, Nat.reduceSub, Nat.reduceMul, Nat.reduceLT, Nat.reduceLeDiff, reduceIte, reduceCtorEq, Nat.reduceEqDiff, Int.reduceToNat, Int.reduceLT, Int.reduceLE, Int.reduceEq, kr, kr2, ho, hk', q1, q2, hg, vjoin_len _ own hg ho, wrapNat k (by omega)]) (by simp only [go_sem, Nat.reduceAdd, Nat.reduceSub, Nat.reduceMul, Nat.reduceLT, Nat.reduceLeDiff, reduceIte, reduceCtorEq, Nat.reduceEqDiff, Int.reduceToNat, Int.reduceLT, Int.reduceLE, Int.reduceEq, kr, kr2, ho, hk', q1, q2, hg, vjoin_len _ own hg ho, wrapNat k (by omega)]) ?_; simp only [go_sem, Nat.reduceAdd, Nat.reduceSub, Nat.reduceMul, Nat.reduceLT, Nat.reduceLeDiff, reduceIte, reduceCtorEq, Nat.reduceEqDiff, Int.reduceToNat, Int.reduceLT, Int.reduceLE, Int.reduceEq, kr, kr2, ho, hk', q1, q2, hg, vjoin_len _ own hg ho, wrapNat k (by omega)]
      exact ⟨live.length - (k + 1), by omega, k + 1, _, _, reg_intro rfl rfl ⟨rfl, by omega, f2, f3, f1, f4⟩⟩
    · have a6 := of_decide_eq_false h6
      obtain ⟨f1, f2, f3, f4⟩ := fin (by simp only [rosterAt, hvp, Bool.true_and, Bool.or_eq_true, decide_eq_true_eq]; omega)
      simp only [go_sem, Nat.reduceAdd, Nat.reduceSub, Nat.reduceMul, Nat.reduceLT, Nat.reduceLeDiff, reduceIte, reduceCtorEq, Nat.reduceEqDiff, Int.reduceToNat, Int.reduceLT, Int.reduceLE, Int.reduceEq, kr, kr2, ho, hk', h6, q1, q2, hg]
      refine .inl ⟨by kernel_rfl, ?_⟩
      refine callD_pure (ref_join _ own hg ho) (by simp only [go_sem, Nat.reduceAdd, Nat.reduceSub, Nat.reduceMul, Nat.reduceLT, Nat.reduceLeDiff, reduceIte, reduceCtorEq, Nat.reduceEqDiff, Int.reduceToNat, Int.reduceLT, Int.reduceLE, Int.reduceEq, kr, kr2, ho, hk', q1, q2, hg, vjoin_len _ own hg ho, wrapNat k (by omega)]) (by simp only [go_sem, Nat.reduceAdd, Nat.reduceSub, Nat.reduceMul, Nat.reduceLT, Nat.reduceLeDiff, reduceIte, reduceCtorEq, Nat.reduceEqDiff, Int.reduceToNat, Int.reduceLT, Int.reduceLE, Int.reduceEq, kr, kr2, ho, hk', q1, q2, hg, vjoin_len _ own hg ho, wrapNat k (by omega)]) ?_; simp only [go_sem, Nat.reduceAdd, Nat.reduceSub, Nat.reduceMul, Nat.reduceLT, Nat.reduceLeDiff, reduceIte, reduceCtorEq, Nat.reduceEqDiff, Int.reduceToNat, Int.reduceLT, Int.reduceLE, Int.reduceEq, kr, kr2, ho, hk', q1, q2, hg, vjoin_len _ own hg ho, wrapNat k (by omega)]
      exact ⟨live.length - (k + 1), by omega, k + 1, _, _, reg_intro rfl rfl ⟨rfl, by omega, f2, f3, f1, f4⟩⟩
  · have hi := of_decide_eq_false hc2
    obtain rfl : k = live.length := by omega
    simp only [go_sem, Nat.reduceAdd, Nat.reduceSub, Nat.reduceMul, Nat.reduceLT, Nat.reduceLeDiff, reduceIte, reduceCtorEq, Nat.reduceEqDiff, Int.reduceToNat, Int.reduceLT, Int.reduceLE, Int.reduceEq, kr, kr2, ho]
    refine .inl ⟨by kernel_rfl, guardK_split (fun h4 => ?_) (fun h4 => ?_)⟩
    · simp only [go_sem, Nat.reduceAdd, Nat.reduceSub, Nat.reduceMul, Nat.reduceLT, Nat.reduceLeDiff, reduceIte, reduceCtorEq, Nat.reduceEqDiff, Int.reduceToNat, Int.reduceLT, Int.reduceLE, Int.reduceEq, kr, kr2, ho, h4]
      refine callD_pure (heads20) (by simp only [go_sem, Nat.reduceAdd, Nat.reduceSub, Nat.reduceMul, Nat.reduceLT, Nat.reduceLeDiff, reduceIte, reduceCtorEq, Nat.reduceEqDiff, Int.reduceToNat, Int.reduceLT, Int.reduceLE, Int.reduceEq, kr, kr2, ho]) (by simp only [go_sem, Nat.reduceAdd, Nat.reduceSub, Nat.reduceMul, Nat.reduceLT, Nat.reduceLeDiff, reduceIte, reduceCtorEq, Nat.reduceEqDiff, Int.reduceToNat, Int.reduceLT, Int.reduceLE, Int.reduceEq, kr, kr2, ho]) ?_; simp only [go_sem, Nat.reduceAdd, Nat.reduceSub, Nat.reduceMul, Nat.reduceLT, Nat.reduceLeDiff, reduceIte, reduceCtorEq, Nat.reduceEqDiff, Int.reduceToNat, Int.reduceLT, Int.reduceLE, Int.reduceEq, kr, kr2, ho]
    have hne : decide (live = []) = false := by
      rw [decide_eq_false_iff_not]; rintro rfl; simp at h4
    have hok := (rosterOk_iff live).2 hro
    have hb : (rosterOk live && !decide (live = []) && vpeer self) = true := by rw [hok, hne, hpe]; rfl
    have c1 := vcut_len (self := self) (live := live) kr kr2 ho
    have e : vcut rs self own live = own := by
      refine vleq_anti c1 ho ((vcut_iff kr kr2 ho hb c1).1 (vleq_refl _ c1)).1 ((vcut_iff kr kr2 ho hb ho).2 ⟨vleq_refl _ ho, fun p hp _ => ?_⟩)
      obtain ⟨i, hi, rfl⟩ := List.mem_iff_getElem.1 hp
      have := hle i hi
      rwa [List.getD_eq_getElem?_getD (l := live), List.getElem?_eq_getElem hi, Option.getD_some] at this
    simp only [go_sem, Nat.reduceAdd, Nat.reduceSub, Nat.reduceMul, Nat.reduceLT, Nat.reduceLeDiff, reduceIte, reduceCtorEq, Nat.reduceEqDiff, Int.reduceToNat, Int.reduceLT, Int.reduceLE, Int.reduceEq, kr, kr2, ho, h4]
    refine callD_pure (stable_cut rs self own live kr kr2 ho hl) (by simp only [go_sem, Nat.reduceAdd, Nat.reduceSub, Nat.reduceMul, Nat.reduceLT, Nat.reduceLeDiff, reduceIte, reduceCtorEq, Nat.reduceEqDiff, Int.reduceToNat, Int.reduceLT, Int.reduceLE, Int.reduceEq, kr, kr2, ho, h4, c1, e, beq_self_eq_true]) (by simp only [go_sem, Nat.reduceAdd, Nat.reduceSub, Nat.reduceMul, Nat.reduceLT, Nat.reduceLeDiff, reduceIte, reduceCtorEq, Nat.reduceEqDiff, Int.reduceToNat, Int.reduceLT, Int.reduceLE, Int.reduceEq, kr, kr2, ho, h4, c1, e, beq_self_eq_true]) ?_; simp only [go_sem, Nat.reduceAdd, Nat.reduceSub, Nat.reduceMul, Nat.reduceLT, Nat.reduceLeDiff, reduceIte, reduceCtorEq, Nat.reduceEqDiff, Int.reduceToNat, Int.reduceLT, Int.reduceLE, Int.reduceEq, kr, kr2, ho, h4, c1, e, beq_self_eq_true]
    refine callD_pure (heads20) (by simp only [go_sem, Nat.reduceAdd, Nat.reduceSub, Nat.reduceMul, Nat.reduceLT, Nat.reduceLeDiff, reduceIte, reduceCtorEq, Nat.reduceEqDiff, Int.reduceToNat, Int.reduceLT, Int.reduceLE, Int.reduceEq, kr, kr2, ho]) (by simp only [go_sem, Nat.reduceAdd, Nat.reduceSub, Nat.reduceMul, Nat.reduceLT, Nat.reduceLeDiff, reduceIte, reduceCtorEq, Nat.reduceEqDiff, Int.reduceToNat, Int.reduceLT, Int.reduceLE, Int.reduceEq, kr, kr2, ho]) ?_; simp only [go_sem, Nat.reduceAdd, Nat.reduceSub, Nat.reduceMul, Nat.reduceLT, Nat.reduceLeDiff, reduceIte, reduceCtorEq, Nat.reduceEqDiff, Int.reduceToNat, Int.reduceLT, Int.reduceLE, Int.reduceEq, kr, kr2, ho]
end Go.Ab
