/- Messages of the other kinds: the document's checks end. Conditions: none. -/
import Derived.Test.YtjafmlbcjhoflaaGreatOvTa
import Derived.Test.YtjafmlbcjhoflaaGreatOvU
open Nat (reduceAdd reduceSub reduceMul reduceLT reduceLeDiff reduceEqDiff)
open Int (reduceToNat reduceLE reduceEq)
set_option linter.unusedSimpArgs false
namespace Go.Ab
open Go.Proofs

def leqB (a b : List Int) : Bool := (List.range 13).all fun p => decide (a.getD p 0 ≤ b.getD p 0)
theorem leqB_iff (a b : List Int) : leqB a b = true ↔ ∀ p, p < 13 → a.getD p 0 ≤ b.getD p 0 := by
  simp [leqB, List.all_eq_true]
theorem ref_leqB (a b : List Int) (ha : a.length = 13) (hb : b.length = 13) : PSpec Tryz.prog CT 83 [ints a, ints b] (· = .bool (leqB a b)) := by
  refine PSpec.of hT Tryz.func83 rfl (by kernel_rfl) rfl rfl ?_
  simp only [Tryz.f83, go_sem, reduceAdd, reduceSub, reduceMul, reduceLT, reduceLeDiff, ↓reduceIte, reduceCtorEq, reduceEqDiff, reduceToNat, Int.reduceLT, reduceLE, reduceEq, ha, hb]
  refine awp_loop (fun n s => ∃ (k : Nat) (g : Nat → D), s = ⟨[ints a, ints b, .ptr 0 [], .ptr 1 [], g 4, .lit (.int .i64 k), g 6, g 7, g 8, g 9, g 10, g 11, g 12, g 13, g 14, g 15, g 16], ⟨[(.arr 13 .leaf, ints a), (.arr 13 .leaf, ints b)], []⟩⟩ ∧ n = 13 - k ∧ k ≤ 13 ∧ ∀ p, p < k → a.getD p 0 ≤ b.getD p 0) 13 ⟨0, reg_intro rfl rfl ⟨by simp, by omega, fun p h => absurd h (Nat.not_lt_zero _)⟩⟩ ?_
  rintro n s ⟨k, g, rfl, hn, hk, hp⟩
  simp only [go_sem, reduceAdd, reduceSub, reduceMul, reduceLT, reduceLeDiff, ↓reduceIte, reduceCtorEq, reduceEqDiff, reduceToNat, Int.reduceLT, reduceLE, reduceEq, ha, hb]
  refine condK_split (fun hc => ?_) (fun hc => ?_)
  · have hi := of_decide_eq_true hc
    have hk' : k < 13 := by omega
    simp only [go_sem, reduceAdd, reduceSub, reduceMul, reduceLT, reduceLeDiff, ↓reduceIte, reduceCtorEq, reduceEqDiff, reduceToNat, Int.reduceLT, reduceLE, reduceEq, ha, hb, hk', wrapNat k (by omega)]
    refine .inl ⟨by kernel_rfl, condK_split (fun h1 => ?_) (fun h1 => ?_)⟩
    · have h1 := of_decide_eq_true h1
      have : leqB a b = false := by
        rw [← Bool.not_eq_true, leqB_iff]
        intro h; have := h k hk'; omega
      simp only [go_sem, reduceAdd, reduceSub, reduceMul, reduceLT, reduceLeDiff, ↓reduceIte, reduceCtorEq, reduceEqDiff, reduceToNat, Int.reduceLT, reduceLE, reduceEq, ha, hb, this]
    · have h1 := of_decide_eq_false h1
      simp only [go_sem, reduceAdd, reduceSub, reduceMul, reduceLT, reduceLeDiff, ↓reduceIte, reduceCtorEq, reduceEqDiff, reduceToNat, Int.reduceLT, reduceLE, reduceEq, ha, hb, wrapNat k (by omega)]
      refine ⟨13 - (k + 1), by omega, k + 1, reg_intro rfl rfl ⟨rfl, by omega, fun p h => ?_⟩⟩
      by_cases hpk : p = k
      · subst hpk; omega
      · exact hp p (by omega)
  · have hi := of_decide_eq_false hc
    obtain rfl : k = 13 := by omega
    have : leqB a b = true := (leqB_iff a b).2 hp
    simp only [go_sem, reduceAdd, reduceSub, reduceMul, reduceLT, reduceLeDiff, ↓reduceIte, reduceCtorEq, reduceEqDiff, reduceToNat, Int.reduceLT, reduceLE, reduceEq, ha, hb, this]
abbrev xD (k f t : Int) (v r b n w o dd : D) : D := .agg [.lit (.int .i64 k), .lit (.int .i64 f), .lit (.int .i64 t), .agg [.agg [.lit (.int .i64 0), .lit (.int .i64 0)], zVec, .lit (.int .i64 0), .lst 89 [] .full], v, r, b, n, w, o, dd, .agg [zTree .full, zTree .full], intsL [] .full]
set_option maxRecDepth 8000 in
set_option maxHeartbeats 8000000 in
theorem ref26_fields1 (y : GMsg) (hg : GOk y) (hk : y.kind = 1) : PSpec Tryz.prog CT 55 [rawG y] (· = .tup [rawG ⟨1, y.from_, y.to, y.tx, zeros 13, zeros 13, false, 0, 0, 0, [], .nd 0 [], .nd 0 [], []⟩, .bool (checkTx y.tx)]) := by
  obtain ⟨d1, d2, d3, _, _, _, d7, d8⟩ := id hg
  obtain ⟨kind, from_, to, tx, vec, row, flag, num, wn, of_, data, id, ev, peers⟩ := y
  obtain rfl : kind = 1 := hk
  simp only at d1 d2 d3 d7 d8
  refine PSpec.of hT Tryz.func55 rfl (by kernel_rfl) rfl rfl ?_
  simp only [Tryz.f55, go_sem, reduceAdd, reduceSub, reduceMul, reduceLT, reduceLeDiff, ↓reduceIte, reduceCtorEq, reduceEqDiff, reduceToNat, Int.reduceLT, reduceLE, reduceEq, zeros_len, d1, d2, d3, sh_tree, nrm_tree, true_and, Int.reduceEq, decide_true, decide_false]
  refine callK_pure (args' := [txD tx]) (ref_checkTx tx d1) (congrArg (fun z => [z]) (erase_tx tx)) ⟨by simp [pureD, pureL, pureL_ints, pure_ops], trivial⟩ ?_
  simp only [go_sem, reduceAdd, reduceSub, reduceMul, reduceLT, reduceLeDiff, ↓reduceIte, reduceCtorEq, reduceEqDiff, reduceToNat, Int.reduceLT, reduceLE, reduceEq, zeros_len, d1, d2, d3, sh_tree, nrm_tree, true_and, Int.reduceEq, decide_true, decide_false]
  simp only [rawG, treeD_none, List.map_nil]
  rfl
set_option maxRecDepth 8000 in
set_option maxHeartbeats 8000000 in
theorem ref26_fields3 (y : GMsg) (hg : GOk y) (hk : y.kind = 3) : ∃ b, PSpec Tryz.prog CT 55 [rawG y] (· = .tup [rawG ⟨3, y.from_, y.to, t0Z, zeros 13, zeros 13, false, y.num, y.n, 0, [], .nd 0 [], .nd 0 [], []⟩, .bool b]) := by
  obtain ⟨d1, d2, d3, _, _, _, d7, d8⟩ := id hg
  obtain ⟨kind, from_, to, tx, vec, row, flag, num, wn, of_, data, id, ev, peers⟩ := y
  obtain rfl : kind = 3 := hk
  simp only at d1 d2 d3 d7 d8
  refine ⟨(((decide (0 ≤ num) && decide (num ≤ 1125899906842624)) && decide (0 ≤ wn)) && decide (wn ≤ 4096)), ?_⟩
  refine PSpec.of hT Tryz.func55 rfl (by kernel_rfl) rfl rfl ?_
  simp only [Tryz.f55, go_sem, reduceAdd, reduceSub, reduceMul, reduceLT, reduceLeDiff, ↓reduceIte, reduceCtorEq, reduceEqDiff, reduceToNat, Int.reduceLT, reduceLE, reduceEq, zeros_len, d1, d2, d3, sh_tree, nrm_tree, true_and, Int.reduceEq, decide_true, decide_false]
  refine .inr ?_
  apply drawN_stores (fun g => ∃ v r b n w o dd, g = ⟨[(msgSh, rawG ⟨3, from_, to, tx, vec, row, flag, num, wn, of_, data, id, ev, peers⟩), (msgSh, rawM .full .full ⟨0, 0, 0, false, 0, 0, []⟩), (msgSh, xD 3 from_ to v r b n w o dd)], []⟩) _ [0, 1, 2, 3, 4, 6] [5, 7] (by kernel_rfl)
  · rintro g ⟨v, r, b, n, w, o, dd, rfl⟩ Q' hQ
    simp only [go_sem, reduceAdd, reduceSub, reduceMul, reduceLT, reduceLeDiff, ↓reduceIte, reduceCtorEq, reduceEqDiff, reduceToNat, Int.reduceLT, reduceLE, reduceEq, zeros_len, d1, d2, d3, sh_tree, nrm_tree, true_and, Int.reduceEq, decide_true, decide_false]
    exact hQ
  refine storesD_step (P := Tryz.prog) rfl rfl rfl ⟨_, _, _, _, _, _, _, rfl⟩ ?_
  simp only [go_sem, reduceAdd, reduceSub, reduceMul, reduceLT, reduceLeDiff, ↓reduceIte, reduceCtorEq, reduceEqDiff, reduceToNat, Int.reduceLT, reduceLE, reduceEq, zeros_len, d1, d2, d3, sh_tree, nrm_tree, true_and, Int.reduceEq, decide_true, decide_false]
  refine storesD_step (P := Tryz.prog) rfl rfl rfl ⟨_, _, _, _, _, _, _, rfl⟩ ?_
  simp only [go_sem, reduceAdd, reduceSub, reduceMul, reduceLT, reduceLeDiff, ↓reduceIte, reduceCtorEq, reduceEqDiff, reduceToNat, Int.reduceLT, reduceLE, reduceEq, zeros_len, d1, d2, d3, sh_tree, nrm_tree, true_and, Int.reduceEq, decide_true, decide_false]
  refine ⟨⟨_, _, _, _, _, _, _, rfl⟩, ?_⟩
  simp only [go_sem, reduceAdd, reduceSub, reduceMul, reduceLT, reduceLeDiff, ↓reduceIte, reduceCtorEq, reduceEqDiff, reduceToNat, Int.reduceLT, reduceLE, reduceEq, zeros_len, d1, d2, d3, sh_tree, nrm_tree, true_and, Int.reduceEq, decide_true, decide_false]
  cases c0 : decide (0 ≤ num) with
  | false =>
    simp only [go_sem, reduceAdd, reduceSub, reduceMul, reduceLT, reduceLeDiff, ↓reduceIte, reduceCtorEq, reduceEqDiff, reduceToNat, Int.reduceLT, reduceLE, reduceEq, zeros_len, d1, d2, d3, sh_tree, nrm_tree, true_and, Int.reduceEq, decide_true, decide_false, Bool.false_and, Bool.and_false]
    simp only [rawG, treeD_none, List.map_nil]
    rfl
  | true =>
  simp only [go_sem, reduceAdd, reduceSub, reduceMul, reduceLT, reduceLeDiff, ↓reduceIte, reduceCtorEq, reduceEqDiff, reduceToNat, Int.reduceLT, reduceLE, reduceEq, zeros_len, d1, d2, d3, sh_tree, nrm_tree, true_and, Int.reduceEq, decide_true, decide_false, Bool.true_and, List.length_map]
  cases c1 : decide (num ≤ 1125899906842624) with
  | false =>
    simp only [go_sem, reduceAdd, reduceSub, reduceMul, reduceLT, reduceLeDiff, ↓reduceIte, reduceCtorEq, reduceEqDiff, reduceToNat, Int.reduceLT, reduceLE, reduceEq, zeros_len, d1, d2, d3, sh_tree, nrm_tree, true_and, Int.reduceEq, decide_true, decide_false, Bool.false_and, Bool.and_false]
    simp only [rawG, treeD_none, List.map_nil]
    rfl
  | true =>
  simp only [go_sem, reduceAdd, reduceSub, reduceMul, reduceLT, reduceLeDiff, ↓reduceIte, reduceCtorEq, reduceEqDiff, reduceToNat, Int.reduceLT, reduceLE, reduceEq, zeros_len, d1, d2, d3, sh_tree, nrm_tree, true_and, Int.reduceEq, decide_true, decide_false, Bool.true_and, List.length_map]
  cases c2 : decide (0 ≤ wn) with
  | false =>
    simp only [go_sem, reduceAdd, reduceSub, reduceMul, reduceLT, reduceLeDiff, ↓reduceIte, reduceCtorEq, reduceEqDiff, reduceToNat, Int.reduceLT, reduceLE, reduceEq, zeros_len, d1, d2, d3, sh_tree, nrm_tree, true_and, Int.reduceEq, decide_true, decide_false, Bool.false_and, Bool.and_false]
    simp only [rawG, treeD_none, List.map_nil]
    rfl
  | true =>
  simp only [go_sem, reduceAdd, reduceSub, reduceMul, reduceLT, reduceLeDiff, ↓reduceIte, reduceCtorEq, reduceEqDiff, reduceToNat, Int.reduceLT, reduceLE, reduceEq, zeros_len, d1, d2, d3, sh_tree, nrm_tree, true_and, Int.reduceEq, decide_true, decide_false, Bool.true_and, List.length_map]
  try simp only [go_sem, reduceAdd, reduceSub, reduceMul, reduceLT, reduceLeDiff, ↓reduceIte, reduceCtorEq, reduceEqDiff, reduceToNat, Int.reduceLT, reduceLE, reduceEq, zeros_len, d1, d2, d3, sh_tree, nrm_tree, true_and, Int.reduceEq, decide_true, decide_false, Bool.true_and, Bool.and_true, List.length_map]
  simp only [rawG, treeD_none, List.map_nil]
  rfl
set_option maxRecDepth 8000 in
set_option maxHeartbeats 8000000 in
theorem ref26_fields4 (y : GMsg) (hg : GOk y) (hk : y.kind = 4) : ∃ b, PSpec Tryz.prog CT 55 [rawG y] (· = .tup [rawG ⟨4, y.from_, y.to, t0Z, zeros 13, zeros 13, false, y.num, y.n, y.of_, y.data, .nd 0 [], .nd 0 [], []⟩, .bool b]) := by
  obtain ⟨d1, d2, d3, _, _, _, d7, d8⟩ := id hg
  obtain ⟨kind, from_, to, tx, vec, row, flag, num, wn, of_, data, id, ev, peers⟩ := y
  obtain rfl : kind = 4 := hk
  simp only at d1 d2 d3 d7 d8
  refine ⟨(((((decide (0 ≤ num) && decide (num ≤ 1125899906842624)) && decide (0 ≤ wn)) && decide (wn < of_)) && decide (of_ ≤ 4096)) && decide (((data.length : Nat) : Int) ≤ 512)), ?_⟩
  refine PSpec.of hT Tryz.func55 rfl (by kernel_rfl) rfl rfl ?_
  simp only [Tryz.f55, go_sem, reduceAdd, reduceSub, reduceMul, reduceLT, reduceLeDiff, ↓reduceIte, reduceCtorEq, reduceEqDiff, reduceToNat, Int.reduceLT, reduceLE, reduceEq, zeros_len, d1, d2, d3, sh_tree, nrm_tree, true_and, Int.reduceEq, decide_true, decide_false]
  refine .inr ?_
  apply drawN_stores (fun g => ∃ v r b n w o dd, g = ⟨[(msgSh, rawG ⟨4, from_, to, tx, vec, row, flag, num, wn, of_, data, id, ev, peers⟩), (msgSh, rawM .full .full ⟨0, 0, 0, false, 0, 0, []⟩), (msgSh, xD 4 from_ to v r b n w o dd)], []⟩) _ [0, 1, 2, 3, 4, 5, 6, 7, 8, 10, 12, 14] [9, 11, 13, 15] (by kernel_rfl)
  · rintro g ⟨v, r, b, n, w, o, dd, rfl⟩ Q' hQ
    simp only [go_sem, reduceAdd, reduceSub, reduceMul, reduceLT, reduceLeDiff, ↓reduceIte, reduceCtorEq, reduceEqDiff, reduceToNat, Int.reduceLT, reduceLE, reduceEq, zeros_len, d1, d2, d3, sh_tree, nrm_tree, true_and, Int.reduceEq, decide_true, decide_false]
    exact hQ
  refine storesD_step (P := Tryz.prog) rfl rfl rfl ⟨_, _, _, _, _, _, _, rfl⟩ ?_
  simp only [go_sem, reduceAdd, reduceSub, reduceMul, reduceLT, reduceLeDiff, ↓reduceIte, reduceCtorEq, reduceEqDiff, reduceToNat, Int.reduceLT, reduceLE, reduceEq, zeros_len, d1, d2, d3, sh_tree, nrm_tree, true_and, Int.reduceEq, decide_true, decide_false]
  refine storesD_step (P := Tryz.prog) rfl rfl rfl ⟨_, _, _, _, _, _, _, rfl⟩ ?_
  simp only [go_sem, reduceAdd, reduceSub, reduceMul, reduceLT, reduceLeDiff, ↓reduceIte, reduceCtorEq, reduceEqDiff, reduceToNat, Int.reduceLT, reduceLE, reduceEq, zeros_len, d1, d2, d3, sh_tree, nrm_tree, true_and, Int.reduceEq, decide_true, decide_false]
  refine storesD_step (P := Tryz.prog) rfl rfl rfl ⟨_, _, _, _, _, _, _, rfl⟩ ?_
  simp only [go_sem, reduceAdd, reduceSub, reduceMul, reduceLT, reduceLeDiff, ↓reduceIte, reduceCtorEq, reduceEqDiff, reduceToNat, Int.reduceLT, reduceLE, reduceEq, zeros_len, d1, d2, d3, sh_tree, nrm_tree, true_and, Int.reduceEq, decide_true, decide_false]
  refine storesD_step (P := Tryz.prog) rfl rfl rfl ⟨_, _, _, _, _, _, _, rfl⟩ ?_
  simp only [go_sem, reduceAdd, reduceSub, reduceMul, reduceLT, reduceLeDiff, ↓reduceIte, reduceCtorEq, reduceEqDiff, reduceToNat, Int.reduceLT, reduceLE, reduceEq, zeros_len, d1, d2, d3, sh_tree, nrm_tree, true_and, Int.reduceEq, decide_true, decide_false]
  refine ⟨⟨_, _, _, _, _, _, _, rfl⟩, ?_⟩
  simp only [go_sem, reduceAdd, reduceSub, reduceMul, reduceLT, reduceLeDiff, ↓reduceIte, reduceCtorEq, reduceEqDiff, reduceToNat, Int.reduceLT, reduceLE, reduceEq, zeros_len, d1, d2, d3, sh_tree, nrm_tree, true_and, Int.reduceEq, decide_true, decide_false]
  cases c0 : decide (0 ≤ num) with
  | false =>
    simp only [go_sem, reduceAdd, reduceSub, reduceMul, reduceLT, reduceLeDiff, ↓reduceIte, reduceCtorEq, reduceEqDiff, reduceToNat, Int.reduceLT, reduceLE, reduceEq, zeros_len, d1, d2, d3, sh_tree, nrm_tree, true_and, Int.reduceEq, decide_true, decide_false, Bool.false_and, Bool.and_false]
    simp only [rawG, treeD_none, List.map_nil]
    rfl
  | true =>
  simp only [go_sem, reduceAdd, reduceSub, reduceMul, reduceLT, reduceLeDiff, ↓reduceIte, reduceCtorEq, reduceEqDiff, reduceToNat, Int.reduceLT, reduceLE, reduceEq, zeros_len, d1, d2, d3, sh_tree, nrm_tree, true_and, Int.reduceEq, decide_true, decide_false, Bool.true_and, List.length_map]
  cases c1 : decide (num ≤ 1125899906842624) with
  | false =>
    simp only [go_sem, reduceAdd, reduceSub, reduceMul, reduceLT, reduceLeDiff, ↓reduceIte, reduceCtorEq, reduceEqDiff, reduceToNat, Int.reduceLT, reduceLE, reduceEq, zeros_len, d1, d2, d3, sh_tree, nrm_tree, true_and, Int.reduceEq, decide_true, decide_false, Bool.false_and, Bool.and_false]
    simp only [rawG, treeD_none, List.map_nil]
    rfl
  | true =>
  simp only [go_sem, reduceAdd, reduceSub, reduceMul, reduceLT, reduceLeDiff, ↓reduceIte, reduceCtorEq, reduceEqDiff, reduceToNat, Int.reduceLT, reduceLE, reduceEq, zeros_len, d1, d2, d3, sh_tree, nrm_tree, true_and, Int.reduceEq, decide_true, decide_false, Bool.true_and, List.length_map]
  cases c2 : decide (0 ≤ wn) with
  | false =>
    simp only [go_sem, reduceAdd, reduceSub, reduceMul, reduceLT, reduceLeDiff, ↓reduceIte, reduceCtorEq, reduceEqDiff, reduceToNat, Int.reduceLT, reduceLE, reduceEq, zeros_len, d1, d2, d3, sh_tree, nrm_tree, true_and, Int.reduceEq, decide_true, decide_false, Bool.false_and, Bool.and_false]
    simp only [rawG, treeD_none, List.map_nil]
    rfl
  | true =>
  simp only [go_sem, reduceAdd, reduceSub, reduceMul, reduceLT, reduceLeDiff, ↓reduceIte, reduceCtorEq, reduceEqDiff, reduceToNat, Int.reduceLT, reduceLE, reduceEq, zeros_len, d1, d2, d3, sh_tree, nrm_tree, true_and, Int.reduceEq, decide_true, decide_false, Bool.true_and, List.length_map]
  cases c3 : decide (wn < of_) with
  | false =>
    simp only [go_sem, reduceAdd, reduceSub, reduceMul, reduceLT, reduceLeDiff, ↓reduceIte, reduceCtorEq, reduceEqDiff, reduceToNat, Int.reduceLT, reduceLE, reduceEq, zeros_len, d1, d2, d3, sh_tree, nrm_tree, true_and, Int.reduceEq, decide_true, decide_false, Bool.false_and, Bool.and_false]
    simp only [rawG, treeD_none, List.map_nil]
    rfl
  | true =>
  simp only [go_sem, reduceAdd, reduceSub, reduceMul, reduceLT, reduceLeDiff, ↓reduceIte, reduceCtorEq, reduceEqDiff, reduceToNat, Int.reduceLT, reduceLE, reduceEq, zeros_len, d1, d2, d3, sh_tree, nrm_tree, true_and, Int.reduceEq, decide_true, decide_false, Bool.true_and, List.length_map]
  cases c4 : decide (of_ ≤ 4096) with
  | false =>
    simp only [go_sem, reduceAdd, reduceSub, reduceMul, reduceLT, reduceLeDiff, ↓reduceIte, reduceCtorEq, reduceEqDiff, reduceToNat, Int.reduceLT, reduceLE, reduceEq, zeros_len, d1, d2, d3, sh_tree, nrm_tree, true_and, Int.reduceEq, decide_true, decide_false, Bool.false_and, Bool.and_false]
    simp only [rawG, treeD_none, List.map_nil]
    rfl
  | true =>
  simp only [go_sem, reduceAdd, reduceSub, reduceMul, reduceLT, reduceLeDiff, ↓reduceIte, reduceCtorEq, reduceEqDiff, reduceToNat, Int.reduceLT, reduceLE, reduceEq, zeros_len, d1, d2, d3, sh_tree, nrm_tree, true_and, Int.reduceEq, decide_true, decide_false, Bool.true_and, List.length_map]
  try simp only [go_sem, reduceAdd, reduceSub, reduceMul, reduceLT, reduceLeDiff, ↓reduceIte, reduceCtorEq, reduceEqDiff, reduceToNat, Int.reduceLT, reduceLE, reduceEq, zeros_len, d1, d2, d3, sh_tree, nrm_tree, true_and, Int.reduceEq, decide_true, decide_false, Bool.true_and, Bool.and_true, List.length_map]
  simp only [rawG, treeD_none, List.map_nil]
  rfl
set_option maxRecDepth 8000 in
set_option maxHeartbeats 8000000 in
theorem ref26_fields2 (y : GMsg) (hg : GOk y) (hk : y.kind = 2) : ∃ b, PSpec Tryz.prog CT 55 [rawG y] (· = .tup [rawG ⟨2, y.from_, y.to, t0Z, y.vec, y.row, y.flag, 0, 0, 0, [], .nd 0 [], .nd 0 [], []⟩, .bool b]) := by
  obtain ⟨d1, d2, d3, _, _, _, d7, d8⟩ := id hg
  obtain ⟨kind, from_, to, tx, vec, row, flag, num, wn, of_, data, id, ev, peers⟩ := y
  obtain rfl : kind = 2 := hk
  simp only at d1 d2 d3 d7 d8
  refine ⟨vcheck vec && vcheck row && leqB row vec, ?_⟩
  refine PSpec.of hT Tryz.func55 rfl (by kernel_rfl) rfl rfl ?_
  simp only [Tryz.f55, go_sem, reduceAdd, reduceSub, reduceMul, reduceLT, reduceLeDiff, ↓reduceIte, reduceCtorEq, reduceEqDiff, reduceToNat, Int.reduceLT, reduceLE, reduceEq, zeros_len, d1, d2, d3, sh_tree, nrm_tree, true_and, Int.reduceEq, decide_true, decide_false]
  refine .inr ?_
  apply drawN_stores (fun g => ∃ v r b n w o dd, g = ⟨[(msgSh, rawG ⟨2, from_, to, tx, vec, row, flag, num, wn, of_, data, id, ev, peers⟩), (msgSh, rawM .full .full ⟨0, 0, 0, false, 0, 0, []⟩), (msgSh, xD 2 from_ to v r b n w o dd)], []⟩) _ [0, 1, 2, 3, 4, 5, 6, 8, 10] [7, 9, 11] (by kernel_rfl)
  · rintro g ⟨v, r, b, n, w, o, dd, rfl⟩ Q' hQ
    simp only [go_sem, reduceAdd, reduceSub, reduceMul, reduceLT, reduceLeDiff, ↓reduceIte, reduceCtorEq, reduceEqDiff, reduceToNat, Int.reduceLT, reduceLE, reduceEq, zeros_len, d1, d2, d3, sh_tree, nrm_tree, true_and, Int.reduceEq, decide_true, decide_false]
    exact hQ
  refine storesD_step (P := Tryz.prog) rfl rfl rfl ⟨_, _, _, _, _, _, _, rfl⟩ ?_
  simp only [go_sem, reduceAdd, reduceSub, reduceMul, reduceLT, reduceLeDiff, ↓reduceIte, reduceCtorEq, reduceEqDiff, reduceToNat, Int.reduceLT, reduceLE, reduceEq, zeros_len, d1, d2, d3, sh_tree, nrm_tree, true_and, Int.reduceEq, decide_true, decide_false]
  refine storesD_step (P := Tryz.prog) rfl rfl rfl ⟨_, _, _, _, _, _, _, rfl⟩ ?_
  simp only [go_sem, reduceAdd, reduceSub, reduceMul, reduceLT, reduceLeDiff, ↓reduceIte, reduceCtorEq, reduceEqDiff, reduceToNat, Int.reduceLT, reduceLE, reduceEq, zeros_len, d1, d2, d3, sh_tree, nrm_tree, true_and, Int.reduceEq, decide_true, decide_false]
  refine storesD_step (P := Tryz.prog) rfl rfl rfl ⟨_, _, _, _, _, _, _, rfl⟩ ?_
  simp only [go_sem, reduceAdd, reduceSub, reduceMul, reduceLT, reduceLeDiff, ↓reduceIte, reduceCtorEq, reduceEqDiff, reduceToNat, Int.reduceLT, reduceLE, reduceEq, zeros_len, d1, d2, d3, sh_tree, nrm_tree, true_and, Int.reduceEq, decide_true, decide_false]
  refine ⟨⟨_, _, _, _, _, _, _, rfl⟩, ?_⟩
  simp only [go_sem, reduceAdd, reduceSub, reduceMul, reduceLT, reduceLeDiff, ↓reduceIte, reduceCtorEq, reduceEqDiff, reduceToNat, Int.reduceLT, reduceLE, reduceEq, zeros_len, d1, d2, d3, sh_tree, nrm_tree, true_and, Int.reduceEq, decide_true, decide_false]
  refine callK_pure (ref_check vec d2) (by first | rfl | (simp only [go_sem, pureL_ints]; done)) (by first | (simp only [go_sem, pureL_ints]; done) | (simp [pureL, pureD]; done)) ?_
  cases c1 : vcheck vec with
  | false =>
    simp only [go_sem, reduceAdd, reduceSub, reduceMul, reduceLT, reduceLeDiff, ↓reduceIte, reduceCtorEq, reduceEqDiff, reduceToNat, Int.reduceLT, reduceLE, reduceEq, zeros_len, d1, d2, d3, sh_tree, nrm_tree, true_and, Int.reduceEq, decide_true, decide_false, Bool.false_and]
    simp only [rawG, treeD_none, List.map_nil]
    rfl
  | true =>
  simp only [go_sem, reduceAdd, reduceSub, reduceMul, reduceLT, reduceLeDiff, ↓reduceIte, reduceCtorEq, reduceEqDiff, reduceToNat, Int.reduceLT, reduceLE, reduceEq, zeros_len, d1, d2, d3, sh_tree, nrm_tree, true_and, Int.reduceEq, decide_true, decide_false, Bool.true_and]
  refine callK_pure (ref_check row d3) (by first | rfl | (simp only [go_sem, pureL_ints]; done)) (by first | (simp only [go_sem, pureL_ints]; done) | (simp [pureL, pureD]; done)) ?_
  cases c2 : vcheck row with
  | false =>
    simp only [go_sem, reduceAdd, reduceSub, reduceMul, reduceLT, reduceLeDiff, ↓reduceIte, reduceCtorEq, reduceEqDiff, reduceToNat, Int.reduceLT, reduceLE, reduceEq, zeros_len, d1, d2, d3, sh_tree, nrm_tree, true_and, Int.reduceEq, decide_true, decide_false, Bool.false_and]
    simp only [rawG, treeD_none, List.map_nil]
    rfl
  | true =>
  simp only [go_sem, reduceAdd, reduceSub, reduceMul, reduceLT, reduceLeDiff, ↓reduceIte, reduceCtorEq, reduceEqDiff, reduceToNat, Int.reduceLT, reduceLE, reduceEq, zeros_len, d1, d2, d3, sh_tree, nrm_tree, true_and, Int.reduceEq, decide_true, decide_false, Bool.true_and]
  refine callK_pure (ref_leqB row vec d3 d2) (by first | rfl | (simp only [go_sem, pureL_ints]; done)) (by first | (simp only [go_sem, pureL_ints]; done) | (simp [pureL, pureD]; done)) ?_
  simp only [go_sem, reduceAdd, reduceSub, reduceMul, reduceLT, reduceLeDiff, ↓reduceIte, reduceCtorEq, reduceEqDiff, reduceToNat, Int.reduceLT, reduceLE, reduceEq, zeros_len, d1, d2, d3, sh_tree, nrm_tree, true_and, Int.reduceEq, decide_true, decide_false]
  simp only [rawG, treeD_none, List.map_nil]
  rfl
set_option maxRecDepth 8000 in
set_option maxHeartbeats 8000000 in
theorem ref26_fields5 (y : GMsg) (hg : GOk y) (hk : y.kind = 5) : ∃ b, PSpec Tryz.prog CT 55 [rawG y] (· = .tup [rawG ⟨5, y.from_, y.to, t0Z, zeros 13, zeros 13, false, 0, 0, 0, [], y.id, y.ev, []⟩, .bool b]) := by
  obtain ⟨d1, d2, d3, _, _, _, d7, d8⟩ := id hg
  obtain ⟨kind, from_, to, tx, vec, row, flag, num, wn, of_, data, id, ev, peers⟩ := y
  obtain rfl : kind = 5 := hk
  simp only at d1 d2 d3 d7 d8
  obtain ⟨c, hc⟩ := ref06_check_any id ev d7 d8
  refine ⟨c && !(decide (id.kids.length = 0) && decide (id.num = 0)), ?_⟩
  refine PSpec.of hT Tryz.func55 rfl (by kernel_rfl) rfl rfl ?_
  simp only [Tryz.f55, go_sem, reduceAdd, reduceSub, reduceMul, reduceLT, reduceLeDiff, ↓reduceIte, reduceCtorEq, reduceEqDiff, reduceToNat, Int.reduceLT, reduceLE, reduceEq, zeros_len, d1, d2, d3, sh_tree, nrm_tree, true_and, Int.reduceEq, decide_true, decide_false]
  refine callK_pure (args' := [.agg [treeD id, treeD ev]]) hc (by first | rfl | (simp only [go_sem, erase_tree, pure_tree]; done)) (by first | (simp only [go_sem, erase_tree, pure_tree]; done) | (simp [pureL, pureD]; done)) ?_
  cases c with
  | false =>
    simp only [go_sem, reduceAdd, reduceSub, reduceMul, reduceLT, reduceLeDiff, ↓reduceIte, reduceCtorEq, reduceEqDiff, reduceToNat, Int.reduceLT, reduceLE, reduceEq, erase_tree, pure_tree, and_true, zeros_len, d1, d2, d3, sh_tree, nrm_tree, true_and, Int.reduceEq, decide_true, decide_false, Bool.false_and]
    simp only [rawG, treeD_none, List.map_nil]
    rfl
  | true =>
  simp only [go_sem, reduceAdd, reduceSub, reduceMul, reduceLT, reduceLeDiff, ↓reduceIte, reduceCtorEq, reduceEqDiff, reduceToNat, Int.reduceLT, reduceLE, reduceEq, erase_tree, pure_tree, and_true, zeros_len, d1, d2, d3, sh_tree, nrm_tree, true_and, Int.reduceEq, decide_true, decide_false, Bool.true_and]
  refine callK_pure (args' := [treeD id, .lit (.int .i64 0)]) (tree_isLeaf id 0) (by first | rfl | (simp only [go_sem, erase_tree, pure_tree]; done)) (by first | (simp only [go_sem, erase_tree, pure_tree]; done) | (simp [pureL, pureD]; done)) ?_
  simp only [go_sem, reduceAdd, reduceSub, reduceMul, reduceLT, reduceLeDiff, ↓reduceIte, reduceCtorEq, reduceEqDiff, reduceToNat, Int.reduceLT, reduceLE, reduceEq, erase_tree, pure_tree, and_true, zeros_len, d1, d2, d3, sh_tree, nrm_tree, true_and, Int.reduceEq, decide_true, decide_false]
  simp only [rawG, treeD_none, List.map_nil]
  rfl
set_option maxRecDepth 8000 in
set_option maxHeartbeats 8000000 in
theorem ref26_fields6 (y : GMsg) (hg : GOk y) (hk : y.kind = 6) : ∃ b, PSpec Tryz.prog CT 55 [rawG y] (· = .tup [rawG ⟨6, y.from_, y.to, t0Z, zeros 13, zeros 13, false, 0, 0, 0, [], y.id, y.ev, []⟩, .bool b]) := by
  obtain ⟨d1, d2, d3, _, _, _, d7, d8⟩ := id hg
  obtain ⟨kind, from_, to, tx, vec, row, flag, num, wn, of_, data, id, ev, peers⟩ := y
  obtain rfl : kind = 6 := hk
  simp only at d1 d2 d3 d7 d8
  obtain ⟨c, hc⟩ := ref06_check_any id ev d7 d8
  refine ⟨c && !(decide (id.kids.length = 0) && decide (id.num = 0)), ?_⟩
  refine PSpec.of hT Tryz.func55 rfl (by kernel_rfl) rfl rfl ?_
  simp only [Tryz.f55, go_sem, reduceAdd, reduceSub, reduceMul, reduceLT, reduceLeDiff, ↓reduceIte, reduceCtorEq, reduceEqDiff, reduceToNat, Int.reduceLT, reduceLE, reduceEq, zeros_len, d1, d2, d3, sh_tree, nrm_tree, true_and, Int.reduceEq, decide_true, decide_false]
  refine callK_pure (args' := [.agg [treeD id, treeD ev]]) hc (by first | rfl | (simp only [go_sem, erase_tree, pure_tree]; done)) (by first | (simp only [go_sem, erase_tree, pure_tree]; done) | (simp [pureL, pureD]; done)) ?_
  cases c with
  | false =>
    simp only [go_sem, reduceAdd, reduceSub, reduceMul, reduceLT, reduceLeDiff, ↓reduceIte, reduceCtorEq, reduceEqDiff, reduceToNat, Int.reduceLT, reduceLE, reduceEq, erase_tree, pure_tree, and_true, zeros_len, d1, d2, d3, sh_tree, nrm_tree, true_and, Int.reduceEq, decide_true, decide_false, Bool.false_and]
    simp only [rawG, treeD_none, List.map_nil]
    rfl
  | true =>
  simp only [go_sem, reduceAdd, reduceSub, reduceMul, reduceLT, reduceLeDiff, ↓reduceIte, reduceCtorEq, reduceEqDiff, reduceToNat, Int.reduceLT, reduceLE, reduceEq, erase_tree, pure_tree, and_true, zeros_len, d1, d2, d3, sh_tree, nrm_tree, true_and, Int.reduceEq, decide_true, decide_false, Bool.true_and]
  refine callK_pure (args' := [treeD id, .lit (.int .i64 0)]) (tree_isLeaf id 0) (by first | rfl | (simp only [go_sem, erase_tree, pure_tree]; done)) (by first | (simp only [go_sem, erase_tree, pure_tree]; done) | (simp [pureL, pureD]; done)) ?_
  simp only [go_sem, reduceAdd, reduceSub, reduceMul, reduceLT, reduceLeDiff, ↓reduceIte, reduceCtorEq, reduceEqDiff, reduceToNat, Int.reduceLT, reduceLE, reduceEq, erase_tree, pure_tree, and_true, zeros_len, d1, d2, d3, sh_tree, nrm_tree, true_and, Int.reduceEq, decide_true, decide_false]
  simp only [rawG, treeD_none, List.map_nil]
  rfl
set_option maxRecDepth 8000 in
set_option maxHeartbeats 8000000 in
theorem ref26_fieldsN (y : GMsg) (hg : GOk y) (hk : ¬ (1 ≤ y.kind ∧ y.kind ≤ 13)) : PSpec Tryz.prog CT 55 [rawG y] (· = .tup [rawG ⟨y.kind, y.from_, y.to, t0Z, zeros 13, zeros 13, false, 0, 0, 0, [], .nd 0 [], .nd 0 [], []⟩, .bool false]) := by
  obtain ⟨d1, d2, d3, _⟩ := id hg
  obtain ⟨kind, from_, to, tx, vec, row, flag, num, wn, of_, data, id, ev, peers⟩ := y
  simp only at d1 d2 d3 hk
  have k1 : decide (kind = 1) = false := decide_eq_false (by omega)
  have k2 : decide (kind = 2) = false := decide_eq_false (by omega)
  have k3 : decide (kind = 3) = false := decide_eq_false (by omega)
  have k4 : decide (kind = 4) = false := decide_eq_false (by omega)
  have k5 : decide (kind = 5) = false := decide_eq_false (by omega)
  have k6 : decide (kind = 6) = false := decide_eq_false (by omega)
  have k7 : decide (kind = 7) = false := decide_eq_false (by omega)
  have k8 : decide (kind = 8) = false := decide_eq_false (by omega)
  have k9 : decide (kind = 9) = false := decide_eq_false (by omega)
  have k10 : decide (kind = 10) = false := decide_eq_false (by omega)
  have k11 : decide (kind = 11) = false := decide_eq_false (by omega)
  have k12 : decide (kind = 12) = false := decide_eq_false (by omega)
  have k13 : decide (kind = 13) = false := decide_eq_false (by omega)
  refine PSpec.of hT Tryz.func55 rfl (by kernel_rfl) rfl rfl ?_
  simp only [Tryz.f55, go_sem, reduceAdd, reduceSub, reduceMul, reduceLT, reduceLeDiff, ↓reduceIte, reduceCtorEq, reduceEqDiff, reduceToNat, Int.reduceLT, reduceLE, reduceEq, zeros_len, d1, d2, d3, sh_tree, nrm_tree, true_and, Int.reduceEq, decide_true, decide_false, k1, k2, k3, k4, k5, k6, k7, k8, k9, k10, k11, k12, k13]
  simp only [rawG, treeD_none, List.map_nil]
  rfl
/-- What a kind uses, and whether it may be, whatever message it is. -/
theorem ref26_fieldsO (y : GMsg) (hg : GOk y) (hk : ¬ (7 ≤ y.kind ∧ y.kind ≤ 13)) : ∃ (x : GMsg) (b : Bool), PSpec Tryz.prog CT 55 [rawG y] (· = .tup [rawG x, .bool b]) ∧ GOk x ∧ x.peers.length = 0 ∧ x.tx.ops.length ≤ y.tx.ops.length := by
  obtain ⟨d1, d2, d3, d4, d5, d6, d7, d8⟩ := id hg
  have hz : (zeros 13).length = 13 := by simp [zeros]
  have hn := treeOk_none 0
  by_cases k1 : y.kind = 1
  · exact ⟨_, _, ref26_fields1 y hg k1, ⟨d1, hz, hz, d4, Nat.zero_le _, Nat.zero_le _, hn, hn⟩, rfl, Nat.le_refl _⟩
  by_cases k2 : y.kind = 2
  · obtain ⟨b, hb⟩ := ref26_fields2 y hg k2
    exact ⟨_, b, hb, ⟨hz, d2, d3, Nat.zero_le _, Nat.zero_le _, Nat.zero_le _, hn, hn⟩, rfl, Nat.zero_le _⟩
  by_cases k3 : y.kind = 3
  · obtain ⟨b, hb⟩ := ref26_fields3 y hg k3
    exact ⟨_, b, hb, ⟨hz, hz, hz, Nat.zero_le _, Nat.zero_le _, Nat.zero_le _, hn, hn⟩, rfl, Nat.zero_le _⟩
  by_cases k4 : y.kind = 4
  · obtain ⟨b, hb⟩ := ref26_fields4 y hg k4
    exact ⟨_, b, hb, ⟨hz, hz, hz, Nat.zero_le _, d5, Nat.zero_le _, hn, hn⟩, rfl, Nat.zero_le _⟩
  by_cases k5 : y.kind = 5
  · obtain ⟨b, hb⟩ := ref26_fields5 y hg k5
    exact ⟨_, b, hb, ⟨hz, hz, hz, Nat.zero_le _, Nat.zero_le _, Nat.zero_le _, d7, d8⟩, rfl, Nat.zero_le _⟩
  by_cases k6 : y.kind = 6
  · obtain ⟨b, hb⟩ := ref26_fields6 y hg k6
    exact ⟨_, b, hb, ⟨hz, hz, hz, Nat.zero_le _, Nat.zero_le _, Nat.zero_le _, d7, d8⟩, rfl, Nat.zero_le _⟩
  exact ⟨_, false, ref26_fieldsN y hg (by omega), ⟨hz, hz, hz, Nat.zero_le _, Nat.zero_le _, Nat.zero_le _, hn, hn⟩, rfl, Nat.zero_le _⟩
end Go.Ab
set_option linter.unusedSimpArgs false
namespace Go.Ab
open Go.Proofs

set_option maxRecDepth 8000 in
set_option maxHeartbeats 8000000 in
theorem ref26_sameA (x y : GMsg) (hx : GOk x) (hg : GOk y) (hp : x.peers.length < 4000000000) (ho : x.tx.ops.length < 4000000000) : PSpec Tryz.prog CT 44 [rawG x, rawG y] (fun r => ∃ b, r = .lit (.bool b)) := by
  obtain ⟨d1, d2, d3, _⟩ := id hg
  obtain ⟨f1, f2, f3, _, _, _, f7, f8⟩ := id hx
  have e2 := eqB_vec x.vec y.vec
  have e3 := eqB_vec x.row y.row
  refine PSpec.of hT Tryz.func44 rfl (by kernel_rfl) rfl rfl ?_
  simp only [Tryz.f44]
  refine awp_cut (fun n s => ∃  (g : Nat → D), s = ⟨[g 0, g 1, .ptr 0 [], .ptr 1 [], g 4, g 5, g 6, g 7, g 8, g 9, g 10, g 11, g 12, g 13, g 14, g 15, g 16, g 17, g 18, g 19, g 20, g 21, g 22, g 23, g 24, g 25, g 26, g 27, g 28, g 29, g 30, g 31, g 32, g 33, g 34, g 35, g 36, g 37, g 38, g 39, g 40, g 41, g 42, g 43, g 44, g 45, g 46, g 47, g 48, g 49, g 50, g 51, g 52, g 53, g 54, g 55, g 56, g 57, g 58, g 59, g 60, g 61, g 62, g 63, g 64, g 65, g 66, g 67, g 68, g 69, g 70, g 71, g 72, g 73, g 74, g 75, g 76, g 77, g 78, g 79, g 80, g 81, g 82, g 83, g 84, g 85, g 86, g 87, g 88, g 89, g 90, g 91, g 92, g 93], ⟨[(msgSh, rawG x), (msgSh, rawG y)], []⟩⟩ ∧ n = 0) 0 ?_ ?_
  · simp only [go_sem, reduceAdd, reduceSub, reduceMul, reduceLT, reduceLeDiff, ↓reduceIte, reduceCtorEq, reduceEqDiff, reduceToNat, Int.reduceLT, reduceLE, reduceEq, zeros_len, d1, d2, d3, f1, f2, f3, sh_tree, true_and]
    exact reg0 rfl rfl
  rintro s ⟨g, rfl, -⟩
  rw [awp_seq]
  refine awp_cut (fun n s => ∃ (b : Bool) (g : Nat → D), s = ⟨[g 0, g 1, .ptr 0 [], .ptr 1 [], g 4, g 5, g 6, g 7, g 8, g 9, g 10, g 11, g 12, g 13, g 14, g 15, g 16, g 17, g 18, g 19, g 20, g 21, g 22, g 23, g 24, g 25, g 26, g 27, g 28, g 29, g 30, g 31, g 32, g 33, g 34, g 35, g 36, g 37, g 38, g 39, g 40, g 41, g 42, g 43, g 44, g 45, g 46, g 47, g 48, g 49, g 50, g 51, g 52, g 53, g 54, g 55, g 56, g 57, g 58, g 59, g 60, g 61, g 62, g 63, g 64, .lit (.bool b), g 66, g 67, g 68, g 69, g 70, g 71, g 72, g 73, g 74, g 75, g 76, g 77, g 78, g 79, g 80, g 81, g 82, g 83, g 84, g 85, g 86, g 87, g 88, g 89, g 90, g 91, g 92, g 93], ⟨[(msgSh, rawG x), (msgSh, rawG y)], []⟩⟩ ∧ n = 0 ∧ (b = true ∨ b = false)) 0 ?_ ?_
  · simp only [go_sem, reduceAdd, reduceSub, reduceMul, reduceLT, reduceLeDiff, ↓reduceIte, reduceCtorEq, reduceEqDiff, reduceToNat, Int.reduceLT, reduceLE, reduceEq, zeros_len, eqB_cons, eqB_nil, eqB_int, Bool.and_true, d1, d2, d3, f1, f2, f3, e2, e3]
    (repeat' (first | ((refine guardK_split (fun hg => ?_) (fun hg => ?_)) <;> (try simp only [go_sem, reduceAdd, reduceSub, reduceMul, reduceLT, reduceLeDiff, ↓reduceIte, reduceCtorEq, reduceEqDiff, reduceToNat, Int.reduceLT, reduceLE, reduceEq, hg, zeros_len, eqB_cons, eqB_nil, eqB_int, Bool.and_true, d1, d2, d3, f1, f2, f3, e2, e3])) | ((refine condK_split (fun hg => ?_) (fun hg => ?_)) <;> (try simp only [go_sem, reduceAdd, reduceSub, reduceMul, reduceLT, reduceLeDiff, ↓reduceIte, reduceCtorEq, reduceEqDiff, reduceToNat, Int.reduceLT, reduceLE, reduceEq, hg, zeros_len, eqB_cons, eqB_nil, eqB_int, Bool.and_true, d1, d2, d3, f1, f2, f3, e2, e3])) | ((first | refine callK_pure (equal_ops0 y.tx.ops) ?_ ?_ ?_ | refine callD_pure (equal_ops0 y.tx.ops) ?_ ?_ ?_); (iterate 2 (focus (first | rfl | (simp only [go_sem, zeros_len, eqB_cons, eqB_nil, eqB_int, Bool.and_true, d1, d2, d3, f1, f2, f3, e2, e3]; done)))); try simp only [go_sem, reduceAdd, reduceSub, reduceMul, reduceLT, reduceLeDiff, ↓reduceIte, reduceCtorEq, reduceEqDiff, reduceToNat, Int.reduceLT, reduceLE, reduceEq, zeros_len, eqB_cons, eqB_nil, eqB_int, Bool.and_true, d1, d2, d3, f1, f2, f3, e2, e3]) | ((refine Or.inl ⟨by kernel_rfl, ?_⟩) <;> (try simp only [go_sem, reduceAdd, reduceSub, reduceMul, reduceLT, reduceLeDiff, ↓reduceIte, reduceCtorEq, reduceEqDiff, reduceToNat, Int.reduceLT, reduceLE, reduceEq, zeros_len, eqB_cons, eqB_nil, eqB_int, Bool.and_true, d1, d2, d3, f1, f2, f3, e2, e3])))) <;> (first | done | exact ⟨_, reg_intro rfl rfl (Bool.eq_false_or_eq_true _)⟩)
  rintro s ⟨b1, g, rfl, -, _⟩
  simp only [go_sem, reduceAdd, reduceSub, reduceMul, reduceLT, reduceLeDiff, ↓reduceIte, reduceCtorEq, reduceEqDiff, reduceToNat, Int.reduceLT, reduceLE, reduceEq]
  cases b1 with
  | true =>
    simp only [go_sem, reduceAdd, reduceSub, reduceMul, reduceLT, reduceLeDiff, ↓reduceIte, reduceCtorEq, reduceEqDiff, reduceToNat, Int.reduceLT, reduceLE, reduceEq]
    exact ⟨_, rfl⟩
  | false =>
  simp only [go_sem, reduceAdd, reduceSub, reduceMul, reduceLT, reduceLeDiff, ↓reduceIte, reduceCtorEq, reduceEqDiff, reduceToNat, Int.reduceLT, reduceLE, reduceEq, zeros_len, d1, d2, d3, f1, f2, f3]
  refine callK_pure (args' := [txD x.tx, txD y.tx]) (ref07_same x.tx y.tx f1 d1 ho) (by simp only [List.map_cons, List.map_nil, erase_tx]) ⟨by simp [pureD, pureL, pureL_ints, pure_ops], by simp [pureD, pureL, pureL_ints, pure_ops], trivial⟩ ?_
  cases k1 : sameTx x.tx y.tx with
  | false =>
    simp only [go_sem, reduceAdd, reduceSub, reduceMul, reduceLT, reduceLeDiff, ↓reduceIte, reduceCtorEq, reduceEqDiff, reduceToNat, Int.reduceLT, reduceLE, reduceEq, Bool.false_and]
    exact ⟨_, rfl⟩
  | true =>
  simp only [go_sem, reduceAdd, reduceSub, reduceMul, reduceLT, reduceLeDiff, ↓reduceIte, reduceCtorEq, reduceEqDiff, reduceToNat, Int.reduceLT, reduceLE, reduceEq, zeros_len, d1, d2, d3, f1, f2, f3, conv_bytes, eqB_str, Bool.true_and]
  refine guardK_split (fun k2 => ?_) (fun k2 => ?_)
  · simp only [go_sem, reduceAdd, reduceSub, reduceMul, reduceLT, reduceLeDiff, ↓reduceIte, reduceCtorEq, reduceEqDiff, reduceToNat, Int.reduceLT, reduceLE, reduceEq, zeros_len, d1, d2, d3, f1, f2, f3, k2, sh_tree, nrm_tree, Bool.true_and, true_and, and_true]
    refine callK_pure (args' := [.agg [treeD x.id, treeD x.ev], .agg [treeD y.id, treeD y.ev]]) (ref06_same_any x.id x.ev y.id y.ev f7 f8) (by first | rfl | (simp only [go_sem, erase_tree, pure_tree]; done)) (by first | (simp only [go_sem, erase_tree, pure_tree]; done) | (simp [pureL, pureD]; done)) ?_
    cases k3 : (sameT x.id y.id && sameT x.ev y.ev) with
    | false =>
      simp only [go_sem, reduceAdd, reduceSub, reduceMul, reduceLT, reduceLeDiff, ↓reduceIte, reduceCtorEq, reduceEqDiff, reduceToNat, Int.reduceLT, reduceLE, reduceEq, Bool.false_and]
      exact ⟨_, rfl⟩
    | true =>
      simp only [go_sem, reduceAdd, reduceSub, reduceMul, reduceLT, reduceLeDiff, ↓reduceIte, reduceCtorEq, reduceEqDiff, reduceToNat, Int.reduceLT, reduceLE, reduceEq, zeros_len, d1, d2, d3, f1, f2, f3, Bool.true_and]
      refine callK_pure (ref18_ints x.peers y.peers hp) (by first | rfl | (simp only [go_sem]; done)) (by first | (simp only [go_sem]; done) | (simp [pureL, pureD]; done)) ?_
      simp only [go_sem, reduceAdd, reduceSub, reduceMul, reduceLT, reduceLeDiff, ↓reduceIte, reduceCtorEq, reduceEqDiff, reduceToNat, Int.reduceLT, reduceLE, reduceEq]
      exact ⟨_, rfl⟩
  · simp only [go_sem, reduceAdd, reduceSub, reduceMul, reduceLT, reduceLeDiff, ↓reduceIte, reduceCtorEq, reduceEqDiff, reduceToNat, Int.reduceLT, reduceLE, reduceEq, k2, Bool.false_and]
    exact ⟨_, rfl⟩
set_option maxRecDepth 8000 in
set_option maxHeartbeats 2000000 in
theorem ref26_checkO (y : GMsg) (hg : GOk y) (ho : y.tx.ops.length < 4000000000) (hk : ¬ (7 ≤ y.kind ∧ y.kind ≤ 13)) : PSpec Tryz.prog CT 23 [rawG y] (fun r => ∃ b, r = .lit (.bool b)) := by
  obtain ⟨d1, d2, d3, _⟩ := id hg
  obtain ⟨x, bf, hf, hx, hxp, hxo⟩ := ref26_fieldsO y hg hk
  obtain ⟨f1, f2, f3, _⟩ := id hx
  refine PSpec.of hT Tryz.func23 rfl (by kernel_rfl) rfl rfl ?_
  simp only [Tryz.f23, go_sem, reduceAdd, reduceSub, reduceMul, reduceLT, reduceLeDiff, ↓reduceIte, reduceCtorEq, reduceEqDiff, reduceToNat, Int.reduceLT, reduceLE, reduceEq, zeros_len, d1, d2, d3, sh_tree, true_and]
  refine callK_pure (ref_peer y.from_) (by first | rfl | (simp only [go_sem]; done)) (by first | (simp only [go_sem]; done) | (simp [pureL, pureD]; done)) ?_
  cases h1 : vpeer y.from_ with
  | false =>
    simp only [go_sem, reduceAdd, reduceSub, reduceMul, reduceLT, reduceLeDiff, ↓reduceIte, reduceCtorEq, reduceEqDiff, reduceToNat, Int.reduceLT, reduceLE, reduceEq, Bool.not_false, Bool.false_and]
    exact ⟨_, rfl⟩
  | true =>
  simp only [go_sem, reduceAdd, reduceSub, reduceMul, reduceLT, reduceLeDiff, ↓reduceIte, reduceCtorEq, reduceEqDiff, reduceToNat, Int.reduceLT, reduceLE, reduceEq, zeros_len, Bool.not_true, Bool.true_and]
  refine callK_pure (ref_peer y.to) (by first | rfl | (simp only [go_sem]; done)) (by first | (simp only [go_sem]; done) | (simp [pureL, pureD]; done)) ?_
  cases h2 : vpeer y.to with
  | false =>
    simp only [go_sem, reduceAdd, reduceSub, reduceMul, reduceLT, reduceLeDiff, ↓reduceIte, reduceCtorEq, reduceEqDiff, reduceToNat, Int.reduceLT, reduceLE, reduceEq, Bool.not_false, Bool.false_and, Bool.true_and]
    exact ⟨_, rfl⟩
  | true =>
  simp only [go_sem, reduceAdd, reduceSub, reduceMul, reduceLT, reduceLeDiff, ↓reduceIte, reduceCtorEq, reduceEqDiff, reduceToNat, Int.reduceLT, reduceLE, reduceEq, zeros_len, Bool.not_true, Bool.true_and]
  refine condK_split (fun h3 => ?_) (fun h3 => ?_)
  · simp only [go_sem, reduceAdd, reduceSub, reduceMul, reduceLT, reduceLeDiff, ↓reduceIte, reduceCtorEq, reduceEqDiff, reduceToNat, Int.reduceLT, reduceLE, reduceEq, h3, Bool.not_true, Bool.false_and, Bool.true_and]
    exact ⟨_, rfl⟩
  simp only [go_sem, reduceAdd, reduceSub, reduceMul, reduceLT, reduceLeDiff, ↓reduceIte, reduceCtorEq, reduceEqDiff, reduceToNat, Int.reduceLT, reduceLE, reduceEq, zeros_len, h3, Bool.not_false, d1, d2, d3, sh_tree, nrm_tree, true_and]
  refine callK_pure hf (congrArg (fun z => [z]) (erase_rawG y)) (pure_rawG y) ?_
  simp only [go_sem, reduceAdd, reduceSub, reduceMul, reduceLT, reduceLeDiff, ↓reduceIte, reduceCtorEq, reduceEqDiff, reduceToNat, Int.reduceLT, reduceLE, reduceEq, zeros_len, d1, d2, d3, f1, f2, f3, sh_tree, nrm_tree, true_and]
  cases bf with
  | false =>
    simp only [go_sem, reduceAdd, reduceSub, reduceMul, reduceLT, reduceLeDiff, ↓reduceIte, reduceCtorEq, reduceEqDiff, reduceToNat, Int.reduceLT, reduceLE, reduceEq, Bool.false_and, Bool.true_and, Bool.not_false]
    exact ⟨_, rfl⟩
  | true =>
  simp only [go_sem, reduceAdd, reduceSub, reduceMul, reduceLT, reduceLeDiff, ↓reduceIte, reduceCtorEq, reduceEqDiff, reduceToNat, Int.reduceLT, reduceLE, reduceEq, zeros_len, d1, d2, d3, f1, f2, f3, sh_tree, nrm_tree, true_and]
  refine callK_rel (args' := [rawG x, rawG y]) (ref26_sameA x y hx hg (by omega) (by omega)) (by rw [List.map_cons, List.map_cons, List.map_nil, erase_rawG, erase_rawG]) ⟨(pure_rawG x).1, pure_rawG y⟩ ?_
  rintro r ⟨b, rfl⟩
  simp only [go_sem, reduceAdd, reduceSub, reduceMul, reduceLT, reduceLeDiff, ↓reduceIte, reduceCtorEq, reduceEqDiff, reduceToNat, Int.reduceLT, reduceLE, reduceEq]
  exact ⟨_, rfl⟩
end Go.Ab
