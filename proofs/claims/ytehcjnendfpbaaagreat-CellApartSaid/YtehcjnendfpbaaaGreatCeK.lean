/- Two ops that have not seen each other: the law. Conditions: none. -/
import Derived.Test.YtehcjnendfpbaaaGreatCeI
import Derived.Test.YtehcjnendfpbaaaGreatOsQ
open Nat (reduceAdd reduceSub reduceMul reduceLT reduceLeDiff reduceEqDiff)
open Int (reduceToNat reduceLE reduceEq)
set_option linter.unusedSimpArgs false
namespace Go.Ab
open Go.Proofs

theorem few_smb {c : CellR} (h : fewC c = true) : SmB 60 30 c := by
  obtain ⟨h1, h2, h3, _⟩ := few_len h
  exact ⟨by omega, by omega, by omega, h2, by omega, h3⟩
theorem same12 {a b : Nat} {c : CellR} (h : SmB a b c) (ha : a < 10000) (hb : b < 10000) : PSpec Tryz.prog CT 13 [cellD c, cellD c] (· = .bool true) :=
  ref_same c (by have := h.am; omega) (by have := h.wr; omega) (by have := h.me; omega) (by have := h.el; omega) (fun m hm => by have := h.mm m hm; omega) (fun e he => by have := h.eg e he; omega)
def marks12 : List (List Nat) := [[0, 1, 2, 3, 4, 5, 6, 7, 8, 9], [0, 1, 2, 3, 4, 5, 7, 6, 8, 9], [0, 1, 2, 3, 6, 7, 8, 4, 5, 9], [0, 1, 2, 3, 7, 6, 8, 4, 5, 9], [0, 1, 2, 6, 7, 8, 3, 4, 5, 9], [0, 1, 2, 7, 6, 8, 3, 4, 5, 9]]
set_option maxRecDepth 8000 in
set_option maxHeartbeats 8000000 in
theorem law_cellapart (c : CellR) (t u : TxR) (o p : OpR) (hc : c.wide) (hd : t.deps.length = 13) (hu : u.deps.length = 13) : PSpec Tryz.prog CT 3 [cellD c, txD t, txD u, opD o, opD p] (· = .bool true) := by
  refine PSpec.of hT Tryz.func3 rfl (by kernel_rfl) rfl rfl ?_
  simp only [Tryz.f3, go_sem, reduceAdd, reduceSub, reduceMul, reduceLT, reduceLeDiff, ↓reduceIte, reduceCtorEq, reduceEqDiff, reduceToNat, Int.reduceLT, reduceLE, reduceEq, hd, hu]
  cases h1 : fewC c with
  | false =>
    refine callK_pure (ref_few08 c hc.ok) (by simp only [go_sem, h1, hd, hu]) (by simp only [go_sem, h1, hd, hu]) ?_; simp only [go_sem, reduceAdd, reduceSub, reduceMul, reduceLT, reduceLeDiff, ↓reduceIte, reduceCtorEq, reduceEqDiff, reduceToNat, Int.reduceLT, reduceLE, reduceEq, h1, hd, hu]
    refine callK_pure (heads12) (by simp only [go_sem, h1]) (by simp only [go_sem, h1]) ?_; simp only [go_sem, reduceAdd, reduceSub, reduceMul, reduceLT, reduceLeDiff, ↓reduceIte, reduceCtorEq, reduceEqDiff, reduceToNat, Int.reduceLT, reduceLE, reduceEq, h1]
  | true =>
  refine callK_pure (ref_few08 c hc.ok) (by simp only [go_sem, h1, hd, hu]) (by simp only [go_sem, h1, hd, hu]) ?_; simp only [go_sem, reduceAdd, reduceSub, reduceMul, reduceLT, reduceLeDiff, ↓reduceIte, reduceCtorEq, reduceEqDiff, reduceToNat, Int.reduceLT, reduceLE, reduceEq, h1, hd, hu]
  have sm := few_smb h1
  have sm1 := few_sm12 h1
  cases h2 : checkW c with
  | false =>
    refine callK_pure (ref12_check c sm1) (by simp only [go_sem, h2, hd, hu]) (by simp only [go_sem, h2, hd, hu]) ?_; simp only [go_sem, reduceAdd, reduceSub, reduceMul, reduceLT, reduceLeDiff, ↓reduceIte, reduceCtorEq, reduceEqDiff, reduceToNat, Int.reduceLT, reduceLE, reduceEq, h2, hd, hu]
    refine callK_pure (heads12) (by simp only [go_sem, h1]) (by simp only [go_sem, h1]) ?_; simp only [go_sem, reduceAdd, reduceSub, reduceMul, reduceLT, reduceLeDiff, ↓reduceIte, reduceCtorEq, reduceEqDiff, reduceToNat, Int.reduceLT, reduceLE, reduceEq, h1]
  | true =>
  refine callK_pure (ref12_check c sm1) (by simp only [go_sem, h2, hd, hu]) (by simp only [go_sem, h2, hd, hu]) ?_; simp only [go_sem, reduceAdd, reduceSub, reduceMul, reduceLT, reduceLeDiff, ↓reduceIte, reduceCtorEq, reduceEqDiff, reduceToNat, Int.reduceLT, reduceLE, reduceEq, h2, hd, hu]
  cases h6 : smallTx t with
  | false =>
    refine callK_pure (ref_small t hd) (by simp only [go_sem, h6, hd, hu]) (by simp only [go_sem, h6, hd, hu]) ?_; simp only [go_sem, reduceAdd, reduceSub, reduceMul, reduceLT, reduceLeDiff, ↓reduceIte, reduceCtorEq, reduceEqDiff, reduceToNat, Int.reduceLT, reduceLE, reduceEq, h6, hd, hu]
    refine callK_pure (heads12) (by simp only [go_sem, h1]) (by simp only [go_sem, h1]) ?_; simp only [go_sem, reduceAdd, reduceSub, reduceMul, reduceLT, reduceLeDiff, ↓reduceIte, reduceCtorEq, reduceEqDiff, reduceToNat, Int.reduceLT, reduceLE, reduceEq, h1]
  | true =>
  refine callK_pure (ref_small t hd) (by simp only [go_sem, h6, hd, hu]) (by simp only [go_sem, h6, hd, hu]) ?_; simp only [go_sem, reduceAdd, reduceSub, reduceMul, reduceLT, reduceLeDiff, ↓reduceIte, reduceCtorEq, reduceEqDiff, reduceToNat, Int.reduceLT, reduceLE, reduceEq, h6, hd, hu]
  cases h7 : smallTx u with
  | false =>
    refine callK_pure (ref_small u hu) (by simp only [go_sem, h7, hd, hu]) (by simp only [go_sem, h7, hd, hu]) ?_; simp only [go_sem, reduceAdd, reduceSub, reduceMul, reduceLT, reduceLeDiff, ↓reduceIte, reduceCtorEq, reduceEqDiff, reduceToNat, Int.reduceLT, reduceLE, reduceEq, h7, hd, hu]
    refine callK_pure (heads12) (by simp only [go_sem, h1]) (by simp only [go_sem, h1]) ?_; simp only [go_sem, reduceAdd, reduceSub, reduceMul, reduceLT, reduceLeDiff, ↓reduceIte, reduceCtorEq, reduceEqDiff, reduceToNat, Int.reduceLT, reduceLE, reduceEq, h1]
  | true =>
  refine callK_pure (ref_small u hu) (by simp only [go_sem, h7, hd, hu, eqB_cons, eqB_nil, eqB_int, Bool.and_true]) (by simp only [go_sem, h7, hd, hu, eqB_cons, eqB_nil, eqB_int, Bool.and_true]) ?_; simp only [go_sem, reduceAdd, reduceSub, reduceMul, reduceLT, reduceLeDiff, ↓reduceIte, reduceCtorEq, reduceEqDiff, reduceToNat, Int.reduceLT, reduceLE, reduceEq, h7, hd, hu, eqB_cons, eqB_nil, eqB_int, Bool.and_true]
  refine guardK_split (fun h3 => ?_) (fun h3 => ?_)
  · simp only [go_sem, reduceAdd, reduceSub, reduceMul, reduceLT, reduceLeDiff, ↓reduceIte, reduceCtorEq, reduceEqDiff, reduceToNat, Int.reduceLT, reduceLE, reduceEq, hd, hu, h3]
    refine callK_pure (heads12) (by simp only [go_sem, h1]) (by simp only [go_sem, h1]) ?_; simp only [go_sem, reduceAdd, reduceSub, reduceMul, reduceLT, reduceLeDiff, ↓reduceIte, reduceCtorEq, reduceEqDiff, reduceToNat, Int.reduceLT, reduceLE, reduceEq, h1]
  simp only [go_sem, reduceAdd, reduceSub, reduceMul, reduceLT, reduceLeDiff, ↓reduceIte, reduceCtorEq, reduceEqDiff, reduceToNat, Int.reduceLT, reduceLE, reduceEq, hd, hu, h3]
  refine guardK_split (fun h4 => ?_) (fun h4 => ?_)
  · simp only [go_sem, reduceAdd, reduceSub, reduceMul, reduceLT, reduceLeDiff, ↓reduceIte, reduceCtorEq, reduceEqDiff, reduceToNat, Int.reduceLT, reduceLE, reduceEq, hd, hu, h3, h4]
    refine callK_pure (heads12) (by simp only [go_sem, h1]) (by simp only [go_sem, h1]) ?_; simp only [go_sem, reduceAdd, reduceSub, reduceMul, reduceLT, reduceLeDiff, ↓reduceIte, reduceCtorEq, reduceEqDiff, reduceToNat, Int.reduceLT, reduceLE, reduceEq, h1]
  simp only [go_sem, reduceAdd, reduceSub, reduceMul, reduceLT, reduceLeDiff, ↓reduceIte, reduceCtorEq, reduceEqDiff, reduceToNat, Int.reduceLT, reduceLE, reduceEq, hd, hu, h3, h4]
  refine condK_split (fun h5 => ?_) (fun h5 => ?_)
  · simp only [go_sem, reduceAdd, reduceSub, reduceMul, reduceLT, reduceLeDiff, ↓reduceIte, reduceCtorEq, reduceEqDiff, reduceToNat, Int.reduceLT, reduceLE, reduceEq, hd, hu, h3, h4, h5]
    refine callK_pure (heads12) (by simp only [go_sem, h1]) (by simp only [go_sem, h1]) ?_; simp only [go_sem, reduceAdd, reduceSub, reduceMul, reduceLT, reduceLeDiff, ↓reduceIte, reduceCtorEq, reduceEqDiff, reduceToNat, Int.reduceLT, reduceLE, reduceEq, h1]
  simp only [go_sem, reduceAdd, reduceSub, reduceMul, reduceLT, reduceLeDiff, ↓reduceIte, reduceCtorEq, reduceEqDiff, reduceToNat, Int.reduceLT, reduceLE, reduceEq, hd, hu, h3, h4, h5]
  have hne : ¬ (t.peer = u.peer ∧ t.seq = u.seq) := by
    intro h
    rw [decide_eq_true h.1, decide_eq_true h.2] at h3
    exact absurd h3 (by simp)
  refine .inr ?_
  apply drawN_to [3, 4, 8] marks12 (by kernel_rfl)
  · intro Q' hA hB ord ho
    simp only [marks12, List.mem_cons, List.not_mem_nil, or_false] at ho
    rcases ho with rfl | rfl | rfl | rfl | rfl | rfl
    · simp only [go_sem, reduceAdd, reduceSub, reduceMul, reduceLT, reduceLeDiff, ↓reduceIte, reduceCtorEq, reduceEqDiff, reduceToNat, Int.reduceLT, reduceLE, reduceEq, hd, hu]; exact hA
    · simp only [go_sem, reduceAdd, reduceSub, reduceMul, reduceLT, reduceLeDiff, ↓reduceIte, reduceCtorEq, reduceEqDiff, reduceToNat, Int.reduceLT, reduceLE, reduceEq, hd, hu]; exact hB
    · simp only [go_sem, reduceAdd, reduceSub, reduceMul, reduceLT, reduceLeDiff, ↓reduceIte, reduceCtorEq, reduceEqDiff, reduceToNat, Int.reduceLT, reduceLE, reduceEq, hd, hu]; exact hA
    · simp only [go_sem, reduceAdd, reduceSub, reduceMul, reduceLT, reduceLeDiff, ↓reduceIte, reduceCtorEq, reduceEqDiff, reduceToNat, Int.reduceLT, reduceLE, reduceEq, hd, hu]; exact hB
    · simp only [go_sem, reduceAdd, reduceSub, reduceMul, reduceLT, reduceLeDiff, ↓reduceIte, reduceCtorEq, reduceEqDiff, reduceToNat, Int.reduceLT, reduceLE, reduceEq, hd, hu]; exact hA
    · simp only [go_sem, reduceAdd, reduceSub, reduceMul, reduceLT, reduceLeDiff, ↓reduceIte, reduceCtorEq, reduceEqDiff, reduceToNat, Int.reduceLT, reduceLE, reduceEq, hd, hu]; exact hB
  all_goals
    simp only [go_sem, reduceAdd, reduceSub, reduceMul, reduceLT, reduceLeDiff, ↓reduceIte, reduceCtorEq, reduceEqDiff, reduceToNat, Int.reduceLT, reduceLE, reduceEq, hd, hu]
    cases h8 : before t.peer t.seq 1 u 1 with
    | true =>
      refine callK_pure (ref_before t.peer t.seq 1 u 1 hu) (by simp only [go_sem, h8, hd, hu]) (by simp only [go_sem, h8, hd, hu]) ?_; simp only [go_sem, reduceAdd, reduceSub, reduceMul, reduceLT, reduceLeDiff, ↓reduceIte, reduceCtorEq, reduceEqDiff, reduceToNat, Int.reduceLT, reduceLE, reduceEq, h8, hd, hu]
      refine callK_pure (heads12) (by simp only [go_sem, h1]) (by simp only [go_sem, h1]) ?_; simp only [go_sem, reduceAdd, reduceSub, reduceMul, reduceLT, reduceLeDiff, ↓reduceIte, reduceCtorEq, reduceEqDiff, reduceToNat, Int.reduceLT, reduceLE, reduceEq, h1]
    | false =>
    refine callK_pure (ref_before t.peer t.seq 1 u 1 hu) (by simp only [go_sem, h8, hd, hu]) (by simp only [go_sem, h8, hd, hu]) ?_; simp only [go_sem, reduceAdd, reduceSub, reduceMul, reduceLT, reduceLeDiff, ↓reduceIte, reduceCtorEq, reduceEqDiff, reduceToNat, Int.reduceLT, reduceLE, reduceEq, h8, hd, hu]
    cases h9 : before u.peer u.seq 1 t 1 with
    | true =>
      refine callK_pure (ref_before u.peer u.seq 1 t 1 hd) (by simp only [go_sem, h9, hd, hu]) (by simp only [go_sem, h9, hd, hu]) ?_; simp only [go_sem, reduceAdd, reduceSub, reduceMul, reduceLT, reduceLeDiff, ↓reduceIte, reduceCtorEq, reduceEqDiff, reduceToNat, Int.reduceLT, reduceLE, reduceEq, h9, hd, hu]
      refine callK_pure (heads12) (by simp only [go_sem, h1]) (by simp only [go_sem, h1]) ?_; simp only [go_sem, reduceAdd, reduceSub, reduceMul, reduceLT, reduceLeDiff, ↓reduceIte, reduceCtorEq, reduceEqDiff, reduceToNat, Int.reduceLT, reduceLE, reduceEq, h1]
    | false =>
    refine callK_pure (ref_before u.peer u.seq 1 t 1 hd) (by simp only [go_sem, h9, hd, hu, eqB_mk]) (by simp only [go_sem, h9, hd, hu, eqB_mk]) ?_; simp only [go_sem, reduceAdd, reduceSub, reduceMul, reduceLT, reduceLeDiff, ↓reduceIte, reduceCtorEq, reduceEqDiff, reduceToNat, Int.reduceLT, reduceLE, reduceEq, h9, hd, hu, eqB_mk]
    refine guardK_split (fun h10 => ?_) (fun h10 => ?_)
    · simp only [go_sem, reduceAdd, reduceSub, reduceMul, reduceLT, reduceLeDiff, ↓reduceIte, reduceCtorEq, reduceEqDiff, reduceToNat, Int.reduceLT, reduceLE, reduceEq, hd, hu, h10, eqB_mk]
      refine callK_pure (heads12) (by simp only [go_sem, h1]) (by simp only [go_sem, h1]) ?_; simp only [go_sem, reduceAdd, reduceSub, reduceMul, reduceLT, reduceLeDiff, ↓reduceIte, reduceCtorEq, reduceEqDiff, reduceToNat, Int.reduceLT, reduceLE, reduceEq, h1]
    simp only [go_sem, reduceAdd, reduceSub, reduceMul, reduceLT, reduceLeDiff, ↓reduceIte, reduceCtorEq, reduceEqDiff, reduceToNat, Int.reduceLT, reduceLE, reduceEq, hd, hu, h10, eqB_mk]
    refine guardK_split (fun h11 => ?_) (fun h11 => ?_)
    · simp only [go_sem, reduceAdd, reduceSub, reduceMul, reduceLT, reduceLeDiff, ↓reduceIte, reduceCtorEq, reduceEqDiff, reduceToNat, Int.reduceLT, reduceLE, reduceEq, hd, hu, h11]
      refine callK_pure (heads12) (by simp only [go_sem, h1]) (by simp only [go_sem, h1]) ?_; simp only [go_sem, reduceAdd, reduceSub, reduceMul, reduceLT, reduceLeDiff, ↓reduceIte, reduceCtorEq, reduceEqDiff, reduceToNat, Int.reduceLT, reduceLE, reduceEq, h1]
    simp only [go_sem, reduceAdd, reduceSub, reduceMul, reduceLT, reduceLeDiff, ↓reduceIte, reduceCtorEq, reduceEqDiff, reduceToNat, Int.reduceLT, reduceLE, reduceEq, hd, hu, h11]
    cases h12 : thereC c ⟨t.peer, t.seq, 1⟩ with
    | true =>
      refine callK_pure (law12_there c ⟨t.peer, t.seq, 1⟩ sm1) (by simp only [go_sem, h12, hd, hu]) (by simp only [go_sem, h12, hd, hu]) ?_; simp only [go_sem, reduceAdd, reduceSub, reduceMul, reduceLT, reduceLeDiff, ↓reduceIte, reduceCtorEq, reduceEqDiff, reduceToNat, Int.reduceLT, reduceLE, reduceEq, h12, hd, hu]
      refine callK_pure (heads12) (by simp only [go_sem, h1]) (by simp only [go_sem, h1]) ?_; simp only [go_sem, reduceAdd, reduceSub, reduceMul, reduceLT, reduceLeDiff, ↓reduceIte, reduceCtorEq, reduceEqDiff, reduceToNat, Int.reduceLT, reduceLE, reduceEq, h1]
    | false =>
    refine callK_pure (law12_there c ⟨t.peer, t.seq, 1⟩ sm1) (by simp only [go_sem, h12, hd, hu]) (by simp only [go_sem, h12, hd, hu]) ?_; simp only [go_sem, reduceAdd, reduceSub, reduceMul, reduceLT, reduceLeDiff, ↓reduceIte, reduceCtorEq, reduceEqDiff, reduceToNat, Int.reduceLT, reduceLE, reduceEq, h12, hd, hu]
    cases h13 : thereC c ⟨u.peer, u.seq, 1⟩ with
    | true =>
      refine callK_pure (law12_there c ⟨u.peer, u.seq, 1⟩ sm1) (by simp only [go_sem, h13, hd, hu]) (by simp only [go_sem, h13, hd, hu]) ?_; simp only [go_sem, reduceAdd, reduceSub, reduceMul, reduceLT, reduceLeDiff, ↓reduceIte, reduceCtorEq, reduceEqDiff, reduceToNat, Int.reduceLT, reduceLE, reduceEq, h13, hd, hu]
      refine callK_pure (heads12) (by simp only [go_sem, h1]) (by simp only [go_sem, h1]) ?_; simp only [go_sem, reduceAdd, reduceSub, reduceMul, reduceLT, reduceLeDiff, ↓reduceIte, reduceCtorEq, reduceEqDiff, reduceToNat, Int.reduceLT, reduceLE, reduceEq, h1]
    | false =>
    refine callK_pure (law12_there c ⟨u.peer, u.seq, 1⟩ sm1) (by simp only [go_sem, h13, hd, hu]) (by simp only [go_sem, h13, hd, hu]) ?_; simp only [go_sem, reduceAdd, reduceSub, reduceMul, reduceLT, reduceLeDiff, ↓reduceIte, reduceCtorEq, reduceEqDiff, reduceToNat, Int.reduceLT, reduceLE, reduceEq, h13, hd, hu]
    have e := doC_apart hne h8 h9 (of_decide_eq_false h10) (of_decide_eq_false h11) h12 h13
    have sa := doC_sm sm t 1 o
    have sb := doC_sm sm u 1 p
    have sb2 := doC_sm sb t 1 o
    refine .inl ⟨by kernel_rfl, ?_⟩
    try simp only [go_sem, reduceAdd, reduceSub, reduceMul, reduceLT, reduceLeDiff, ↓reduceIte, reduceCtorEq, reduceEqDiff, reduceToNat, Int.reduceLT, reduceLE, reduceEq, hd, hu]
    refine callD_pure (cell_do c t 1 o hd sm1) (by simp only [go_sem, hd, hu]) (by simp only [go_sem, hd, hu]) ?_; simp only [go_sem, reduceAdd, reduceSub, reduceMul, reduceLT, reduceLeDiff, ↓reduceIte, reduceCtorEq, reduceEqDiff, reduceToNat, Int.reduceLT, reduceLE, reduceEq, hd, hu]
    refine callD_pure (cell_do (doC c t 1 o) u 1 p hu (sa.sm (by omega) (by omega))) (by simp only [go_sem, hd, hu]) (by simp only [go_sem, hd, hu]) ?_; simp only [go_sem, reduceAdd, reduceSub, reduceMul, reduceLT, reduceLeDiff, ↓reduceIte, reduceCtorEq, reduceEqDiff, reduceToNat, Int.reduceLT, reduceLE, reduceEq, hd, hu]
    refine callD_pure (cell_do c u 1 p hu sm1) (by simp only [go_sem, hd, hu]) (by simp only [go_sem, hd, hu]) ?_; simp only [go_sem, reduceAdd, reduceSub, reduceMul, reduceLT, reduceLeDiff, ↓reduceIte, reduceCtorEq, reduceEqDiff, reduceToNat, Int.reduceLT, reduceLE, reduceEq, hd, hu]
    refine callD_pure (cell_do (doC c u 1 p) t 1 o hd (sb.sm (by omega) (by omega))) (by simp only [go_sem, hd, hu]) (by simp only [go_sem, hd, hu]) ?_; simp only [go_sem, reduceAdd, reduceSub, reduceMul, reduceLT, reduceLeDiff, ↓reduceIte, reduceCtorEq, reduceEqDiff, reduceToNat, Int.reduceLT, reduceLE, reduceEq, hd, hu]
    rw [e]
    generalize doC (doC c u 1 p) t 1 o = a at *
    refine callD_pure (same12 sb2 (by omega) (by omega)) (by simp only [go_sem, hd, hu]) (by simp only [go_sem, hd, hu]) ?_; simp only [go_sem, reduceAdd, reduceSub, reduceMul, reduceLT, reduceLeDiff, ↓reduceIte, reduceCtorEq, reduceEqDiff, reduceToNat, Int.reduceLT, reduceLE, reduceEq, hd, hu]
    refine callD_pure (heads12) (by simp only [go_sem, hd, hu]) (by simp only [go_sem, hd, hu]) ?_; simp only [go_sem, reduceAdd, reduceSub, reduceMul, reduceLT, reduceLeDiff, ↓reduceIte, reduceCtorEq, reduceEqDiff, reduceToNat, Int.reduceLT, reduceLE, reduceEq, hd, hu]
end Go.Ab
