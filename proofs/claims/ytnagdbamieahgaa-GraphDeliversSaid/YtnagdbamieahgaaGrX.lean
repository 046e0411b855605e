/- Graphs of transactions: what must come at any rate. Conditions: none. -/
import Derived.Test.YtnagdbamieahgaaGrW
import Derived.Test.YtnagdbamieahgaaTxI
import Derived.Test.YtnagdbamieahgaaAbDp
set_option linter.unusedSimpArgs false
namespace Go.Ab
open Go.Proofs

def o35 : OpR := ⟨1, ⟨#[97]⟩, ⟨#[]⟩, 0, 1, 1, ⟨#[]⟩, 0, 0, 0⟩
def t35 : TxR := ⟨1, 1, zeros 13, 1, [o35]⟩
def u35 : TxR := ⟨2, 1, ((zeros 13).set 0 0).set 1 1, 2, [o35]⟩
def v35 : TxR := ⟨3, 1, zeros 13, 1, [o35]⟩
def l35 : List TxR := [u35, t35, v35]
def m35 : List TxR := [t35, t35]
set_option maxRecDepth 8000 in
theorem l35_ok : TxsOk l35 := by
  intro t ht
  simp only [l35, List.mem_cons, List.not_mem_nil, or_false] at ht
  rcases ht with rfl | rfl | rfl <;> exact ⟨by decide +kernel, by decide⟩
theorem m35_ok : TxsOk m35 := by
  intro t ht
  simp only [m35, List.mem_cons, List.not_mem_nil, or_false] at ht
  rcases ht with rfl | rfl <;> exact ⟨by decide +kernel, by decide⟩
theorem s35 : sortGG l35 = some [1, 0, 2] := by decide +kernel
theorem n35 : sortGG m35 = none := by decide +kernel
theorem c35 : checkG l35 = true := by decide +kernel
theorem p35 : pastG l35 0 = [1] := by decide +kernel
theorem a35 : aheadG l35 1 0 = true := by decide +kernel
theorem b35 : aheadG l35 0 1 = false := by decide +kernel
theorem ap35 : apartG l35 0 2 = true := by decide +kernel
theorem h35 : headsG l35 = [0, 2] := by decide +kernel
theorem d35 : depthG l35 = 2 := by decide +kernel
set_option maxRecDepth 8000 in
set_option maxHeartbeats 4000000 in
theorem heads35 : PSpec Try.prog CT 13 [] (· = .bool true) := by
  refine ASpec.of hT Try.func13 rfl (by kernel_rfl) rfl rfl ?_
  simp only [Try.f13, go_sem, Nat.reduceAdd, Nat.reduceSub, Nat.reduceMul, Nat.reduceLT, Nat.reduceLeDiff, ↓reduceIte, reduceCtorEq, Nat.reduceEqDiff, Int.reduceToNat, Int.reduceLT, Int.reduceLE, Int.reduceEq, beq_self_eq_true, noHeap]
  refine callK_deep (args' := [txsD l35]) (graph_sort l35 l35_ok (by decide)) (by kernel_rfl) (by simp only [go_sem, Nat.reduceAdd, Nat.reduceSub, Nat.reduceMul, Nat.reduceLT, Nat.reduceLeDiff, ↓reduceIte, reduceCtorEq, Nat.reduceEqDiff, Int.reduceToNat, Int.reduceLT, Int.reduceLE, Int.reduceEq, beq_self_eq_true]) ?_
  simp only [go_sem, Nat.reduceAdd, Nat.reduceSub, Nat.reduceMul, Nat.reduceLT, Nat.reduceLeDiff, ↓reduceIte, reduceCtorEq, Nat.reduceEqDiff, Int.reduceToNat, Int.reduceLT, Int.reduceLE, Int.reduceEq, beq_self_eq_true, s35, n35, c35, p35, a35, b35, ap35, h35, d35, sortD, natI, Option.getD_some, Option.isSome_some, Option.getD_none, Option.isSome_none, Bool.not_false, Bool.not_true, List.map_cons, List.map_nil, Int.cast_ofNat_Int, Int.natCast_zero, Int.natCast_one]
  refine callK_deep (args' := [txsD m35]) (graph_sort m35 m35_ok (by decide)) (by kernel_rfl) (by simp only [go_sem, Nat.reduceAdd, Nat.reduceSub, Nat.reduceMul, Nat.reduceLT, Nat.reduceLeDiff, ↓reduceIte, reduceCtorEq, Nat.reduceEqDiff, Int.reduceToNat, Int.reduceLT, Int.reduceLE, Int.reduceEq, beq_self_eq_true]) ?_
  simp only [go_sem, Nat.reduceAdd, Nat.reduceSub, Nat.reduceMul, Nat.reduceLT, Nat.reduceLeDiff, ↓reduceIte, reduceCtorEq, Nat.reduceEqDiff, Int.reduceToNat, Int.reduceLT, Int.reduceLE, Int.reduceEq, beq_self_eq_true, s35, n35, c35, p35, a35, b35, ap35, h35, d35, sortD, natI, Option.getD_some, Option.isSome_some, Option.getD_none, Option.isSome_none, Bool.not_false, Bool.not_true, List.map_cons, List.map_nil, Int.cast_ofNat_Int, Int.natCast_zero, Int.natCast_one]
  refine callK_deep (args' := [txsD l35]) (graph_check l35 l35_ok (by decide)) (by kernel_rfl) (by simp only [go_sem, Nat.reduceAdd, Nat.reduceSub, Nat.reduceMul, Nat.reduceLT, Nat.reduceLeDiff, ↓reduceIte, reduceCtorEq, Nat.reduceEqDiff, Int.reduceToNat, Int.reduceLT, Int.reduceLE, Int.reduceEq, beq_self_eq_true]) ?_
  simp only [go_sem, Nat.reduceAdd, Nat.reduceSub, Nat.reduceMul, Nat.reduceLT, Nat.reduceLeDiff, ↓reduceIte, reduceCtorEq, Nat.reduceEqDiff, Int.reduceToNat, Int.reduceLT, Int.reduceLE, Int.reduceEq, beq_self_eq_true, s35, n35, c35, p35, a35, b35, ap35, h35, d35, sortD, natI, Option.getD_some, Option.isSome_some, Option.getD_none, Option.isSome_none, Bool.not_false, Bool.not_true, List.map_cons, List.map_nil, Int.cast_ofNat_Int, Int.natCast_zero, Int.natCast_one]
  refine callK_deep (args' := [txsD l35, .lit (.int .i64 0)]) (graph_past l35 l35_ok (by decide) 0) (by kernel_rfl) (by simp only [go_sem, Nat.reduceAdd, Nat.reduceSub, Nat.reduceMul, Nat.reduceLT, Nat.reduceLeDiff, ↓reduceIte, reduceCtorEq, Nat.reduceEqDiff, Int.reduceToNat, Int.reduceLT, Int.reduceLE, Int.reduceEq, beq_self_eq_true]) ?_
  simp only [go_sem, Nat.reduceAdd, Nat.reduceSub, Nat.reduceMul, Nat.reduceLT, Nat.reduceLeDiff, ↓reduceIte, reduceCtorEq, Nat.reduceEqDiff, Int.reduceToNat, Int.reduceLT, Int.reduceLE, Int.reduceEq, beq_self_eq_true, s35, n35, c35, p35, a35, b35, ap35, h35, d35, sortD, natI, Option.getD_some, Option.isSome_some, Option.getD_none, Option.isSome_none, Bool.not_false, Bool.not_true, List.map_cons, List.map_nil, Int.cast_ofNat_Int, Int.natCast_zero, Int.natCast_one]
  refine callK_deep (args' := [intsL [1] .no, intsL [1] .no]) (ref18_ints [1] [1] (by decide)) (by kernel_rfl) (by simp only [go_sem, Nat.reduceAdd, Nat.reduceSub, Nat.reduceMul, Nat.reduceLT, Nat.reduceLeDiff, ↓reduceIte, reduceCtorEq, Nat.reduceEqDiff, Int.reduceToNat, Int.reduceLT, Int.reduceLE, Int.reduceEq, beq_self_eq_true]) ?_
  simp only [go_sem, Nat.reduceAdd, Nat.reduceSub, Nat.reduceMul, Nat.reduceLT, Nat.reduceLeDiff, ↓reduceIte, reduceCtorEq, Nat.reduceEqDiff, Int.reduceToNat, Int.reduceLT, Int.reduceLE, Int.reduceEq, beq_self_eq_true, s35, n35, c35, p35, a35, b35, ap35, h35, d35, sortD, natI, Option.getD_some, Option.isSome_some, Option.getD_none, Option.isSome_none, Bool.not_false, Bool.not_true, List.map_cons, List.map_nil, Int.cast_ofNat_Int, Int.natCast_zero, Int.natCast_one]
  refine callK_deep (args' := [txsD l35, .lit (.int .i64 1), .lit (.int .i64 0)]) (graph_ahead l35 l35_ok (by decide) 1 0) (by kernel_rfl) (by simp only [go_sem, Nat.reduceAdd, Nat.reduceSub, Nat.reduceMul, Nat.reduceLT, Nat.reduceLeDiff, ↓reduceIte, reduceCtorEq, Nat.reduceEqDiff, Int.reduceToNat, Int.reduceLT, Int.reduceLE, Int.reduceEq, beq_self_eq_true]) ?_
  simp only [go_sem, Nat.reduceAdd, Nat.reduceSub, Nat.reduceMul, Nat.reduceLT, Nat.reduceLeDiff, ↓reduceIte, reduceCtorEq, Nat.reduceEqDiff, Int.reduceToNat, Int.reduceLT, Int.reduceLE, Int.reduceEq, beq_self_eq_true, s35, n35, c35, p35, a35, b35, ap35, h35, d35, sortD, natI, Option.getD_some, Option.isSome_some, Option.getD_none, Option.isSome_none, Bool.not_false, Bool.not_true, List.map_cons, List.map_nil, Int.cast_ofNat_Int, Int.natCast_zero, Int.natCast_one]
  refine callK_deep (args' := [txsD l35, .lit (.int .i64 0), .lit (.int .i64 1)]) (graph_ahead l35 l35_ok (by decide) 0 1) (by kernel_rfl) (by simp only [go_sem, Nat.reduceAdd, Nat.reduceSub, Nat.reduceMul, Nat.reduceLT, Nat.reduceLeDiff, ↓reduceIte, reduceCtorEq, Nat.reduceEqDiff, Int.reduceToNat, Int.reduceLT, Int.reduceLE, Int.reduceEq, beq_self_eq_true]) ?_
  simp only [go_sem, Nat.reduceAdd, Nat.reduceSub, Nat.reduceMul, Nat.reduceLT, Nat.reduceLeDiff, ↓reduceIte, reduceCtorEq, Nat.reduceEqDiff, Int.reduceToNat, Int.reduceLT, Int.reduceLE, Int.reduceEq, beq_self_eq_true, s35, n35, c35, p35, a35, b35, ap35, h35, d35, sortD, natI, Option.getD_some, Option.isSome_some, Option.getD_none, Option.isSome_none, Bool.not_false, Bool.not_true, List.map_cons, List.map_nil, Int.cast_ofNat_Int, Int.natCast_zero, Int.natCast_one]
  refine callK_deep (args' := [txsD l35, .lit (.int .i64 0), .lit (.int .i64 2)]) (graph_apart l35 l35_ok (by decide) 0 2) (by kernel_rfl) (by simp only [go_sem, Nat.reduceAdd, Nat.reduceSub, Nat.reduceMul, Nat.reduceLT, Nat.reduceLeDiff, ↓reduceIte, reduceCtorEq, Nat.reduceEqDiff, Int.reduceToNat, Int.reduceLT, Int.reduceLE, Int.reduceEq, beq_self_eq_true]) ?_
  simp only [go_sem, Nat.reduceAdd, Nat.reduceSub, Nat.reduceMul, Nat.reduceLT, Nat.reduceLeDiff, ↓reduceIte, reduceCtorEq, Nat.reduceEqDiff, Int.reduceToNat, Int.reduceLT, Int.reduceLE, Int.reduceEq, beq_self_eq_true, s35, n35, c35, p35, a35, b35, ap35, h35, d35, sortD, natI, Option.getD_some, Option.isSome_some, Option.getD_none, Option.isSome_none, Bool.not_false, Bool.not_true, List.map_cons, List.map_nil, Int.cast_ofNat_Int, Int.natCast_zero, Int.natCast_one]
  refine callK_deep (args' := [intsL [1, 0, 2] .no, intsL [1, 0, 2] .no]) (ref18_ints [1, 0, 2] [1, 0, 2] (by decide)) (by kernel_rfl) (by simp only [go_sem, Nat.reduceAdd, Nat.reduceSub, Nat.reduceMul, Nat.reduceLT, Nat.reduceLeDiff, ↓reduceIte, reduceCtorEq, Nat.reduceEqDiff, Int.reduceToNat, Int.reduceLT, Int.reduceLE, Int.reduceEq, beq_self_eq_true]) ?_
  simp only [go_sem, Nat.reduceAdd, Nat.reduceSub, Nat.reduceMul, Nat.reduceLT, Nat.reduceLeDiff, ↓reduceIte, reduceCtorEq, Nat.reduceEqDiff, Int.reduceToNat, Int.reduceLT, Int.reduceLE, Int.reduceEq, beq_self_eq_true, s35, n35, c35, p35, a35, b35, ap35, h35, d35, sortD, natI, Option.getD_some, Option.isSome_some, Option.getD_none, Option.isSome_none, Bool.not_false, Bool.not_true, List.map_cons, List.map_nil, Int.cast_ofNat_Int, Int.natCast_zero, Int.natCast_one]
  refine callK_deep (args' := [txsD l35]) (graph_heads l35 l35_ok (by decide)) (by kernel_rfl) (by simp only [go_sem, Nat.reduceAdd, Nat.reduceSub, Nat.reduceMul, Nat.reduceLT, Nat.reduceLeDiff, ↓reduceIte, reduceCtorEq, Nat.reduceEqDiff, Int.reduceToNat, Int.reduceLT, Int.reduceLE, Int.reduceEq, beq_self_eq_true]) ?_
  simp only [go_sem, Nat.reduceAdd, Nat.reduceSub, Nat.reduceMul, Nat.reduceLT, Nat.reduceLeDiff, ↓reduceIte, reduceCtorEq, Nat.reduceEqDiff, Int.reduceToNat, Int.reduceLT, Int.reduceLE, Int.reduceEq, beq_self_eq_true, s35, n35, c35, p35, a35, b35, ap35, h35, d35, sortD, natI, Option.getD_some, Option.isSome_some, Option.getD_none, Option.isSome_none, Bool.not_false, Bool.not_true, List.map_cons, List.map_nil, Int.cast_ofNat_Int, Int.natCast_zero, Int.natCast_one]
  refine callK_deep (args' := [intsL [0, 2] .no, intsL [0, 2] .no]) (ref18_ints [0, 2] [0, 2] (by decide)) (by kernel_rfl) (by simp only [go_sem, Nat.reduceAdd, Nat.reduceSub, Nat.reduceMul, Nat.reduceLT, Nat.reduceLeDiff, ↓reduceIte, reduceCtorEq, Nat.reduceEqDiff, Int.reduceToNat, Int.reduceLT, Int.reduceLE, Int.reduceEq, beq_self_eq_true]) ?_
  simp only [go_sem, Nat.reduceAdd, Nat.reduceSub, Nat.reduceMul, Nat.reduceLT, Nat.reduceLeDiff, ↓reduceIte, reduceCtorEq, Nat.reduceEqDiff, Int.reduceToNat, Int.reduceLT, Int.reduceLE, Int.reduceEq, beq_self_eq_true, s35, n35, c35, p35, a35, b35, ap35, h35, d35, sortD, natI, Option.getD_some, Option.isSome_some, Option.getD_none, Option.isSome_none, Bool.not_false, Bool.not_true, List.map_cons, List.map_nil, Int.cast_ofNat_Int, Int.natCast_zero, Int.natCast_one]
  refine callK_deep (args' := [txsD l35]) (graph_depth l35 l35_ok (by decide)) (by kernel_rfl) (by simp only [go_sem, Nat.reduceAdd, Nat.reduceSub, Nat.reduceMul, Nat.reduceLT, Nat.reduceLeDiff, ↓reduceIte, reduceCtorEq, Nat.reduceEqDiff, Int.reduceToNat, Int.reduceLT, Int.reduceLE, Int.reduceEq, beq_self_eq_true]) ?_
  simp only [go_sem, Nat.reduceAdd, Nat.reduceSub, Nat.reduceMul, Nat.reduceLT, Nat.reduceLeDiff, ↓reduceIte, reduceCtorEq, Nat.reduceEqDiff, Int.reduceToNat, Int.reduceLT, Int.reduceLE, Int.reduceEq, beq_self_eq_true, s35, n35, c35, p35, a35, b35, ap35, h35, d35, sortD, natI, Option.getD_some, Option.isSome_some, Option.getD_none, Option.isSome_none, Bool.not_false, Bool.not_true, List.map_cons, List.map_nil, Int.cast_ofNat_Int, Int.natCast_zero, Int.natCast_one]
end Go.Ab
set_option linter.unusedSimpArgs false
namespace Go.Ab
open Go.Proofs

theorem few_len (l : List TxR) (h : fewTx l = true) : l.length ≤ 40 := by
  simp only [fewTx, Bool.and_eq_true, decide_eq_true_eq] at h; exact h.1
theorem sort_some {l : List TxR} {o : List Nat} (h : sortGG l = some o) : checkG l = true ∧ OrderOk l o := by
  unfold sortGG at h
  split at h
  · rename_i h1; exact ⟨h1, orderOk h⟩
  · cases h
theorem sort_len (l : List TxR) : ((sortGG l).getD []).length ≤ l.length := by
  cases h : sortGG l with
  | none => simp
  | some o => rw [Option.getD_some, (sort_some h).2.len]; exact Nat.le_refl _
theorem heads_len (l : List TxR) : (headsG l).length ≤ l.length := by
  unfold headsG; split
  · have := List.length_filter_le (fun i => !seenG l i) (List.range l.length); simpa using this
  · simp
set_option maxRecDepth 8000 in
set_option maxHeartbeats 2000000 in
theorem law_grtells (l : List TxR) (ho : TxsOk l) (i k : Int) : PSpec Try.prog CT 3 [txsD l, .lit (.int .i64 i), .lit (.int .i64 k)] (· = .bool true) := by
  refine PSpec.of hT Try.func3 rfl (by kernel_rfl) rfl rfl ?_
  simp only [Try.f3, go_sem, Nat.reduceAdd, Nat.reduceSub, Nat.reduceMul, Nat.reduceLT, Nat.reduceLeDiff, ↓reduceIte, reduceCtorEq, Nat.reduceEqDiff, Int.reduceToNat, Int.reduceLT, Int.reduceLE, Int.reduceEq, beq_self_eq_true]
  cases h1 : fewTx l with
  | false =>
    refine callK_pure (ref_few l ho) (by simp only [go_sem, Nat.reduceAdd, Nat.reduceSub, Nat.reduceMul, Nat.reduceLT, Nat.reduceLeDiff, ↓reduceIte, reduceCtorEq, Nat.reduceEqDiff, Int.reduceToNat, Int.reduceLT, Int.reduceLE, Int.reduceEq, beq_self_eq_true, h1, Bool.not_false]) (by simp only [go_sem, Nat.reduceAdd, Nat.reduceSub, Nat.reduceMul, Nat.reduceLT, Nat.reduceLeDiff, ↓reduceIte, reduceCtorEq, Nat.reduceEqDiff, Int.reduceToNat, Int.reduceLT, Int.reduceLE, Int.reduceEq, beq_self_eq_true, h1, Bool.not_false]) ?_; simp only [go_sem, Nat.reduceAdd, Nat.reduceSub, Nat.reduceMul, Nat.reduceLT, Nat.reduceLeDiff, ↓reduceIte, reduceCtorEq, Nat.reduceEqDiff, Int.reduceToNat, Int.reduceLT, Int.reduceLE, Int.reduceEq, beq_self_eq_true, h1, Bool.not_false]
    refine callK_pure (heads35) (by simp only [go_sem, Nat.reduceAdd, Nat.reduceSub, Nat.reduceMul, Nat.reduceLT, Nat.reduceLeDiff, ↓reduceIte, reduceCtorEq, Nat.reduceEqDiff, Int.reduceToNat, Int.reduceLT, Int.reduceLE, Int.reduceEq, beq_self_eq_true, h1]) (by simp only [go_sem, Nat.reduceAdd, Nat.reduceSub, Nat.reduceMul, Nat.reduceLT, Nat.reduceLeDiff, ↓reduceIte, reduceCtorEq, Nat.reduceEqDiff, Int.reduceToNat, Int.reduceLT, Int.reduceLE, Int.reduceEq, beq_self_eq_true, h1]) ?_; simp only [go_sem, Nat.reduceAdd, Nat.reduceSub, Nat.reduceMul, Nat.reduceLT, Nat.reduceLeDiff, ↓reduceIte, reduceCtorEq, Nat.reduceEqDiff, Int.reduceToNat, Int.reduceLT, Int.reduceLE, Int.reduceEq, beq_self_eq_true, h1]
  | true =>
  have hl := few_len l h1
  have hl1 : l.length < 100000000 := by omega
  have hl2 : l.length < 4000000000 := by omega
  have hs := sort_len l
  have hh := heads_len l
  have hp := pastG_len l i
  refine callK_pure (ref_few l ho) (by simp only [go_sem, Nat.reduceAdd, Nat.reduceSub, Nat.reduceMul, Nat.reduceLT, Nat.reduceLeDiff, ↓reduceIte, reduceCtorEq, Nat.reduceEqDiff, Int.reduceToNat, Int.reduceLT, Int.reduceLE, Int.reduceEq, beq_self_eq_true, h1, Bool.not_true]) (by simp only [go_sem, Nat.reduceAdd, Nat.reduceSub, Nat.reduceMul, Nat.reduceLT, Nat.reduceLeDiff, ↓reduceIte, reduceCtorEq, Nat.reduceEqDiff, Int.reduceToNat, Int.reduceLT, Int.reduceLE, Int.reduceEq, beq_self_eq_true, h1, Bool.not_true]) ?_; simp only [go_sem, Nat.reduceAdd, Nat.reduceSub, Nat.reduceMul, Nat.reduceLT, Nat.reduceLeDiff, ↓reduceIte, reduceCtorEq, Nat.reduceEqDiff, Int.reduceToNat, Int.reduceLT, Int.reduceLE, Int.reduceEq, beq_self_eq_true, h1, Bool.not_true]
  refine callK_pure (graph_sort l ho hl1) (by simp only [go_sem, Nat.reduceAdd, Nat.reduceSub, Nat.reduceMul, Nat.reduceLT, Nat.reduceLeDiff, ↓reduceIte, reduceCtorEq, Nat.reduceEqDiff, Int.reduceToNat, Int.reduceLT, Int.reduceLE, Int.reduceEq, beq_self_eq_true, h1, sortD]) (by simp only [go_sem, Nat.reduceAdd, Nat.reduceSub, Nat.reduceMul, Nat.reduceLT, Nat.reduceLeDiff, ↓reduceIte, reduceCtorEq, Nat.reduceEqDiff, Int.reduceToNat, Int.reduceLT, Int.reduceLE, Int.reduceEq, beq_self_eq_true, h1, sortD]) ?_; simp only [go_sem, Nat.reduceAdd, Nat.reduceSub, Nat.reduceMul, Nat.reduceLT, Nat.reduceLeDiff, ↓reduceIte, reduceCtorEq, Nat.reduceEqDiff, Int.reduceToNat, Int.reduceLT, Int.reduceLE, Int.reduceEq, beq_self_eq_true, h1, sortD]
  refine callK_pure (ref35_sort l ho) (by simp only [go_sem, Nat.reduceAdd, Nat.reduceSub, Nat.reduceMul, Nat.reduceLT, Nat.reduceLeDiff, ↓reduceIte, reduceCtorEq, Nat.reduceEqDiff, Int.reduceToNat, Int.reduceLT, Int.reduceLE, Int.reduceEq, beq_self_eq_true, h1, sortD]) (by simp only [go_sem, Nat.reduceAdd, Nat.reduceSub, Nat.reduceMul, Nat.reduceLT, Nat.reduceLeDiff, ↓reduceIte, reduceCtorEq, Nat.reduceEqDiff, Int.reduceToNat, Int.reduceLT, Int.reduceLE, Int.reduceEq, beq_self_eq_true, h1, sortD]) ?_; simp only [go_sem, Nat.reduceAdd, Nat.reduceSub, Nat.reduceMul, Nat.reduceLT, Nat.reduceLeDiff, ↓reduceIte, reduceCtorEq, Nat.reduceEqDiff, Int.reduceToNat, Int.reduceLT, Int.reduceLE, Int.reduceEq, beq_self_eq_true, h1, sortD]
  refine callK_pure (graph_check l ho hl1) (by simp only [go_sem, Nat.reduceAdd, Nat.reduceSub, Nat.reduceMul, Nat.reduceLT, Nat.reduceLeDiff, ↓reduceIte, reduceCtorEq, Nat.reduceEqDiff, Int.reduceToNat, Int.reduceLT, Int.reduceLE, Int.reduceEq, beq_self_eq_true, h1]) (by simp only [go_sem, Nat.reduceAdd, Nat.reduceSub, Nat.reduceMul, Nat.reduceLT, Nat.reduceLeDiff, ↓reduceIte, reduceCtorEq, Nat.reduceEqDiff, Int.reduceToNat, Int.reduceLT, Int.reduceLE, Int.reduceEq, beq_self_eq_true, h1]) ?_; simp only [go_sem, Nat.reduceAdd, Nat.reduceSub, Nat.reduceMul, Nat.reduceLT, Nat.reduceLeDiff, ↓reduceIte, reduceCtorEq, Nat.reduceEqDiff, Int.reduceToNat, Int.reduceLT, Int.reduceLE, Int.reduceEq, beq_self_eq_true, h1]
  refine callK_pure (ref35_check l ho) (by simp only [go_sem, Nat.reduceAdd, Nat.reduceSub, Nat.reduceMul, Nat.reduceLT, Nat.reduceLeDiff, ↓reduceIte, reduceCtorEq, Nat.reduceEqDiff, Int.reduceToNat, Int.reduceLT, Int.reduceLE, Int.reduceEq, beq_self_eq_true, h1]) (by simp only [go_sem, Nat.reduceAdd, Nat.reduceSub, Nat.reduceMul, Nat.reduceLT, Nat.reduceLeDiff, ↓reduceIte, reduceCtorEq, Nat.reduceEqDiff, Int.reduceToNat, Int.reduceLT, Int.reduceLE, Int.reduceEq, beq_self_eq_true, h1]) ?_; simp only [go_sem, Nat.reduceAdd, Nat.reduceSub, Nat.reduceMul, Nat.reduceLT, Nat.reduceLeDiff, ↓reduceIte, reduceCtorEq, Nat.reduceEqDiff, Int.reduceToNat, Int.reduceLT, Int.reduceLE, Int.reduceEq, beq_self_eq_true, h1]
  refine callK_pure (graph_past l ho hl1 i) (by simp only [go_sem, Nat.reduceAdd, Nat.reduceSub, Nat.reduceMul, Nat.reduceLT, Nat.reduceLeDiff, ↓reduceIte, reduceCtorEq, Nat.reduceEqDiff, Int.reduceToNat, Int.reduceLT, Int.reduceLE, Int.reduceEq, beq_self_eq_true, h1]) (by simp only [go_sem, Nat.reduceAdd, Nat.reduceSub, Nat.reduceMul, Nat.reduceLT, Nat.reduceLeDiff, ↓reduceIte, reduceCtorEq, Nat.reduceEqDiff, Int.reduceToNat, Int.reduceLT, Int.reduceLE, Int.reduceEq, beq_self_eq_true, h1]) ?_; simp only [go_sem, Nat.reduceAdd, Nat.reduceSub, Nat.reduceMul, Nat.reduceLT, Nat.reduceLeDiff, ↓reduceIte, reduceCtorEq, Nat.reduceEqDiff, Int.reduceToNat, Int.reduceLT, Int.reduceLE, Int.reduceEq, beq_self_eq_true, h1]
  refine callK_pure (ref35_past l ho i) (by simp only [go_sem, Nat.reduceAdd, Nat.reduceSub, Nat.reduceMul, Nat.reduceLT, Nat.reduceLeDiff, ↓reduceIte, reduceCtorEq, Nat.reduceEqDiff, Int.reduceToNat, Int.reduceLT, Int.reduceLE, Int.reduceEq, beq_self_eq_true, h1]) (by simp only [go_sem, Nat.reduceAdd, Nat.reduceSub, Nat.reduceMul, Nat.reduceLT, Nat.reduceLeDiff, ↓reduceIte, reduceCtorEq, Nat.reduceEqDiff, Int.reduceToNat, Int.reduceLT, Int.reduceLE, Int.reduceEq, beq_self_eq_true, h1]) ?_; simp only [go_sem, Nat.reduceAdd, Nat.reduceSub, Nat.reduceMul, Nat.reduceLT, Nat.reduceLeDiff, ↓reduceIte, reduceCtorEq, Nat.reduceEqDiff, Int.reduceToNat, Int.reduceLT, Int.reduceLE, Int.reduceEq, beq_self_eq_true, h1]
  refine callK_pure (ref18_ints (natI (pastG l i)) (natI (pastG l i)) (by rw [natI_len]; omega)) (by simp only [go_sem, Nat.reduceAdd, Nat.reduceSub, Nat.reduceMul, Nat.reduceLT, Nat.reduceLeDiff, ↓reduceIte, reduceCtorEq, Nat.reduceEqDiff, Int.reduceToNat, Int.reduceLT, Int.reduceLE, Int.reduceEq, beq_self_eq_true, h1]) (by simp only [go_sem, Nat.reduceAdd, Nat.reduceSub, Nat.reduceMul, Nat.reduceLT, Nat.reduceLeDiff, ↓reduceIte, reduceCtorEq, Nat.reduceEqDiff, Int.reduceToNat, Int.reduceLT, Int.reduceLE, Int.reduceEq, beq_self_eq_true, h1]) ?_; simp only [go_sem, Nat.reduceAdd, Nat.reduceSub, Nat.reduceMul, Nat.reduceLT, Nat.reduceLeDiff, ↓reduceIte, reduceCtorEq, Nat.reduceEqDiff, Int.reduceToNat, Int.reduceLT, Int.reduceLE, Int.reduceEq, beq_self_eq_true, h1]
  refine callK_pure (graph_ahead l ho hl1 i k) (by simp only [go_sem, Nat.reduceAdd, Nat.reduceSub, Nat.reduceMul, Nat.reduceLT, Nat.reduceLeDiff, ↓reduceIte, reduceCtorEq, Nat.reduceEqDiff, Int.reduceToNat, Int.reduceLT, Int.reduceLE, Int.reduceEq, beq_self_eq_true, h1]) (by simp only [go_sem, Nat.reduceAdd, Nat.reduceSub, Nat.reduceMul, Nat.reduceLT, Nat.reduceLeDiff, ↓reduceIte, reduceCtorEq, Nat.reduceEqDiff, Int.reduceToNat, Int.reduceLT, Int.reduceLE, Int.reduceEq, beq_self_eq_true, h1]) ?_; simp only [go_sem, Nat.reduceAdd, Nat.reduceSub, Nat.reduceMul, Nat.reduceLT, Nat.reduceLeDiff, ↓reduceIte, reduceCtorEq, Nat.reduceEqDiff, Int.reduceToNat, Int.reduceLT, Int.reduceLE, Int.reduceEq, beq_self_eq_true, h1]
  refine callK_pure (ref35_ahead l ho hl2 i k) (by simp only [go_sem, Nat.reduceAdd, Nat.reduceSub, Nat.reduceMul, Nat.reduceLT, Nat.reduceLeDiff, ↓reduceIte, reduceCtorEq, Nat.reduceEqDiff, Int.reduceToNat, Int.reduceLT, Int.reduceLE, Int.reduceEq, beq_self_eq_true, h1]) (by simp only [go_sem, Nat.reduceAdd, Nat.reduceSub, Nat.reduceMul, Nat.reduceLT, Nat.reduceLeDiff, ↓reduceIte, reduceCtorEq, Nat.reduceEqDiff, Int.reduceToNat, Int.reduceLT, Int.reduceLE, Int.reduceEq, beq_self_eq_true, h1]) ?_; simp only [go_sem, Nat.reduceAdd, Nat.reduceSub, Nat.reduceMul, Nat.reduceLT, Nat.reduceLeDiff, ↓reduceIte, reduceCtorEq, Nat.reduceEqDiff, Int.reduceToNat, Int.reduceLT, Int.reduceLE, Int.reduceEq, beq_self_eq_true, h1]
  refine callK_pure (graph_apart l ho hl1 i k) (by simp only [go_sem, Nat.reduceAdd, Nat.reduceSub, Nat.reduceMul, Nat.reduceLT, Nat.reduceLeDiff, ↓reduceIte, reduceCtorEq, Nat.reduceEqDiff, Int.reduceToNat, Int.reduceLT, Int.reduceLE, Int.reduceEq, beq_self_eq_true, h1]) (by simp only [go_sem, Nat.reduceAdd, Nat.reduceSub, Nat.reduceMul, Nat.reduceLT, Nat.reduceLeDiff, ↓reduceIte, reduceCtorEq, Nat.reduceEqDiff, Int.reduceToNat, Int.reduceLT, Int.reduceLE, Int.reduceEq, beq_self_eq_true, h1]) ?_; simp only [go_sem, Nat.reduceAdd, Nat.reduceSub, Nat.reduceMul, Nat.reduceLT, Nat.reduceLeDiff, ↓reduceIte, reduceCtorEq, Nat.reduceEqDiff, Int.reduceToNat, Int.reduceLT, Int.reduceLE, Int.reduceEq, beq_self_eq_true, h1]
  refine callK_pure (ref35_apart l ho hl2 i k) (by simp only [go_sem, Nat.reduceAdd, Nat.reduceSub, Nat.reduceMul, Nat.reduceLT, Nat.reduceLeDiff, ↓reduceIte, reduceCtorEq, Nat.reduceEqDiff, Int.reduceToNat, Int.reduceLT, Int.reduceLE, Int.reduceEq, beq_self_eq_true, h1]) (by simp only [go_sem, Nat.reduceAdd, Nat.reduceSub, Nat.reduceMul, Nat.reduceLT, Nat.reduceLeDiff, ↓reduceIte, reduceCtorEq, Nat.reduceEqDiff, Int.reduceToNat, Int.reduceLT, Int.reduceLE, Int.reduceEq, beq_self_eq_true, h1]) ?_; simp only [go_sem, Nat.reduceAdd, Nat.reduceSub, Nat.reduceMul, Nat.reduceLT, Nat.reduceLeDiff, ↓reduceIte, reduceCtorEq, Nat.reduceEqDiff, Int.reduceToNat, Int.reduceLT, Int.reduceLE, Int.reduceEq, beq_self_eq_true, h1]
  refine callK_pure (ref18_ints (natI ((sortGG l).getD [])) (natI ((sortGG l).getD [])) (by rw [natI_len]; omega)) (by simp only [go_sem, Nat.reduceAdd, Nat.reduceSub, Nat.reduceMul, Nat.reduceLT, Nat.reduceLeDiff, ↓reduceIte, reduceCtorEq, Nat.reduceEqDiff, Int.reduceToNat, Int.reduceLT, Int.reduceLE, Int.reduceEq, beq_self_eq_true, h1]) (by simp only [go_sem, Nat.reduceAdd, Nat.reduceSub, Nat.reduceMul, Nat.reduceLT, Nat.reduceLeDiff, ↓reduceIte, reduceCtorEq, Nat.reduceEqDiff, Int.reduceToNat, Int.reduceLT, Int.reduceLE, Int.reduceEq, beq_self_eq_true, h1]) ?_; simp only [go_sem, Nat.reduceAdd, Nat.reduceSub, Nat.reduceMul, Nat.reduceLT, Nat.reduceLeDiff, ↓reduceIte, reduceCtorEq, Nat.reduceEqDiff, Int.reduceToNat, Int.reduceLT, Int.reduceLE, Int.reduceEq, beq_self_eq_true, h1]
  refine callK_pure (graph_heads l ho hl1) (by simp only [go_sem, Nat.reduceAdd, Nat.reduceSub, Nat.reduceMul, Nat.reduceLT, Nat.reduceLeDiff, ↓reduceIte, reduceCtorEq, Nat.reduceEqDiff, Int.reduceToNat, Int.reduceLT, Int.reduceLE, Int.reduceEq, beq_self_eq_true, h1]) (by simp only [go_sem, Nat.reduceAdd, Nat.reduceSub, Nat.reduceMul, Nat.reduceLT, Nat.reduceLeDiff, ↓reduceIte, reduceCtorEq, Nat.reduceEqDiff, Int.reduceToNat, Int.reduceLT, Int.reduceLE, Int.reduceEq, beq_self_eq_true, h1]) ?_; simp only [go_sem, Nat.reduceAdd, Nat.reduceSub, Nat.reduceMul, Nat.reduceLT, Nat.reduceLeDiff, ↓reduceIte, reduceCtorEq, Nat.reduceEqDiff, Int.reduceToNat, Int.reduceLT, Int.reduceLE, Int.reduceEq, beq_self_eq_true, h1]
  refine callK_pure (ref35_heads l ho) (by simp only [go_sem, Nat.reduceAdd, Nat.reduceSub, Nat.reduceMul, Nat.reduceLT, Nat.reduceLeDiff, ↓reduceIte, reduceCtorEq, Nat.reduceEqDiff, Int.reduceToNat, Int.reduceLT, Int.reduceLE, Int.reduceEq, beq_self_eq_true, h1]) (by simp only [go_sem, Nat.reduceAdd, Nat.reduceSub, Nat.reduceMul, Nat.reduceLT, Nat.reduceLeDiff, ↓reduceIte, reduceCtorEq, Nat.reduceEqDiff, Int.reduceToNat, Int.reduceLT, Int.reduceLE, Int.reduceEq, beq_self_eq_true, h1]) ?_; simp only [go_sem, Nat.reduceAdd, Nat.reduceSub, Nat.reduceMul, Nat.reduceLT, Nat.reduceLeDiff, ↓reduceIte, reduceCtorEq, Nat.reduceEqDiff, Int.reduceToNat, Int.reduceLT, Int.reduceLE, Int.reduceEq, beq_self_eq_true, h1]
  refine callK_pure (ref18_ints (natI (headsG l)) (natI (headsG l)) (by rw [natI_len]; omega)) (by simp only [go_sem, Nat.reduceAdd, Nat.reduceSub, Nat.reduceMul, Nat.reduceLT, Nat.reduceLeDiff, ↓reduceIte, reduceCtorEq, Nat.reduceEqDiff, Int.reduceToNat, Int.reduceLT, Int.reduceLE, Int.reduceEq, beq_self_eq_true, h1]) (by simp only [go_sem, Nat.reduceAdd, Nat.reduceSub, Nat.reduceMul, Nat.reduceLT, Nat.reduceLeDiff, ↓reduceIte, reduceCtorEq, Nat.reduceEqDiff, Int.reduceToNat, Int.reduceLT, Int.reduceLE, Int.reduceEq, beq_self_eq_true, h1]) ?_; simp only [go_sem, Nat.reduceAdd, Nat.reduceSub, Nat.reduceMul, Nat.reduceLT, Nat.reduceLeDiff, ↓reduceIte, reduceCtorEq, Nat.reduceEqDiff, Int.reduceToNat, Int.reduceLT, Int.reduceLE, Int.reduceEq, beq_self_eq_true, h1]
  refine callK_pure (graph_depth l ho hl1) (by simp only [go_sem, Nat.reduceAdd, Nat.reduceSub, Nat.reduceMul, Nat.reduceLT, Nat.reduceLeDiff, ↓reduceIte, reduceCtorEq, Nat.reduceEqDiff, Int.reduceToNat, Int.reduceLT, Int.reduceLE, Int.reduceEq, beq_self_eq_true, h1]) (by simp only [go_sem, Nat.reduceAdd, Nat.reduceSub, Nat.reduceMul, Nat.reduceLT, Nat.reduceLeDiff, ↓reduceIte, reduceCtorEq, Nat.reduceEqDiff, Int.reduceToNat, Int.reduceLT, Int.reduceLE, Int.reduceEq, beq_self_eq_true, h1]) ?_; simp only [go_sem, Nat.reduceAdd, Nat.reduceSub, Nat.reduceMul, Nat.reduceLT, Nat.reduceLeDiff, ↓reduceIte, reduceCtorEq, Nat.reduceEqDiff, Int.reduceToNat, Int.reduceLT, Int.reduceLE, Int.reduceEq, beq_self_eq_true, h1]
  refine callK_pure (ref35_depth l ho) (by simp only [go_sem, Nat.reduceAdd, Nat.reduceSub, Nat.reduceMul, Nat.reduceLT, Nat.reduceLeDiff, ↓reduceIte, reduceCtorEq, Nat.reduceEqDiff, Int.reduceToNat, Int.reduceLT, Int.reduceLE, Int.reduceEq, beq_self_eq_true, h1]) (by simp only [go_sem, Nat.reduceAdd, Nat.reduceSub, Nat.reduceMul, Nat.reduceLT, Nat.reduceLeDiff, ↓reduceIte, reduceCtorEq, Nat.reduceEqDiff, Int.reduceToNat, Int.reduceLT, Int.reduceLE, Int.reduceEq, beq_self_eq_true, h1]) ?_; simp only [go_sem, Nat.reduceAdd, Nat.reduceSub, Nat.reduceMul, Nat.reduceLT, Nat.reduceLeDiff, ↓reduceIte, reduceCtorEq, Nat.reduceEqDiff, Int.reduceToNat, Int.reduceLT, Int.reduceLE, Int.reduceEq, beq_self_eq_true, h1]
  refine callK_pure (heads35) (by simp only [go_sem, Nat.reduceAdd, Nat.reduceSub, Nat.reduceMul, Nat.reduceLT, Nat.reduceLeDiff, ↓reduceIte, reduceCtorEq, Nat.reduceEqDiff, Int.reduceToNat, Int.reduceLT, Int.reduceLE, Int.reduceEq, beq_self_eq_true, h1]) (by simp only [go_sem, Nat.reduceAdd, Nat.reduceSub, Nat.reduceMul, Nat.reduceLT, Nat.reduceLeDiff, ↓reduceIte, reduceCtorEq, Nat.reduceEqDiff, Int.reduceToNat, Int.reduceLT, Int.reduceLE, Int.reduceEq, beq_self_eq_true, h1]) ?_; simp only [go_sem, Nat.reduceAdd, Nat.reduceSub, Nat.reduceMul, Nat.reduceLT, Nat.reduceLeDiff, ↓reduceIte, reduceCtorEq, Nat.reduceEqDiff, Int.reduceToNat, Int.reduceLT, Int.reduceLE, Int.reduceEq, beq_self_eq_true, h1]
end Go.Ab
set_option linter.unusedSimpArgs false
namespace Go.Ab
open Go.Proofs

theorem idx_get {o : List Nat} (h : o.Nodup) {j : Nat} (hj : j < o.length) : o.idxOf (o.getD j 0) = j := by
  rw [List.getD_eq_getElem?_getD, List.getElem?_eq_getElem hj, Option.getD_some]
  exact h.idxOf_getElem j hj
theorem get_idx {o : List Nat} {k : Nat} (h : k ∈ o) : o.getD (o.idxOf k) 0 = k := by
  have hl : o.idxOf k < o.length := List.idxOf_lt_length_of_mem h
  rw [List.getD_eq_getElem?_getD, List.getElem?_eq_getElem hl, Option.getD_some]
  exact List.getElem_idxOf hl
theorem ord_mem {l : List TxR} {o : List Nat} (h : OrderOk l o) {k : Nat} (hk : k < l.length) : k ∈ o := by
  apply Decidable.byContradiction
  intro hn
  have h2 : (o ++ [k]).Nodup := List.nodup_append.2 ⟨h.nd, by simp, fun x hx y hy => by rw [List.mem_singleton] at hy; subst hy; rintro rfl; exact hn hx⟩
  have := nodup_len l.length _ h2 fun x hx => by
    rcases List.mem_append.1 hx with hx | hx
    · exact h.lt x hx
    · rw [List.mem_singleton] at hx; rw [hx]; exact hk
  rw [List.length_append, List.length_singleton, h.len] at this
  omega
theorem ord_lead {l : List TxR} {o : List Nat} (h : OrderOk l o) {k i : Nat} (hk : k < l.length) (hi : i < l.length) (hl : leadG l k i = true) : o.idxOf k < o.idxOf i := by
  have him := ord_mem h hi
  have hil : o.idxOf i < o.length := List.idxOf_lt_length_of_mem him
  have := h.free (o.idxOf i) hil k (by rw [get_idx him]; exact List.mem_filter.2 ⟨List.mem_range.2 hk, hl⟩)
  obtain ⟨p, hp, e⟩ := List.getElem_of_mem this
  rw [List.length_take] at hp
  have hpo : p < o.length := by omega
  have : o.idxOf k = p := by
    rw [← idx_get h.nd hpo, List.getD_eq_getElem?_getD, List.getElem?_eq_getElem hpo, Option.getD_some, ← e, List.getElem_take]
  omega
theorem reach_lt {l : List TxR} {i k : Nat} (h : Reach l i k) : k < l.length := by
  cases h with
  | one hk _ => exact hk
  | more hk _ _ => exact hk
theorem ord_reach {l : List TxR} {o : List Nat} (h : OrderOk l o) {i k : Nat} (hi : i < l.length) (hr : Reach l i k) : o.idxOf k < o.idxOf i := by
  induction hr with
  | one hk hl => exact ord_lead h hk hi hl
  | more hk hl hr ih => exact Nat.lt_trans (ord_lead h hk (reach_lt hr) hl) ih
theorem reach_seen {l : List TxR} {i k : Nat} (hi : i < l.length) (hr : Reach l i k) : seenG l k = true := by
  rw [seenG, List.any_eq_true]
  cases hr with
  | one hk hl => exact ⟨i, List.mem_range.2 hi, hl⟩
  | more hk hl h => exact ⟨_, List.mem_range.2 (reach_lt h), hl⟩
theorem placeG_of {l : List TxR} {a : Nat} (h : a < l.length) : placeG l a = true := by simp [placeG]; omega
theorem mem_past {l : List TxR} (h1 : checkG l = true) {a : Nat} (ha : a < l.length) (k : Nat) : k ∈ pastG l a ↔ Reach l a k := by
  rw [mem_pastG, Int.toNat_natCast]; simp [h1, placeG_of ha]
theorem ahead_iff {l : List TxR} (h1 : checkG l = true) {i k : Nat} (hk : k < l.length) : aheadG l i k = true ↔ Reach l k i := by
  rw [aheadG, decide_eq_true_eq, mem_natI, mem_past h1 hk]
theorem ahead_not {l : List TxR} {o : List Nat} (h1 : checkG l = true) (h : OrderOk l o) {i k : Nat} (hi : i < l.length) (hk : k < l.length) (ha : aheadG l i k = true) : aheadG l k i = false := by
  rw [ahead_iff h1 hk] at ha
  cases h2 : aheadG l k i with
  | false => rfl
  | true =>
    rw [ahead_iff h1 hi] at h2
    have a1 := ord_reach h hk ha
    have a2 := ord_reach h hi h2
    omega
theorem ahead_irr {l : List TxR} {o : List Nat} (h1 : checkG l = true) (h : OrderOk l o) {i : Nat} (hi : i < l.length) : aheadG l i i = false := by
  cases h2 : aheadG l i i with
  | false => rfl
  | true => have := ahead_not h1 h hi hi h2; rw [h2] at this; cases this
theorem ahead_trans {l : List TxR} (h1 : checkG l = true) {i k j : Nat} (hk : k < l.length) (hj : j < l.length) (ha : aheadG l i k = true) (hb : aheadG l k j = true) : aheadG l i j = true := by
  rw [ahead_iff h1 hk] at ha
  rw [ahead_iff h1 hj] at hb ⊢
  exact reach_trans ha hb
/-- As many stand one behind the other as are ahead, at most, and one. -/
theorem deep_past {l : List TxR} {o : List Nat} (h1 : checkG l = true) (h : OrderOk l o) : ∀ i, i ≤ o.length → ∀ z, z < l.length → (deepAt l o i).1.getD z 0 ≤ ((pastG l z).length : Int) + 1
  | 0, _, z, _ => by
    have e : (List.replicate l.length (0 : Int)).getD z 0 = 0 := by
      rw [List.getD_eq_getElem?_getD, List.getElem?_replicate]; split <;> rfl
    simp only [deepAt, e]; omega
  | i + 1, hi, z, hz => by
    have ih := deep_past h1 h i (by omega)
    by_cases hza : z = o.getD i 0
    · rw [hza, deepAt_at h (by omega)]
      rw [← hza]
      refine maxs_le.2 ⟨by omega, fun k hk => ?_⟩
      simp only [intoG, List.mem_filter, List.mem_range] at hk
      have h2 := ih k hk.1
      have hr : Reach l z k := .one hk.1 hk.2
      have hn : k ∉ pastG l k := fun hm => by
        have := ord_reach h hk.1 ((mem_past h1 hk.1 k).1 hm); omega
      have nd : ∀ {m : List Nat}, RiseN m → m.Nodup := fun h => h.imp fun {a b} hab => by omega
      have hnd : (pastG l k ++ [k]).Nodup := List.nodup_append.2 ⟨nd (pastG_rise l k), by simp, fun x hx y hy => by rw [List.mem_singleton] at hy; subst hy; rintro rfl; exact hn hx⟩
      have := hnd.length_le_of_subset (l₂ := pastG l z) fun x hx => by
        rw [mem_past h1 hz]
        rcases List.mem_append.1 hx with hx | hx
        · exact reach_trans ((mem_past h1 hk.1 x).1 hx) hr
        · rw [List.mem_singleton] at hx; rw [hx]; exact hr
      rw [List.length_append, List.length_singleton] at this
      show (deepAt l o i).1.getD k 0 + 1 ≤ _
      omega
    · rw [deepAt_ne h (by omega) hza]; exact ih z hz
def mostP (l : List TxR) : Nat → Int
  | 0 => 0
  | i + 1 => max (mostP l i) (((pastG l (i : Nat)).length : Int) + 1)
theorem mostP_le (l : List TxR) : ∀ {i z : Nat}, z < i → ((pastG l z).length : Int) + 1 ≤ mostP l i
  | 0, z, h => by omega
  | i + 1, z, h => by
    rw [mostP]
    by_cases e : z = i
    · subst e; omega
    · have := mostP_le l (show z < i by omega); omega
theorem mostP_bnd (l : List TxR) : ∀ i, 0 ≤ mostP l i ∧ mostP l i ≤ (l.length : Int) + 1
  | 0 => by simp only [mostP]; omega
  | i + 1 => by
    have h1 := mostP_bnd l i
    have h2 := pastG_len l (i : Nat)
    rw [mostP]; omega
theorem depth_most {l : List TxR} {o : List Nat} (h1 : checkG l = true) (h : OrderOk l o) : ∀ i, i ≤ o.length → (deepAt l o i).2 ≤ mostP l l.length
  | 0, _ => (mostP_bnd l _).1
  | i + 1, hi => by
    have ih := depth_most h1 h i (by omega)
    have ha := h.lt _ (getN_mem (show i < o.length by omega))
    have h2 := deep_past h1 h (i + 1) hi (o.getD i 0) ha
    have h3 := mostP_le l ha
    rw [deepAt_most]; omega
theorem depth_pos {l : List TxR} {o : List Nat} (h : OrderOk l o) (hl : 0 < l.length) : 0 < (deepAt l o o.length).2 := by
  obtain ⟨i, hi⟩ : ∃ i, o.length = i + 1 := ⟨o.length - 1, by have := h.len; omega⟩
  have h2 := deepAt_at h (show i < o.length by omega)
  have h3 := (maxs_le.1 (Int.le_refl (maxs (fun z => (deepAt l o i).1.getD z 0) (intoG l (o.getD i 0))))).1
  rw [hi, deepAt_most, h2]; omega
theorem heads_pos {l : List TxR} {o : List Nat} (h1 : checkG l = true) (h : OrderOk l o) (hl : 0 < l.length) : 0 < (headsG l).length := by
  have hlen := h.len
  have hx := getN_mem (show o.length - 1 < o.length by omega)
  have hlt := h.lt _ hx
  have hid := idx_get h.nd (show o.length - 1 < o.length by omega)
  have hm : o.getD (o.length - 1) 0 ∈ headsG l := by
    rw [headsG, h1, if_pos rfl, List.mem_filter]
    refine ⟨List.mem_range.2 hlt, ?_⟩
    cases hs : seenG l (o.getD (o.length - 1) 0) with
    | false => rfl
    | true =>
      rw [seenG, List.any_eq_true] at hs
      obtain ⟨i, hi, hl⟩ := hs
      have hi := List.mem_range.1 hi
      have h5 := ord_lead h hlt hi hl
      have h6 : o.idxOf i < o.length := List.idxOf_lt_length_of_mem (ord_mem h hi)
      omega
  exact List.length_pos_of_mem hm
theorem heads_ahead {l : List TxR} (h1 : checkG l = true) {j k : Nat} (hj : j < (headsG l).length) (hk : k < l.length) : aheadG l ((headsG l).getD j 0 : Nat) k = false := by
  have hm := getN_mem hj
  cases h2 : aheadG l ((headsG l).getD j 0 : Nat) k with
  | false => rfl
  | true =>
    rw [ahead_iff h1 hk] at h2
    have h3 := reach_seen hk h2
    rw [headsG, h1, if_pos rfl] at hm h3
    have := (List.mem_filter.1 hm).2
    rw [h3] at this; cases this
theorem inv_txs35 {d : D} (h : HasTy CT 22 d) : ∃ l : List TxR, d = txsD l ∧ TxsOk l ∧ l.length ≤ maxLen := by
  obtain ⟨os, rfl, ho1, ho2⟩ := h.inv_slice ty22
  obtain ⟨l, rfl, hl⟩ := all_of (enc := txD) (Q := fun t => t.deps.length = 13 ∧ t.ops.length ≤ 9223372036854775807) fun x hx => inv_tx (ho2 x hx)
  exact ⟨l, rfl, hl, by simpa using ho1⟩
end Go.Ab
