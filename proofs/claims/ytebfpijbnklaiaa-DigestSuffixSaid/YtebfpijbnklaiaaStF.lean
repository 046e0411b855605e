/- The law that what is stable is closed. Conditions: none. -/
import Derived.Test.YtebfpijbnklaiaaStE
set_option linter.unusedSimpArgs false
namespace Go.Ab
open Go.Proofs

theorem wrapSub (p : Nat) (h0 : 1 ≤ p) (h : p < 4000000000) : IntKind.i64.wrap ((p : Int) - 1) = ((p - 1 : Nat) : Int) := by rw [wrap64] <;> omega
theorem tmod100 (x : Int) (h : 0 ≤ x) : x.tmod 100 = ((x.toNat % 100 : Nat) : Int) := by
  obtain ⟨n, rfl⟩ := Int.eq_ofNat_of_zero_le h
  exact tmodNat n 100
theorem few_len {l : List TxR} (h : fewTx l = true) : l.length ≤ 40 ∧ ∀ t ∈ l, t.ops.length ≤ 40 := by
  simp only [fewTx, Bool.and_eq_true, decide_eq_true_eq, List.all_eq_true, List.mem_range] at h
  refine ⟨h.1, fun t ht => ?_⟩
  obtain ⟨i, hi, rfl⟩ := List.mem_iff_getElem.1 ht
  have := h.2 i hi
  have at_ : txAt l i = l[i] := by
    unfold txAt
    rw [List.getD_eq_getElem?_getD, List.getElem?_eq_getElem hi, Option.getD_some]
  simp only [fewAt, at_, Bool.and_eq_true, smallTx, decide_eq_true_eq] at this
  exact this.1.1

/-- Rows: what each peer has. -/
def RowsOk (l : List TxR) (rows : List (List Int)) (p : Nat) : Prop :=
  (∀ q, 1 ≤ q → q < p → q < 13 → ∃ f m, m ≤ (deliverR l f).2.length ∧ rows.getD q [] = vecOf ((deliverR l f).2.take m)) ∧ ∀ q, p ≤ q → q < 13 → rows.getD q [] = zeros 13

set_option maxRecDepth 8000 in
theorem law_stable_closed (l : List TxR) (froms many : List Int) (ho : TxsOk l) (hlf : froms.length ≤ 9223372036854775807) (hlm : many.length ≤ 9223372036854775807) :
    PSpec Try.prog CT 13 [txsD l, intsL froms .no, intsL many .no] (· = .bool true) := by
  refine PSpec.of hT Try.func13 rfl (by kernel_rfl) rfl rfl ?_
  simp only [Try.f13, go_sem, Nat.reduceAdd, Nat.reduceSub, Nat.reduceMul, Nat.reduceLT, Nat.reduceLeDiff, ↓reduceIte, reduceCtorEq, Nat.reduceEqDiff, Int.reduceToNat, Int.reduceLT, Int.reduceLE, Int.reduceEq, beq_self_eq_true]
  refine callK_pure (ref_few l ho) (by simp only [go_sem, Nat.reduceAdd, Nat.reduceSub, Nat.reduceMul, Nat.reduceLT, Nat.reduceLeDiff, ↓reduceIte, reduceCtorEq, Nat.reduceEqDiff, Int.reduceToNat, Int.reduceLT, Int.reduceLE, Int.reduceEq, beq_self_eq_true, pureL_txs]) (by simp only [go_sem, Nat.reduceAdd, Nat.reduceSub, Nat.reduceMul, Nat.reduceLT, Nat.reduceLeDiff, ↓reduceIte, reduceCtorEq, Nat.reduceEqDiff, Int.reduceToNat, Int.reduceLT, Int.reduceLE, Int.reduceEq, beq_self_eq_true, pureL_txs]) ?_; simp only [go_sem, Nat.reduceAdd, Nat.reduceSub, Nat.reduceMul, Nat.reduceLT, Nat.reduceLeDiff, ↓reduceIte, reduceCtorEq, Nat.reduceEqDiff, Int.reduceToNat, Int.reduceLT, Int.reduceLE, Int.reduceEq, beq_self_eq_true, pureL_txs]
  refine guardK_split (fun h1 => ?_) (fun h1 => ?_)
  · simp only [go_sem, Nat.reduceAdd, Nat.reduceSub, Nat.reduceMul, Nat.reduceLT, Nat.reduceLeDiff, ↓reduceIte, reduceCtorEq, Nat.reduceEqDiff, Int.reduceToNat, Int.reduceLT, Int.reduceLE, Int.reduceEq, beq_self_eq_true, h1]
    refine callK_pure (heads20) (by simp only [go_sem, Nat.reduceAdd, Nat.reduceSub, Nat.reduceMul, Nat.reduceLT, Nat.reduceLeDiff, ↓reduceIte, reduceCtorEq, Nat.reduceEqDiff, Int.reduceToNat, Int.reduceLT, Int.reduceLE, Int.reduceEq, beq_self_eq_true, h1]) (by simp only [go_sem, Nat.reduceAdd, Nat.reduceSub, Nat.reduceMul, Nat.reduceLT, Nat.reduceLeDiff, ↓reduceIte, reduceCtorEq, Nat.reduceEqDiff, Int.reduceToNat, Int.reduceLT, Int.reduceLE, Int.reduceEq, beq_self_eq_true, h1]) ?_; simp only [go_sem, Nat.reduceAdd, Nat.reduceSub, Nat.reduceMul, Nat.reduceLT, Nat.reduceLeDiff, ↓reduceIte, reduceCtorEq, Nat.reduceEqDiff, Int.reduceToNat, Int.reduceLT, Int.reduceLE, Int.reduceEq, beq_self_eq_true, h1]
  simp only [Bool.not_eq_false'] at h1
  obtain ⟨hl40, hops⟩ := few_len h1
  simp only [go_sem, Nat.reduceAdd, Nat.reduceSub, Nat.reduceMul, Nat.reduceLT, Nat.reduceLeDiff, ↓reduceIte, reduceCtorEq, Nat.reduceEqDiff, Int.reduceToNat, Int.reduceLT, Int.reduceLE, Int.reduceEq, beq_self_eq_true, h1]
  refine callK_pure (ref_apart l ho hl40 hops) (by simp only [go_sem, Nat.reduceAdd, Nat.reduceSub, Nat.reduceMul, Nat.reduceLT, Nat.reduceLeDiff, ↓reduceIte, reduceCtorEq, Nat.reduceEqDiff, Int.reduceToNat, Int.reduceLT, Int.reduceLE, Int.reduceEq, beq_self_eq_true, h1, pureL_txs]) (by simp only [go_sem, Nat.reduceAdd, Nat.reduceSub, Nat.reduceMul, Nat.reduceLT, Nat.reduceLeDiff, ↓reduceIte, reduceCtorEq, Nat.reduceEqDiff, Int.reduceToNat, Int.reduceLT, Int.reduceLE, Int.reduceEq, beq_self_eq_true, h1, pureL_txs]) ?_; simp only [go_sem, Nat.reduceAdd, Nat.reduceSub, Nat.reduceMul, Nat.reduceLT, Nat.reduceLeDiff, ↓reduceIte, reduceCtorEq, Nat.reduceEqDiff, Int.reduceToNat, Int.reduceLT, Int.reduceLE, Int.reduceEq, beq_self_eq_true, h1, pureL_txs]
  refine guardK_split (fun h2 => ?_) (fun h2 => ?_)
  · simp only [go_sem, Nat.reduceAdd, Nat.reduceSub, Nat.reduceMul, Nat.reduceLT, Nat.reduceLeDiff, ↓reduceIte, reduceCtorEq, Nat.reduceEqDiff, Int.reduceToNat, Int.reduceLT, Int.reduceLE, Int.reduceEq, beq_self_eq_true, h2]
    refine callK_pure (heads20) (by simp only [go_sem, Nat.reduceAdd, Nat.reduceSub, Nat.reduceMul, Nat.reduceLT, Nat.reduceLeDiff, ↓reduceIte, reduceCtorEq, Nat.reduceEqDiff, Int.reduceToNat, Int.reduceLT, Int.reduceLE, Int.reduceEq, beq_self_eq_true, h2]) (by simp only [go_sem, Nat.reduceAdd, Nat.reduceSub, Nat.reduceMul, Nat.reduceLT, Nat.reduceLeDiff, ↓reduceIte, reduceCtorEq, Nat.reduceEqDiff, Int.reduceToNat, Int.reduceLT, Int.reduceLE, Int.reduceEq, beq_self_eq_true, h2]) ?_; simp only [go_sem, Nat.reduceAdd, Nat.reduceSub, Nat.reduceMul, Nat.reduceLT, Nat.reduceLeDiff, ↓reduceIte, reduceCtorEq, Nat.reduceEqDiff, Int.reduceToNat, Int.reduceLT, Int.reduceLE, Int.reduceEq, beq_self_eq_true, h2]
  simp only [Bool.not_eq_false'] at h2
  simp only [go_sem, Nat.reduceAdd, Nat.reduceSub, Nat.reduceMul, Nat.reduceLT, Nat.reduceLeDiff, ↓reduceIte, reduceCtorEq, Nat.reduceEqDiff, Int.reduceToNat, Int.reduceLT, Int.reduceLE, Int.reduceEq, beq_self_eq_true, h2]
  refine guardK_split (fun h3 => ?_) (fun h3 => ?_)
  · simp only [go_sem, Nat.reduceAdd, Nat.reduceSub, Nat.reduceMul, Nat.reduceLT, Nat.reduceLeDiff, ↓reduceIte, reduceCtorEq, Nat.reduceEqDiff, Int.reduceToNat, Int.reduceLT, Int.reduceLE, Int.reduceEq, beq_self_eq_true, h3]
    refine callK_pure (heads20) (by simp only [go_sem, Nat.reduceAdd, Nat.reduceSub, Nat.reduceMul, Nat.reduceLT, Nat.reduceLeDiff, ↓reduceIte, reduceCtorEq, Nat.reduceEqDiff, Int.reduceToNat, Int.reduceLT, Int.reduceLE, Int.reduceEq, beq_self_eq_true, h3]) (by simp only [go_sem, Nat.reduceAdd, Nat.reduceSub, Nat.reduceMul, Nat.reduceLT, Nat.reduceLeDiff, ↓reduceIte, reduceCtorEq, Nat.reduceEqDiff, Int.reduceToNat, Int.reduceLT, Int.reduceLE, Int.reduceEq, beq_self_eq_true, h3]) ?_; simp only [go_sem, Nat.reduceAdd, Nat.reduceSub, Nat.reduceMul, Nat.reduceLT, Nat.reduceLeDiff, ↓reduceIte, reduceCtorEq, Nat.reduceEqDiff, Int.reduceToNat, Int.reduceLT, Int.reduceLE, Int.reduceEq, beq_self_eq_true, h3]
  simp only [go_sem, Nat.reduceAdd, Nat.reduceSub, Nat.reduceMul, Nat.reduceLT, Nat.reduceLeDiff, ↓reduceIte, reduceCtorEq, Nat.reduceEqDiff, Int.reduceToNat, Int.reduceLT, Int.reduceLE, Int.reduceEq, beq_self_eq_true, h3]
  refine condK_split (fun h4 => ?_) (fun h4 => ?_)
  · simp only [go_sem, Nat.reduceAdd, Nat.reduceSub, Nat.reduceMul, Nat.reduceLT, Nat.reduceLeDiff, ↓reduceIte, reduceCtorEq, Nat.reduceEqDiff, Int.reduceToNat, Int.reduceLT, Int.reduceLE, Int.reduceEq, beq_self_eq_true]
    refine callK_pure (heads20) (by simp only [go_sem, Nat.reduceAdd, Nat.reduceSub, Nat.reduceMul, Nat.reduceLT, Nat.reduceLeDiff, ↓reduceIte, reduceCtorEq, Nat.reduceEqDiff, Int.reduceToNat, Int.reduceLT, Int.reduceLE, Int.reduceEq, beq_self_eq_true, h3]) (by simp only [go_sem, Nat.reduceAdd, Nat.reduceSub, Nat.reduceMul, Nat.reduceLT, Nat.reduceLeDiff, ↓reduceIte, reduceCtorEq, Nat.reduceEqDiff, Int.reduceToNat, Int.reduceLT, Int.reduceLE, Int.reduceEq, beq_self_eq_true, h3]) ?_; simp only [go_sem, Nat.reduceAdd, Nat.reduceSub, Nat.reduceMul, Nat.reduceLT, Nat.reduceLeDiff, ↓reduceIte, reduceCtorEq, Nat.reduceEqDiff, Int.reduceToNat, Int.reduceLT, Int.reduceLE, Int.reduceEq, beq_self_eq_true, h3]
  have hfl : 12 ≤ froms.length := by have := of_decide_eq_false h3; omega
  have hml : 12 ≤ many.length := by have := of_decide_eq_false h4; omega
  simp only [go_sem, Nat.reduceAdd, Nat.reduceSub, Nat.reduceMul, Nat.reduceLT, Nat.reduceLeDiff, ↓reduceIte, reduceCtorEq, Nat.reduceEqDiff, Int.reduceToNat, Int.reduceLT, Int.reduceLE, Int.reduceEq, beq_self_eq_true]
  have hd13 : ∀ t ∈ l, t.deps.length = 13 := fun t ht => (ho t ht).1
  have g0 := good_deliver l 0
  have rd0 : PSpec Try.prog CT 29 [txsD l, .lit (.int .i64 0)] (· = .tup [txsD (deliverR l 0).2, ints (deliverR l 0).1]) := ref_deliver l 0 ho hl40 (by omega)
  have hv0 : (deliverR l 0).1.length = 13 := by rw [g0.vec]; exact vecOf_len _
  refine callK_pure (rd0) (by simp only [go_sem, Nat.reduceAdd, Nat.reduceSub, Nat.reduceMul, Nat.reduceLT, Nat.reduceLeDiff, ↓reduceIte, reduceCtorEq, Nat.reduceEqDiff, Int.reduceToNat, Int.reduceLT, Int.reduceLE, Int.reduceEq, beq_self_eq_true, pureL_txs, hv0]) (by simp only [go_sem, Nat.reduceAdd, Nat.reduceSub, Nat.reduceMul, Nat.reduceLT, Nat.reduceLeDiff, ↓reduceIte, reduceCtorEq, Nat.reduceEqDiff, Int.reduceToNat, Int.reduceLT, Int.reduceLE, Int.reduceEq, beq_self_eq_true, pureL_txs, hv0]) ?_; simp only [go_sem, Nat.reduceAdd, Nat.reduceSub, Nat.reduceMul, Nat.reduceLT, Nat.reduceLeDiff, ↓reduceIte, reduceCtorEq, Nat.reduceEqDiff, Int.reduceToNat, Int.reduceLT, Int.reduceLE, Int.reduceEq, beq_self_eq_true, pureL_txs, hv0]
  have hvl : (deliverR l 0).1.length = 13 := by rw [g0.vec]; exact vecOf_len _
  generalize hall : deliverR l 0 = av at g0 hvl ⊢
  obtain ⟨v, all⟩ := av
  simp only at hvl
  simp only [go_sem, Nat.reduceAdd, Nat.reduceSub, Nat.reduceMul, Nat.reduceLT, Nat.reduceLeDiff, ↓reduceIte, reduceCtorEq, Nat.reduceEqDiff, Int.reduceToNat, Int.reduceLT, Int.reduceLE, Int.reduceEq, beq_self_eq_true, hvl]
  refine awp_loop (fun n s => ∃ (p : Nat) (rows : List (List Int)) (ex : List (Sh × D)) (g : Nat → D), s = ⟨[txsD l, intsL froms .no, intsL many .no, g 3, g 4, g 5, g 6, txsD all, .ptr 0 [], .ptr 1 [], .lit (.int .i64 p), g 11, g 12, g 13, g 14, g 15, g 16, g 17, g 18, g 19, g 20, g 21, g 22, g 23, g 24, g 25, g 26, g 27, g 28, g 29, g 30, g 31, g 32, g 33, g 34, g 35, g 36, g 37, g 38, g 39, g 40, g 41, g 42, g 43, g 44, g 45, g 46, g 47, g 48, g 49, g 50, g 51, g 52, g 53, g 54, g 55, g 56, g 57, g 58, g 59, g 60, g 61, g 62, g 63, g 64, g 65, g 66, g 67, g 68, g 69, g 70, g 71, g 72, g 73, g 74, g 75, g 76, g 77, g 78, g 79, g 80, g 81, g 82, g 83, g 84, g 85, g 86, g 87, g 88, g 89, g 90, g 91, g 92, g 93, g 94, g 95, g 96, g 97, g 98, g 99, g 100, g 101, g 102, g 103, g 104, g 105, g 106, g 107, g 108, g 109, g 110, g 111, g 112, g 113, g 114, g 115, g 116, g 117, g 118, g 119, g 120, g 121, g 122, g 123, g 124, g 125, g 126, g 127], ⟨(.arr 13 .leaf, ints v) :: (.arr 13 (.arr 13 .leaf), tab rows) :: ex, []⟩⟩ ∧ n = 13 - p ∧ 1 ≤ p ∧ p ≤ 13 ∧ rows.length = 13 ∧ lens 13 rows ∧ RowsOk l rows p) 12 ⟨1, zerosT 13 13, [], reg_intro rfl rfl ⟨rfl, by omega, by omega, zerosT_len 13 13, of_eq_true (lens_zeros 13 13), fun q h1 h2 => by omega, fun q _ hq => by
    have : ∀ q, q < 13 → (zerosT 13 13).getD q [] = zeros 13 := by decide +kernel
    exact this q hq⟩⟩ ?_
  rintro n s ⟨p, rows, ex, g, rfl, hn, hp1, hp13, hr, hr2, hrow⟩
  simp only [go_sem, Nat.reduceAdd, Nat.reduceSub, Nat.reduceMul, Nat.reduceLT, Nat.reduceLeDiff, ↓reduceIte, reduceCtorEq, Nat.reduceEqDiff, Int.reduceToNat, Int.reduceLT, Int.reduceLE, Int.reduceEq, beq_self_eq_true, hr, hr2, hvl]
  refine condK_split (fun hc => ?_) (fun hc => ?_)
  · have hp : p ≤ 12 := by have := of_decide_eq_true hc; omega
    have i1 : p - 1 < froms.length := by omega
    have i2 : p - 1 < many.length := by omega
    simp only [go_sem, Nat.reduceAdd, Nat.reduceSub, Nat.reduceMul, Nat.reduceLT, Nat.reduceLeDiff, ↓reduceIte, reduceCtorEq, Nat.reduceEqDiff, Int.reduceToNat, Int.reduceLT, Int.reduceLE, Int.reduceEq, beq_self_eq_true, hr, hr2, hvl, wrapSub p hp1 (by omega), i1, i2]
    refine guardK_split (fun h5 => ?_) (fun h5 => ?_)
    · simp only [go_sem, Nat.reduceAdd, Nat.reduceSub, Nat.reduceMul, Nat.reduceLT, Nat.reduceLeDiff, ↓reduceIte, reduceCtorEq, Nat.reduceEqDiff, Int.reduceToNat, Int.reduceLT, Int.reduceLE, Int.reduceEq, beq_self_eq_true, h5]
      refine callK_pure (heads20) (by simp only [go_sem, Nat.reduceAdd, Nat.reduceSub, Nat.reduceMul, Nat.reduceLT, Nat.reduceLeDiff, ↓reduceIte, reduceCtorEq, Nat.reduceEqDiff, Int.reduceToNat, Int.reduceLT, Int.reduceLE, Int.reduceEq, beq_self_eq_true, h5]) (by simp only [go_sem, Nat.reduceAdd, Nat.reduceSub, Nat.reduceMul, Nat.reduceLT, Nat.reduceLeDiff, ↓reduceIte, reduceCtorEq, Nat.reduceEqDiff, Int.reduceToNat, Int.reduceLT, Int.reduceLE, Int.reduceEq, beq_self_eq_true, h5]) ?_; simp only [go_sem, Nat.reduceAdd, Nat.reduceSub, Nat.reduceMul, Nat.reduceLT, Nat.reduceLeDiff, ↓reduceIte, reduceCtorEq, Nat.reduceEqDiff, Int.reduceToNat, Int.reduceLT, Int.reduceLE, Int.reduceEq, beq_self_eq_true, h5]
    have hf0 := of_decide_eq_false h5
    simp only [go_sem, Nat.reduceAdd, Nat.reduceSub, Nat.reduceMul, Nat.reduceLT, Nat.reduceLeDiff, ↓reduceIte, reduceCtorEq, Nat.reduceEqDiff, Int.reduceToNat, Int.reduceLT, Int.reduceLE, Int.reduceEq, beq_self_eq_true, hr, hr2, hvl, wrapSub p hp1 (by omega), i1, i2, h5]
    refine condK_split (fun h6 => ?_) (fun h6 => ?_)
    · simp only [go_sem, Nat.reduceAdd, Nat.reduceSub, Nat.reduceMul, Nat.reduceLT, Nat.reduceLeDiff, ↓reduceIte, reduceCtorEq, Nat.reduceEqDiff, Int.reduceToNat, Int.reduceLT, Int.reduceLE, Int.reduceEq, beq_self_eq_true]
      refine callK_pure (heads20) (by simp only [go_sem, Nat.reduceAdd, Nat.reduceSub, Nat.reduceMul, Nat.reduceLT, Nat.reduceLeDiff, ↓reduceIte, reduceCtorEq, Nat.reduceEqDiff, Int.reduceToNat, Int.reduceLT, Int.reduceLE, Int.reduceEq, beq_self_eq_true, h5]) (by simp only [go_sem, Nat.reduceAdd, Nat.reduceSub, Nat.reduceMul, Nat.reduceLT, Nat.reduceLeDiff, ↓reduceIte, reduceCtorEq, Nat.reduceEqDiff, Int.reduceToNat, Int.reduceLT, Int.reduceLE, Int.reduceEq, beq_self_eq_true, h5]) ?_; simp only [go_sem, Nat.reduceAdd, Nat.reduceSub, Nat.reduceMul, Nat.reduceLT, Nat.reduceLeDiff, ↓reduceIte, reduceCtorEq, Nat.reduceEqDiff, Int.reduceToNat, Int.reduceLT, Int.reduceLE, Int.reduceEq, beq_self_eq_true, h5]
    have hm0 := of_decide_eq_false h6
    have hmod : (froms.getD (p - 1) 0).toNat % 100 ≤ 1000 := by have := Nat.mod_lt (froms.getD (p - 1) 0).toNat (show 0 < 100 by omega); omega
    simp only [go_sem, Nat.reduceAdd, Nat.reduceSub, Nat.reduceMul, Nat.reduceLT, Nat.reduceLeDiff, ↓reduceIte, reduceCtorEq, Nat.reduceEqDiff, Int.reduceToNat, Int.reduceLT, Int.reduceLE, Int.reduceEq, beq_self_eq_true, hr, hr2, hvl, wrapSub p hp1 (by omega), i1, i2, tmod100 _ (show 0 ≤ froms.getD (p - 1) 0 by omega)]
    generalize hff : (froms.getD (p - 1) 0).toNat % 100 = f at hmod
    have gf := good_deliver l f
    have hw0 : (deliverR l f).1.length = 13 := by rw [gf.vec]; exact vecOf_len _
    refine callK_pure (ref_deliver l f ho hl40 hmod) (by simp only [go_sem, Nat.reduceAdd, Nat.reduceSub, Nat.reduceMul, Nat.reduceLT, Nat.reduceLeDiff, ↓reduceIte, reduceCtorEq, Nat.reduceEqDiff, Int.reduceToNat, Int.reduceLT, Int.reduceLE, Int.reduceEq, beq_self_eq_true, pureL_txs, hr, hr2, hvl, hw0]) (by simp only [go_sem, Nat.reduceAdd, Nat.reduceSub, Nat.reduceMul, Nat.reduceLT, Nat.reduceLeDiff, ↓reduceIte, reduceCtorEq, Nat.reduceEqDiff, Int.reduceToNat, Int.reduceLT, Int.reduceLE, Int.reduceEq, beq_self_eq_true, pureL_txs, hr, hr2, hvl, hw0]) ?_; simp only [go_sem, Nat.reduceAdd, Nat.reduceSub, Nat.reduceMul, Nat.reduceLT, Nat.reduceLeDiff, ↓reduceIte, reduceCtorEq, Nat.reduceEqDiff, Int.reduceToNat, Int.reduceLT, Int.reduceLE, Int.reduceEq, beq_self_eq_true, pureL_txs, hr, hr2, hvl, hw0]
    have hsome : (deliverR l f).2.length ≤ 1600 := by
      have h40 : l.length * l.length ≤ 40 * 40 := Nat.mul_le_mul hl40 hl40
      have := deliver_len l f
      omega
    generalize hdf : deliverR l f = ws at gf hw0 hsome ⊢
    obtain ⟨w, some_⟩ := ws
    simp only at hw0 hsome
    have row : ∀ i, i ≤ some_.length → (rows.set p (vecOf (some_.take i))).length = 13 ∧ lens 13 (rows.set p (vecOf (some_.take i))) ∧ ((rows.set p (vecOf (some_.take i))).getD p []) = vecOf (some_.take i) := by
      intro i hi
      refine ⟨by simp [hr], ?_, ?_⟩
      · rw [lens_set_t 13 rows _ _ (eq_true hr2) (eq_true (vecOf_len _))]; trivial
      · rw [List.getD_eq_getElem?_getD, List.getElem?_set_self (by omega), Option.getD_some]
    have nextRow : ∀ (i : Nat) (R : List (List Int)), i ≤ some_.length → R = rows.set p (vecOf (some_.take i)) → R.getD p [] = vecOf (some_.take i) → RowsOk l R (p + 1) := by
      intro i R hi hR hg
      refine ⟨fun q h1 h2 h3 => ?_, fun q h1 h2 => ?_⟩
      · by_cases e : q = p
        · subst e
          exact ⟨f, i, by rw [hdf]; exact hi, by rw [hg, hdf]⟩
        · obtain ⟨f', m', hm', hh⟩ := hrow.1 q h1 (by omega) h3
          refine ⟨f', m', hm', ?_⟩
          rw [hR, List.getD_eq_getElem?_getD, List.getElem?_set_ne (fun h => e h.symm), ← List.getD_eq_getElem?_getD]; exact hh
      · rw [hR, List.getD_eq_getElem?_getD, List.getElem?_set_ne (by omega), ← List.getD_eq_getElem?_getD]
        exact hrow.2 q (by omega) h2
    have e0 : rows = rows.set p (vecOf (some_.take 0)) := by
      have := hrow.2 p (Nat.le_refl _) (by omega)
      rw [List.take_zero]
      show rows = rows.set p (zeros 13)
      rw [← this]
      refine List.ext_getElem (by simp) fun i hi1 hi2 => ?_
      rw [List.getElem_set]
      split
      · rename_i e; subst e; simp [List.getD_eq_getElem?_getD, hi1]
      · rfl
    refine awp_loop (fun n s => ∃ (i : Nat) (R : List (List Int)) (ex : List (Sh × D)) (g : Nat → D), s = ⟨[txsD l, intsL froms .no, intsL many .no, g 3, g 4, g 5, g 6, txsD all, .ptr 0 [], .ptr 1 [], .lit (.int .i64 p), txsD some_, g 12, .lit (.int .i64 i), g 14, g 15, g 16, g 17, g 18, g 19, g 20, g 21, g 22, g 23, g 24, g 25, g 26, g 27, g 28, g 29, g 30, g 31, g 32, g 33, g 34, g 35, g 36, g 37, g 38, g 39, g 40, g 41, g 42, g 43, g 44, g 45, g 46, g 47, g 48, g 49, g 50, g 51, g 52, g 53, g 54, g 55, g 56, g 57, g 58, g 59, g 60, g 61, g 62, g 63, g 64, g 65, g 66, g 67, g 68, g 69, g 70, g 71, g 72, g 73, g 74, g 75, g 76, g 77, g 78, g 79, g 80, g 81, g 82, g 83, g 84, g 85, g 86, g 87, g 88, g 89, g 90, g 91, g 92, g 93, g 94, g 95, g 96, g 97, g 98, g 99, g 100, g 101, g 102, g 103, g 104, g 105, g 106, g 107, g 108, g 109, g 110, g 111, g 112, g 113, g 114, g 115, g 116, g 117, g 118, g 119, g 120, g 121, g 122, g 123, g 124, g 125, g 126, g 127], ⟨(.arr 13 .leaf, ints v) :: (.arr 13 (.arr 13 .leaf), tab R) :: ex, []⟩⟩ ∧ n = some_.length - i ∧ i ≤ some_.length ∧ R = rows.set p (vecOf (some_.take i))) some_.length ⟨0, rows, _, reg_intro rfl rfl ⟨by simp, by omega, e0⟩⟩ ?_
    clear e0
    rintro n s ⟨i, R, ex, g, rfl, hn2, hi, hR⟩
    obtain ⟨rl, rl2, rg⟩ := row i hi
    rw [← hR] at rl rl2 rg
    simp only [go_sem, Nat.reduceAdd, Nat.reduceSub, Nat.reduceMul, Nat.reduceLT, Nat.reduceLeDiff, ↓reduceIte, reduceCtorEq, Nat.reduceEqDiff, Int.reduceToNat, Int.reduceLT, Int.reduceLE, Int.reduceEq, beq_self_eq_true, hvl]
    refine guardK_split (fun h7 => ?_) (fun h7 => ?_)
    · have hi' : i < some_.length := by have := of_decide_eq_true h7; omega
      simp only [go_sem, Nat.reduceAdd, Nat.reduceSub, Nat.reduceMul, Nat.reduceLT, Nat.reduceLeDiff, ↓reduceIte, reduceCtorEq, Nat.reduceEqDiff, Int.reduceToNat, Int.reduceLT, Int.reduceLE, Int.reduceEq, beq_self_eq_true, hvl, h7, wrapSub p hp1 (by omega), i2]
      refine condK_split (fun h8 => ?_) (fun h8 => ?_)
      · have hr1 : readyTx (vecOf (some_.take i)) (txAt some_ i) = true := gf.rdy i hi'
        have p13 : p < 13 := by omega
        obtain ⟨f1, f2, f3, f4⟩ := ready_facts hr1
        obtain ⟨p0, p1⟩ := vpeer_of f1
        have hvi := vecOf_len (some_.take i)
        rw [← rg] at hvi
        simp only [go_sem, Nat.reduceAdd, Nat.reduceSub, Nat.reduceMul, Nat.reduceLT, Nat.reduceLeDiff, ↓reduceIte, reduceCtorEq, Nat.reduceEqDiff, Int.reduceToNat, Int.reduceLT, Int.reduceLE, Int.reduceEq, beq_self_eq_true, hvl, hi', get_txs, rl, rl2, p0, p1, hvi, p13]
        refine .inl ⟨by kernel_rfl, ?_⟩
        simp only [go_sem, Nat.reduceAdd, Nat.reduceSub, Nat.reduceMul, Nat.reduceLT, Nat.reduceLeDiff, ↓reduceIte, reduceCtorEq, Nat.reduceEqDiff, Int.reduceToNat, Int.reduceLT, Int.reduceLE, Int.reduceEq, beq_self_eq_true, hvl, wrapNat i (by omega), p13, rl, rl2, hvi]
        refine ⟨some_.length - (i + 1), by omega, i + 1, _, _, reg_intro rfl rfl ⟨rfl, by omega, ?_⟩⟩
        rw [txTake _ _ hi', vecOf_snoc, rg, hR, List.set_set]
      · simp only [go_sem, Nat.reduceAdd, Nat.reduceSub, Nat.reduceMul, Nat.reduceLT, Nat.reduceLeDiff, ↓reduceIte, reduceCtorEq, Nat.reduceEqDiff, Int.reduceToNat, Int.reduceLT, Int.reduceLE, Int.reduceEq, beq_self_eq_true, hvl, wrapNat p (by omega)]
        exact ⟨13 - (p + 1), by omega, p + 1, _, _, reg_intro rfl rfl ⟨rfl, by omega, by omega, rl, rl2, nextRow i R hi hR rg⟩⟩
    · simp only [go_sem, Nat.reduceAdd, Nat.reduceSub, Nat.reduceMul, Nat.reduceLT, Nat.reduceLeDiff, ↓reduceIte, reduceCtorEq, Nat.reduceEqDiff, Int.reduceToNat, Int.reduceLT, Int.reduceLE, Int.reduceEq, beq_self_eq_true, hvl, h7, wrapNat p (by omega)]
      exact ⟨13 - (p + 1), by omega, p + 1, _, _, reg_intro rfl rfl ⟨rfl, by omega, by omega, rl, rl2, nextRow i R hi hR rg⟩⟩
  · have hpe := of_decide_eq_false hc
    obtain rfl : p = 13 := by omega
    simp only [go_sem, Nat.reduceAdd, Nat.reduceSub, Nat.reduceMul, Nat.reduceLT, Nat.reduceLeDiff, ↓reduceIte, reduceCtorEq, Nat.reduceEqDiff, Int.reduceToNat, Int.reduceLT, Int.reduceLE, Int.reduceEq, beq_self_eq_true, hr, hr2, hvl]
    have hlive : ([1, 2, 3, 4] : List Int).length < 4000000000 := by decide
    have c1 := vcut_len (self := 1) (live := [1, 2, 3, 4]) hr hr2 hvl
    have hrs : rosterOk [1, 2, 3, 4] = true := by decide +kernel
    have hb : (rosterOk [1, 2, 3, 4] && !decide (([1, 2, 3, 4] : List Int) = []) && vpeer 1) = true := by rw [hrs]; decide +kernel
    refine callK_pure (stable_cut rows 1 v [1, 2, 3, 4] hr hr2 hvl hlive) (by simp only [go_sem, Nat.reduceAdd, Nat.reduceSub, Nat.reduceMul, Nat.reduceLT, Nat.reduceLeDiff, ↓reduceIte, reduceCtorEq, Nat.reduceEqDiff, Int.reduceToNat, Int.reduceLT, Int.reduceLE, Int.reduceEq, beq_self_eq_true, hr, hr2, hvl, c1, intsL]) (by simp only [go_sem, Nat.reduceAdd, Nat.reduceSub, Nat.reduceMul, Nat.reduceLT, Nat.reduceLeDiff, ↓reduceIte, reduceCtorEq, Nat.reduceEqDiff, Int.reduceToNat, Int.reduceLT, Int.reduceLE, Int.reduceEq, beq_self_eq_true, hr, hr2, hvl, c1, intsL]) ?_; simp only [go_sem, Nat.reduceAdd, Nat.reduceSub, Nat.reduceMul, Nat.reduceLT, Nat.reduceLeDiff, ↓reduceIte, reduceCtorEq, Nat.reduceEqDiff, Int.reduceToNat, Int.reduceLT, Int.reduceLE, Int.reduceEq, beq_self_eq_true, hr, hr2, hvl, c1, intsL]
    generalize hcc : vcut rows 1 v [1, 2, 3, 4] = c at c1 ⊢
    obtain ⟨u1, u2⟩ := (vcut_iff (self := 1) hr hr2 hvl hb c1).1 (by rw [hcc]; exact vleq_refl _ c1)
    -- what is below the cut is closed
    have hcl : ∀ k, k < all.length → vhas c (txAt all k).peer (txAt all k).seq = true → vleq (txAt all k).deps c = true := by
      intro k hk hhas
      have hmk : txAt all k ∈ l := g0.mem _ (txAt_mem hk)
      have hdk := hd13 _ hmk
      simp only [vhas, Bool.and_eq_true, decide_eq_true_eq] at hhas
      obtain ⟨⟨q1, q2⟩, q3⟩ := hhas
      obtain ⟨q0, q01⟩ := vpeer_of q1
      have hfull := (good_pre g0 hd13 all.length (Nat.le_refl _)).1 k hk
      simp only at hfull
      rw [List.take_of_length_le (Nat.le_refl _)] at hfull
      have hve : v = vecOf all := g0.vec
      rw [← hve] at hfull
      rw [← hcc]
      refine (vcut_iff (self := 1) hr hr2 hvl hb hdk).2 ⟨hfull, fun pp hpp hne => ?_⟩
      have hle := u2 pp hpp hne
      have hpr := roster_mem hrs hpp
      obtain ⟨f, m, hm, hrow'⟩ := hrow.1 pp.toNat (by omega) (by omega) (by omega)
      have gf := good_deliver l f
      rw [hrow'] at hle ⊢
      have hge := (vleq_iff _ _ c1 (vecOf_len _)).1 hle (txAt all k).peer.toNat q01
      obtain ⟨a, b⟩ := good_pre gf hd13 m hm
      obtain ⟨j, hj, e1, e2⟩ := b _ q1 (txAt all k).seq q2 (by omega)
      have hmj : txAt (deliverR l f).2 j ∈ l := gf.mem _ (txAt_mem (by omega))
      rw [← apart_deps h2 hmj hmk e1 e2]
      exact a j hj
    have hal : all.length ≤ 1600 := by
      have h40 : l.length * l.length ≤ 40 * 40 := Nat.mul_le_mul hl40 hl40
      have := deliver_len l 0
      rw [hall] at this
      simp only at this
      omega
    refine awp_loop (fun n s => ∃ (k : Nat) (g : Nat → D), s = ⟨[g 0, g 1, g 2, g 3, g 4, g 5, g 6, txsD all, g 8, g 9, g 10, g 11, g 12, g 13, .ptr (ex.length + 1 + 1) [], .lit (.int .i64 k), g 16, g 17, g 18, g 19, g 20, g 21, g 22, g 23, g 24, g 25, g 26, g 27, g 28, g 29, g 30, g 31, g 32, g 33, g 34, g 35, g 36, g 37, g 38, g 39, g 40, g 41, g 42, g 43, g 44, g 45, g 46, g 47, g 48, g 49, g 50, g 51, g 52, g 53, g 54, g 55, g 56, g 57, g 58, g 59, g 60, g 61, g 62, g 63, g 64, g 65, g 66, g 67, g 68, g 69, g 70, g 71, g 72, g 73, g 74, g 75, g 76, g 77, g 78, g 79, g 80, g 81, g 82, g 83, g 84, g 85, g 86, g 87, g 88, g 89, g 90, g 91, g 92, g 93, g 94, g 95, g 96, g 97, g 98, g 99, g 100, g 101, g 102, g 103, g 104, g 105, g 106, g 107, g 108, g 109, g 110, g 111, g 112, g 113, g 114, g 115, g 116, g 117, g 118, g 119, g 120, g 121, g 122, g 123, g 124, g 125, g 126, g 127], ⟨(.arr 13 .leaf, ints v) :: (.arr 13 (.arr 13 .leaf), tab rows) :: (ex ++ [(.arr 13 .leaf, ints c)]), []⟩⟩ ∧ n = all.length - k ∧ k ≤ all.length) all.length ⟨0, reg_intro rfl rfl ⟨by simp, by omega⟩⟩ ?_
    rintro n s ⟨k, g, rfl, hn, hk⟩
    simp only [go_sem, Nat.reduceAdd, Nat.reduceSub, Nat.reduceMul, Nat.reduceLT, Nat.reduceLeDiff, ↓reduceIte, reduceCtorEq, Nat.reduceEqDiff, Int.reduceToNat, Int.reduceLT, Int.reduceLE, Int.reduceEq, beq_self_eq_true, c1]
    refine condK_split (fun hc2 => ?_) (fun hc2 => ?_)
    · have hk' : k < all.length := by have := of_decide_eq_true hc2; omega
      have hdk : (txAt all k).deps.length = 13 := hd13 _ (g0.mem _ (txAt_mem hk'))
      simp only [go_sem, Nat.reduceAdd, Nat.reduceSub, Nat.reduceMul, Nat.reduceLT, Nat.reduceLeDiff, ↓reduceIte, reduceCtorEq, Nat.reduceEqDiff, Int.reduceToNat, Int.reduceLT, Int.reduceLE, Int.reduceEq, beq_self_eq_true, c1, hk', get_txs]
      refine .inl ⟨by kernel_rfl, ?_⟩
      refine callD_pure (ref_has c (txAt all k).peer (txAt all k).seq c1) (by simp only [go_sem, Nat.reduceAdd, Nat.reduceSub, Nat.reduceMul, Nat.reduceLT, Nat.reduceLeDiff, ↓reduceIte, reduceCtorEq, Nat.reduceEqDiff, Int.reduceToNat, Int.reduceLT, Int.reduceLE, Int.reduceEq, beq_self_eq_true, c1, hk', get_txs]) (by simp only [go_sem, Nat.reduceAdd, Nat.reduceSub, Nat.reduceMul, Nat.reduceLT, Nat.reduceLeDiff, ↓reduceIte, reduceCtorEq, Nat.reduceEqDiff, Int.reduceToNat, Int.reduceLT, Int.reduceLE, Int.reduceEq, beq_self_eq_true, c1, hk', get_txs]) ?_; simp only [go_sem, Nat.reduceAdd, Nat.reduceSub, Nat.reduceMul, Nat.reduceLT, Nat.reduceLeDiff, ↓reduceIte, reduceCtorEq, Nat.reduceEqDiff, Int.reduceToNat, Int.reduceLT, Int.reduceLE, Int.reduceEq, beq_self_eq_true, c1, hk', get_txs]
      refine guardK_split (fun h7 => ?_) (fun h7 => ?_)
      · simp only [go_sem, Nat.reduceAdd, Nat.reduceSub, Nat.reduceMul, Nat.reduceLT, Nat.reduceLeDiff, ↓reduceIte, reduceCtorEq, Nat.reduceEqDiff, Int.reduceToNat, Int.reduceLT, Int.reduceLE, Int.reduceEq, beq_self_eq_true, c1, hk', get_txs, h7]
        refine callD_pure (ref_leq (txAt all k).deps c hdk c1) (by simp only [go_sem, Nat.reduceAdd, Nat.reduceSub, Nat.reduceMul, Nat.reduceLT, Nat.reduceLeDiff, ↓reduceIte, reduceCtorEq, Nat.reduceEqDiff, Int.reduceToNat, Int.reduceLT, Int.reduceLE, Int.reduceEq, beq_self_eq_true, c1, hk', hdk, h7, hcl k hk' h7, wrapNat k (by omega)]) (by simp only [go_sem, Nat.reduceAdd, Nat.reduceSub, Nat.reduceMul, Nat.reduceLT, Nat.reduceLeDiff, ↓reduceIte, reduceCtorEq, Nat.reduceEqDiff, Int.reduceToNat, Int.reduceLT, Int.reduceLE, Int.reduceEq, beq_self_eq_true, c1, hk', hdk, h7, hcl k hk' h7, wrapNat k (by omega)]) ?_; simp only [go_sem, Nat.reduceAdd, Nat.reduceSub, Nat.reduceMul, Nat.reduceLT, Nat.reduceLeDiff, ↓reduceIte, reduceCtorEq, Nat.reduceEqDiff, Int.reduceToNat, Int.reduceLT, Int.reduceLE, Int.reduceEq, beq_self_eq_true, c1, hk', hdk, h7, hcl k hk' h7, wrapNat k (by omega)]
        exact ⟨all.length - (k + 1), by omega, k + 1, reg_intro rfl rfl ⟨rfl, by omega⟩⟩
      · simp only [go_sem, Nat.reduceAdd, Nat.reduceSub, Nat.reduceMul, Nat.reduceLT, Nat.reduceLeDiff, ↓reduceIte, reduceCtorEq, Nat.reduceEqDiff, Int.reduceToNat, Int.reduceLT, Int.reduceLE, Int.reduceEq, beq_self_eq_true, c1, hk', h7, wrapNat k (by omega)]
        exact ⟨all.length - (k + 1), by omega, k + 1, reg_intro rfl rfl ⟨rfl, by omega⟩⟩
    · simp only [go_sem, Nat.reduceAdd, Nat.reduceSub, Nat.reduceMul, Nat.reduceLT, Nat.reduceLeDiff, ↓reduceIte, reduceCtorEq, Nat.reduceEqDiff, Int.reduceToNat, Int.reduceLT, Int.reduceLE, Int.reduceEq, beq_self_eq_true, c1]
      refine callK_pure (heads20) (by simp only [go_sem, Nat.reduceAdd, Nat.reduceSub, Nat.reduceMul, Nat.reduceLT, Nat.reduceLeDiff, ↓reduceIte, reduceCtorEq, Nat.reduceEqDiff, Int.reduceToNat, Int.reduceLT, Int.reduceLE, Int.reduceEq, beq_self_eq_true, c1]) (by simp only [go_sem, Nat.reduceAdd, Nat.reduceSub, Nat.reduceMul, Nat.reduceLT, Nat.reduceLeDiff, ↓reduceIte, reduceCtorEq, Nat.reduceEqDiff, Int.reduceToNat, Int.reduceLT, Int.reduceLE, Int.reduceEq, beq_self_eq_true, c1]) ?_; simp only [go_sem, Nat.reduceAdd, Nat.reduceSub, Nat.reduceMul, Nat.reduceLT, Nat.reduceLeDiff, ↓reduceIte, reduceCtorEq, Nat.reduceEqDiff, Int.reduceToNat, Int.reduceLT, Int.reduceLE, Int.reduceEq, beq_self_eq_true, c1]
end Go.Ab
