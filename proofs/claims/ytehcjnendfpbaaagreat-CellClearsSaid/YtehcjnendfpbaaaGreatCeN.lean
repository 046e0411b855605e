/- Behind a clearing by one that has seen all: the law. Conditions: none. -/
import Derived.Test.YtehcjnendfpbaaaGreatCeK
import Derived.Test.YtehcjnendfpbaaaGreatOsQ
set_option linter.unusedSimpArgs false
namespace Go.Ab
open Go.Proofs

theorem all_snocG {α : Type} [Inhabited α] (p : α → Bool) (l : List α) {k : Nat} (hk : k < l.length) : (l.take (k + 1)).all p = ((l.take k).all p && p (l.getD k default)) := by
  rw [take_snocG l k hk, List.all_append]; simp
set_option maxRecDepth 8000 in
set_option maxHeartbeats 4000000 in
theorem law12_all (c : CellR) (t : TxR) (hd : t.deps.length = 13) (h : c.sm) : PSpec Tryz.prog CT 15 [cellD c, txD t] (· = .bool (allC c t)) := by
  have l1 := h.am; have l2 := h.wr; have l3 := h.me; have l4 := h.el; have l5 := h.eg; have l6 := h.mm
  refine PSpec.of hT Tryz.func15 rfl (by kernel_rfl) rfl rfl ?_
  simp only [Tryz.f15, go_sem, simprocAttr, hd]
  refine awp_loop (fun n s => ∃ (k : Nat) (g : Nat → D), s = ⟨[g 0, g 1, .ptr 0 [], .ptr 1 [], g 4, .bool ((c.am.take k).all (fun a : AmountR => befM t 1 a.m)), .lit (.int .i64 k), g 7, g 8, g 9, g 10, g 11, g 12, g 13, g 14, g 15, g 16, g 17, g 18, g 19, g 20, g 21, g 22, g 23, g 24, g 25, g 26, g 27, g 28, g 29, g 30, g 31, g 32, g 33, g 34, g 35, g 36, g 37, g 38, g 39, g 40, g 41, g 42, g 43, g 44, g 45, g 46, g 47, g 48, g 49, g 50, g 51, g 52, g 53, g 54, g 55, g 56, g 57, g 58, g 59, g 60, g 61, g 62, g 63, g 64, g 65, g 66, g 67, g 68, g 69, g 70, g 71, g 72, g 73, g 74, g 75, g 76, g 77, g 78, g 79, g 80, g 81, g 82, g 83, g 84, g 85, g 86, g 87, g 88, g 89, g 90, g 91, g 92, g 93, g 94, g 95, g 96, g 97], ⟨[((.pair .leaf (.pair .leaf (.pair .leaf (.pair .leaf (.pair .leaf (.pair .leaf .unit)))))), cellD c), (txSh, txD t)], []⟩⟩ ∧ n = c.am.length - k ∧ k ≤ c.am.length) c.am.length ⟨0, by simp only [List.take_zero, List.all_nil, Bool.and_true]; exact reg_intro rfl rfl ⟨by simp, by omega⟩⟩ ?_
  rintro n st ⟨k, g, rfl, hn, hk⟩
  simp only [go_sem, simprocAttr, hd]
  refine condK_split (fun hc => ?_) (fun hc => ?_)
  · have hk' : k < c.am.length := by have := of_decide_eq_true hc; omega
    have hsn := all_snocG (fun a : AmountR => befM t 1 a.m) c.am hk'
    refine .inl ⟨by kernel_rfl, ?_⟩
    cases hb : ((c.am.take k).all (fun a : AmountR => befM t 1 a.m)) with
    | false =>
      simp only [go_sem, simprocAttr, hd, hk', wrapNat k (by omega)]
      exact ⟨c.am.length - (k + 1), by omega, k + 1, by rw [hsn, hb]; exact reg_intro rfl rfl ⟨rfl, by omega⟩⟩
    | true =>
      simp only [go_sem, simprocAttr, hd, hk', get_am]
      refine callD_pure (args' := [(c.am.getD k default).m.d, txD t, .lit (.int .i64 1)]) (ref_before (c.am.getD k default).m.p (c.am.getD k default).m.s (c.am.getD k default).m.i t 1 hd) (by first | rfl | (simp only [go_sem, hd]; done)) (by first | (simp only [go_sem, hd]; done) | (simp [pureL, pureD]; done)) ?_
      simp only [go_sem, simprocAttr, hd, wrapNat k (by omega)]
      exact ⟨c.am.length - (k + 1), by omega, k + 1, by rw [hsn, hb, Bool.true_and]; exact reg_intro rfl rfl ⟨rfl, by omega⟩⟩
  have hi := of_decide_eq_false hc
  obtain rfl : k = c.am.length := by omega
  clear hn hk hc hi
  simp only [go_sem, simprocAttr, hd, List.take_length]
  refine awp_loop (fun n s => ∃ (k : Nat) (g : Nat → D), s = ⟨[g 0, g 1, .ptr 0 [], .ptr 1 [], g 4, .bool (c.am.all (fun a => befM t 1 a.m) && (c.wr.take k).all (fun a : WriteR => befM t 1 a.m)), g 6, .lit (.int .i64 k), g 8, g 9, g 10, g 11, g 12, g 13, g 14, g 15, g 16, g 17, g 18, g 19, g 20, g 21, g 22, g 23, g 24, g 25, g 26, g 27, g 28, g 29, g 30, g 31, g 32, g 33, g 34, g 35, g 36, g 37, g 38, g 39, g 40, g 41, g 42, g 43, g 44, g 45, g 46, g 47, g 48, g 49, g 50, g 51, g 52, g 53, g 54, g 55, g 56, g 57, g 58, g 59, g 60, g 61, g 62, g 63, g 64, g 65, g 66, g 67, g 68, g 69, g 70, g 71, g 72, g 73, g 74, g 75, g 76, g 77, g 78, g 79, g 80, g 81, g 82, g 83, g 84, g 85, g 86, g 87, g 88, g 89, g 90, g 91, g 92, g 93, g 94, g 95, g 96, g 97], ⟨[((.pair .leaf (.pair .leaf (.pair .leaf (.pair .leaf (.pair .leaf (.pair .leaf .unit)))))), cellD c), (txSh, txD t)], []⟩⟩ ∧ n = c.wr.length - k ∧ k ≤ c.wr.length) c.wr.length ⟨0, by simp only [List.take_zero, List.all_nil, Bool.and_true]; exact reg_intro rfl rfl ⟨by simp, by omega⟩⟩ ?_
  rintro n st ⟨k, g, rfl, hn, hk⟩
  simp only [go_sem, simprocAttr, hd]
  refine condK_split (fun hc => ?_) (fun hc => ?_)
  · have hk' : k < c.wr.length := by have := of_decide_eq_true hc; omega
    have hsn := all_snocG (fun a : WriteR => befM t 1 a.m) c.wr hk'
    refine .inl ⟨by kernel_rfl, ?_⟩
    cases hb : (c.am.all (fun a => befM t 1 a.m) && (c.wr.take k).all (fun a : WriteR => befM t 1 a.m)) with
    | false =>
      simp only [go_sem, simprocAttr, hd, hk', wrapNat k (by omega)]
      exact ⟨c.wr.length - (k + 1), by omega, k + 1, by rw [hsn, ← Bool.and_assoc, hb]; exact reg_intro rfl rfl ⟨rfl, by omega⟩⟩
    | true =>
      simp only [go_sem, simprocAttr, hd, hk', get_wr, wrAt]
      refine callD_pure (args' := [(c.wr.getD k default).m.d, txD t, .lit (.int .i64 1)]) (ref_before (c.wr.getD k default).m.p (c.wr.getD k default).m.s (c.wr.getD k default).m.i t 1 hd) (by first | rfl | (simp only [go_sem, hd]; done)) (by first | (simp only [go_sem, hd]; done) | (simp [pureL, pureD]; done)) ?_
      simp only [go_sem, simprocAttr, hd, wrapNat k (by omega)]
      exact ⟨c.wr.length - (k + 1), by omega, k + 1, by rw [hsn, ← Bool.and_assoc, hb, Bool.true_and]; exact reg_intro rfl rfl ⟨rfl, by omega⟩⟩
  have hi := of_decide_eq_false hc
  obtain rfl : k = c.wr.length := by omega
  clear hn hk hc hi
  simp only [go_sem, simprocAttr, hd, List.take_length]
  refine awp_loop (fun n s => ∃ (k : Nat) (g : Nat → D), s = ⟨[g 0, g 1, .ptr 0 [], .ptr 1 [], g 4, .bool ((c.am.all (fun a => befM t 1 a.m) && c.wr.all (fun a => befM t 1 a.m)) && (c.me.take k).all (fun x : MemberR => x.marks.all (befM t 1))), g 6, g 7, .lit (.int .i64 k), g 9, g 10, g 11, g 12, g 13, g 14, g 15, g 16, g 17, g 18, g 19, g 20, g 21, g 22, g 23, g 24, g 25, g 26, g 27, g 28, g 29, g 30, g 31, g 32, g 33, g 34, g 35, g 36, g 37, g 38, g 39, g 40, g 41, g 42, g 43, g 44, g 45, g 46, g 47, g 48, g 49, g 50, g 51, g 52, g 53, g 54, g 55, g 56, g 57, g 58, g 59, g 60, g 61, g 62, g 63, g 64, g 65, g 66, g 67, g 68, g 69, g 70, g 71, g 72, g 73, g 74, g 75, g 76, g 77, g 78, g 79, g 80, g 81, g 82, g 83, g 84, g 85, g 86, g 87, g 88, g 89, g 90, g 91, g 92, g 93, g 94, g 95, g 96, g 97], ⟨[((.pair .leaf (.pair .leaf (.pair .leaf (.pair .leaf (.pair .leaf (.pair .leaf .unit)))))), cellD c), (txSh, txD t)], []⟩⟩ ∧ n = c.me.length - k ∧ k ≤ c.me.length) c.me.length ⟨0, by simp only [List.take_zero, List.all_nil, Bool.and_true]; exact reg_intro rfl rfl ⟨by simp, by omega⟩⟩ ?_
  rintro n st ⟨k, g, rfl, hn, hk⟩
  simp only [go_sem, simprocAttr, hd]
  refine condK_split (fun hc => ?_) (fun hc => ?_)
  · have hk' : k < c.me.length := by have := of_decide_eq_true hc; omega
    have hml := l6 _ (getD_mem hk')
    have hsn := all_snocG (fun x : MemberR => x.marks.all (befM t 1)) c.me hk'
    generalize hB : ((c.am.all (fun a => befM t 1 a.m) && c.wr.all (fun a => befM t 1 a.m)) && (c.me.take k).all (fun x : MemberR => x.marks.all (befM t 1))) = B
    simp only [go_sem, simprocAttr, hd]
    refine awp_loop (fun n s => ∃ (j : Nat) (g : Nat → D), s = ⟨[g 0, g 1, .ptr 0 [], .ptr 1 [], g 4, .bool (B && ((c.me.getD k default).marks.take j).all (befM t 1)), g 6, g 7, .lit (.int .i64 k), .lit (.int .i64 j), g 10, g 11, g 12, g 13, g 14, g 15, g 16, g 17, g 18, g 19, g 20, g 21, g 22, g 23, g 24, g 25, g 26, g 27, g 28, g 29, g 30, g 31, g 32, g 33, g 34, g 35, g 36, g 37, g 38, g 39, g 40, g 41, g 42, g 43, g 44, g 45, g 46, g 47, g 48, g 49, g 50, g 51, g 52, g 53, g 54, g 55, g 56, g 57, g 58, g 59, g 60, g 61, g 62, g 63, g 64, g 65, g 66, g 67, g 68, g 69, g 70, g 71, g 72, g 73, g 74, g 75, g 76, g 77, g 78, g 79, g 80, g 81, g 82, g 83, g 84, g 85, g 86, g 87, g 88, g 89, g 90, g 91, g 92, g 93, g 94, g 95, g 96, g 97], ⟨[((.pair .leaf (.pair .leaf (.pair .leaf (.pair .leaf (.pair .leaf (.pair .leaf .unit)))))), cellD c), (txSh, txD t)], []⟩⟩ ∧ n = (c.me.getD k default).marks.length - j ∧ j ≤ (c.me.getD k default).marks.length) (c.me.getD k default).marks.length ⟨0, by simp only [List.take_zero, List.all_nil, Bool.and_true]; exact reg_intro rfl rfl ⟨by simp, by omega⟩⟩ ?_
    rintro n st ⟨j, g, rfl, hn, hj⟩
    simp only [go_sem, simprocAttr, hd, hk', get_me, meAt]
    refine condK_split (fun hc2 => ?_) (fun hc2 => ?_)
    · have hj' : j < (c.me.getD k default).marks.length := by have := of_decide_eq_true hc2; omega
      have hsj := all_snocG (befM t 1) (c.me.getD k default).marks hj'
      refine .inl ⟨by kernel_rfl, ?_⟩
      cases hb : (B && ((c.me.getD k default).marks.take j).all (befM t 1)) with
      | false =>
        simp only [go_sem, simprocAttr, hd, hk', hj', wrapNat j (by omega)]
        exact ⟨(c.me.getD k default).marks.length - (j + 1), by omega, j + 1, by rw [hsj, ← Bool.and_assoc, hb]; exact reg_intro rfl rfl ⟨rfl, by omega⟩⟩
      | true =>
        simp only [go_sem, simprocAttr, hd, hk', hj', get_me, get_mk, meAt]
        refine callD_pure (args' := [((c.me.getD k default).marks.getD j default).d, txD t, .lit (.int .i64 1)]) (ref_before ((c.me.getD k default).marks.getD j default).p ((c.me.getD k default).marks.getD j default).s ((c.me.getD k default).marks.getD j default).i t 1 hd) (by first | rfl | (simp only [go_sem, hd]; done)) (by first | (simp only [go_sem, hd]; done) | (simp [pureL, pureD]; done)) ?_
        simp only [go_sem, simprocAttr, hd, wrapNat j (by omega)]
        exact ⟨(c.me.getD k default).marks.length - (j + 1), by omega, j + 1, by rw [hsj, ← Bool.and_assoc, hb, Bool.true_and]; exact reg_intro rfl rfl ⟨rfl, by omega⟩⟩
    · have hi2 := of_decide_eq_false hc2
      obtain rfl : j = (c.me.getD k default).marks.length := by omega
      rw [List.take_length]
      simp only [go_sem, simprocAttr, hd, wrapNat k (by omega)]
      exact ⟨c.me.length - (k + 1), by omega, k + 1, by rw [hsn, ← Bool.and_assoc, hB]; exact reg_intro rfl rfl ⟨rfl, by omega⟩⟩
  have hi := of_decide_eq_false hc
  obtain rfl : k = c.me.length := by omega
  clear hn hk hc hi
  simp only [go_sem, simprocAttr, hd, List.take_length]
  refine awp_loop (fun n s => ∃ (k : Nat) (g : Nat → D), s = ⟨[g 0, g 1, .ptr 0 [], .ptr 1 [], g 4, .bool (((c.am.all (fun a => befM t 1 a.m) && c.wr.all (fun a => befM t 1 a.m)) && c.me.all (fun x => x.marks.all (befM t 1))) && (c.el.take k).all (fun a : ElemR => befM t 1 a.m)), g 6, g 7, g 8, g 9, .lit (.int .i64 k), g 11, g 12, g 13, g 14, g 15, g 16, g 17, g 18, g 19, g 20, g 21, g 22, g 23, g 24, g 25, g 26, g 27, g 28, g 29, g 30, g 31, g 32, g 33, g 34, g 35, g 36, g 37, g 38, g 39, g 40, g 41, g 42, g 43, g 44, g 45, g 46, g 47, g 48, g 49, g 50, g 51, g 52, g 53, g 54, g 55, g 56, g 57, g 58, g 59, g 60, g 61, g 62, g 63, g 64, g 65, g 66, g 67, g 68, g 69, g 70, g 71, g 72, g 73, g 74, g 75, g 76, g 77, g 78, g 79, g 80, g 81, g 82, g 83, g 84, g 85, g 86, g 87, g 88, g 89, g 90, g 91, g 92, g 93, g 94, g 95, g 96, g 97], ⟨[((.pair .leaf (.pair .leaf (.pair .leaf (.pair .leaf (.pair .leaf (.pair .leaf .unit)))))), cellD c), (txSh, txD t)], []⟩⟩ ∧ n = c.el.length - k ∧ k ≤ c.el.length) c.el.length ⟨0, by simp only [List.take_zero, List.all_nil, Bool.and_true]; exact reg_intro rfl rfl ⟨by simp, by omega⟩⟩ ?_
  rintro n st ⟨k, g, rfl, hn, hk⟩
  simp only [go_sem, simprocAttr, hd]
  refine condK_split (fun hc => ?_) (fun hc => ?_)
  · have hk' : k < c.el.length := by have := of_decide_eq_true hc; omega
    have hsn := all_snocG (fun a : ElemR => befM t 1 a.m) c.el hk'
    refine .inl ⟨by kernel_rfl, ?_⟩
    cases hb : (((c.am.all (fun a => befM t 1 a.m) && c.wr.all (fun a => befM t 1 a.m)) && c.me.all (fun x => x.marks.all (befM t 1))) && (c.el.take k).all (fun a : ElemR => befM t 1 a.m)) with
    | false =>
      simp only [go_sem, simprocAttr, hd, hk', wrapNat k (by omega)]
      exact ⟨c.el.length - (k + 1), by omega, k + 1, by rw [hsn, ← Bool.and_assoc, hb]; exact reg_intro rfl rfl ⟨rfl, by omega⟩⟩
    | true =>
      simp only [go_sem, simprocAttr, hd, hk', get_elL]
      refine callD_pure (args' := [(c.el.getD k default).m.d, txD t, .lit (.int .i64 1)]) (ref_before (c.el.getD k default).m.p (c.el.getD k default).m.s (c.el.getD k default).m.i t 1 hd) (by first | rfl | (simp only [go_sem, hd]; done)) (by first | (simp only [go_sem, hd]; done) | (simp [pureL, pureD]; done)) ?_
      simp only [go_sem, simprocAttr, hd, wrapNat k (by omega)]
      exact ⟨c.el.length - (k + 1), by omega, k + 1, by rw [hsn, ← Bool.and_assoc, hb, Bool.true_and]; exact reg_intro rfl rfl ⟨rfl, by omega⟩⟩
  have hi := of_decide_eq_false hc
  obtain rfl : k = c.el.length := by omega
  clear hn hk hc hi
  simp only [go_sem, simprocAttr, hd, List.take_length]
  rfl
set_option maxRecDepth 8000 in
set_option maxHeartbeats 8000000 in
theorem law_cellclears (c : CellR) (t : TxR) (hc : c.wide) (hd : t.deps.length = 13) : PSpec Tryz.prog CT 4 [cellD c, txD t] (· = .bool true) := by
  refine PSpec.of hT Tryz.func4 rfl (by kernel_rfl) rfl rfl ?_
  simp only [Tryz.f4, go_sem, simprocAttr, hd]
  cases h1 : fewC c with
  | false =>
    refine callK_pure (ref_few08 c hc.ok) (by simp only [go_sem, h1, hd]) (by simp only [go_sem, h1, hd]) ?_; simp only [go_sem, simprocAttr, h1, hd]
    refine callK_pure (heads12) (by simp only [go_sem, h1]) (by simp only [go_sem, h1]) ?_; simp only [go_sem, simprocAttr, h1]
  | true =>
  refine callK_pure (ref_few08 c hc.ok) (by simp only [go_sem, h1, hd]) (by simp only [go_sem, h1, hd]) ?_; simp only [go_sem, simprocAttr, h1, hd]
  have sm := few_smb h1
  have sm1 := few_sm12 h1
  cases h2 : checkW c with
  | false =>
    refine callK_pure (ref12_check c sm1) (by simp only [go_sem, h2, hd]) (by simp only [go_sem, h2, hd]) ?_; simp only [go_sem, simprocAttr, h2, hd]
    refine callK_pure (heads12) (by simp only [go_sem, h1]) (by simp only [go_sem, h1]) ?_; simp only [go_sem, simprocAttr, h1]
  | true =>
  refine callK_pure (ref12_check c sm1) (by simp only [go_sem, h2, hd]) (by simp only [go_sem, h2, hd]) ?_; simp only [go_sem, simprocAttr, h2, hd]
  cases h6 : smallTx t with
  | false =>
    refine callK_pure (ref_small t hd) (by simp only [go_sem, h6, hd]) (by simp only [go_sem, h6, hd]) ?_; simp only [go_sem, simprocAttr, h6, hd]
    refine callK_pure (heads12) (by simp only [go_sem, h1]) (by simp only [go_sem, h1]) ?_; simp only [go_sem, simprocAttr, h1]
  | true =>
  refine callK_pure (ref_small t hd) (by simp only [go_sem, h6, hd]) (by simp only [go_sem, h6, hd]) ?_; simp only [go_sem, simprocAttr, h6, hd]
  cases h7 : allC c t with
  | false =>
    refine callK_pure (law12_all c t hd sm1) (by simp only [go_sem, h7, hd]) (by simp only [go_sem, h7, hd]) ?_; simp only [go_sem, simprocAttr, h7, hd]
    refine callK_pure (heads12) (by simp only [go_sem, h1]) (by simp only [go_sem, h1]) ?_; simp only [go_sem, simprocAttr, h1]
  | true =>
  refine callK_pure (law12_all c t hd sm1) (by simp only [go_sem, h7, hd]) (by simp only [go_sem, h7, hd]) ?_; simp only [go_sem, simprocAttr, h7, hd]
  rw [checkW_eq] at h2
  obtain ⟨e1, e2⟩ := clear_reads h2 h7
  have e3 : newR c.kind = newC c.kind := by rw [newR, if_pos e1]
  have sc : (clearC c t 1).sm := (clearC_sm sm t 1).sm (by omega) (by omega)
  refine callK_pure (cell_new c.kind) (by first | rfl | (simp only [go_sem]; done)) (by first | (simp only [go_sem]; done) | (simp [pureL, pureD]; done)) ?_
  rw [e3, if_pos e1]
  simp only [go_sem, simprocAttr, hd]
  refine .inl ⟨by kernel_rfl, ?_⟩
  try simp only [go_sem, simprocAttr, hd]
  refine callD_pure (cell_clear c t 1 hd sm1) (by simp only [go_sem, hd]) (by simp only [go_sem, hd]) ?_; simp only [go_sem, simprocAttr, hd]
  refine callD_pure (cell_read (clearC c t 1) sc) (by simp only [go_sem, hd]) (by simp only [go_sem, hd]) ?_; simp only [go_sem, simprocAttr, hd]
  refine callD_pure (cell_read (newC c.kind) (new_sm c.kind)) (by simp only [go_sem, hd]) (by simp only [go_sem, hd]) ?_; simp only [go_sem, simprocAttr, hd]
  have hv : (readC (newC c.kind)).texts.length < 4000000000 := by rw [read_new c.kind e1]; simp
  rw [e2]
  generalize readC (newC c.kind) = v at *
  refine callD_pure (ref_values v hv) (by simp only [go_sem, hd]) (by simp only [go_sem, hd]) ?_; simp only [go_sem, simprocAttr, hd]
  refine callD_pure (heads12) (by simp only [go_sem, hd]) (by simp only [go_sem, hd]) ?_; simp only [go_sem, simprocAttr, hd]
end Go.Ab
