/- Registers: the document's comparisons, of what is the same. Conditions: none. -/
import Derived.Test.YtehcjnendfpbaaaGreatReA
import Derived.Test.YtehcjnendfpbaaaGreatSoA
import Derived.Test.YtehcjnendfpbaaaGreatReH
open Nat (reduceAdd reduceSub reduceMul reduceLT reduceLeDiff reduceEqDiff)
open Int (reduceToNat reduceLE reduceEq)
set_option linter.unusedSimpArgs false
namespace Go.Ab
open Go.Proofs

def a09 : ByteArray := ⟨#[97]⟩
def b09 : ByteArray := ⟨#[98]⟩
def c09t : ByteArray := ⟨#[99]⟩

theorem get_pen {α : Type} (l : List α) (a b : α) : (l ++ [a] ++ [b])[l.length]? = some a := by simp
theorem set_pen {α : Type} (l : List α) (a b c : α) : (l ++ [a] ++ [b]).set l.length c = l ++ [c] ++ [b] := by simp
theorem len_snoc {α : Type} (l : List α) (a : α) : (l ++ [a]).length = l.length + 1 := by simp
theorem get_ult {α : Type} (l : List α) (a b : α) : (l ++ [a] ++ [b])[l.length + 1]? = some b := by simp
theorem set_ult {α : Type} (l : List α) (a b c : α) : (l ++ [a] ++ [b]).set (l.length + 1) c = l ++ [a] ++ [c] := by simp
theorem eqB_self (x : D) : eqB x x = true := by simp [eqB]

theorem ref_marks (l : List MarkR) (hl : l.length < 4000000000) : PSpec Tryz.prog CT 35 [marksD l .no, marksD l .no] (· = .bool true) := by
  refine PSpec.of hT Tryz.func35 rfl (by kernel_rfl) rfl rfl ?_
  simp only [Tryz.f35, go_sem, reduceAdd, reduceSub, reduceMul, reduceLT, reduceLeDiff, ↓reduceIte, reduceCtorEq, reduceEqDiff, reduceToNat, Int.reduceLT, reduceLE, reduceEq]
  refine awp_loop (fun n s => ∃ (k : Nat) (g : Nat → D), s = ⟨[marksD l .no, marksD l .no, g 2, g 3, g 4, .lit (.int .i64 k), g 6, g 7, g 8, g 9, g 10, g 11, g 12, g 13, g 14, g 15, g 16, g 17, g 18, g 19, g 20, g 21, g 22, g 23, g 24, g 25], ⟨[], []⟩⟩ ∧ n = l.length - k ∧ k ≤ l.length) l.length ⟨0, reg_intro rfl rfl ⟨by simp, by omega⟩⟩ ?_
  rintro n s ⟨k, g, rfl, hn, hk⟩
  simp only [go_sem, reduceAdd, reduceSub, reduceMul, reduceLT, reduceLeDiff, ↓reduceIte, reduceCtorEq, reduceEqDiff, reduceToNat, Int.reduceLT, reduceLE, reduceEq]
  refine condK_split (fun hc => ?_) (fun hc => ?_)
  · have hk' : k < l.length := by have := of_decide_eq_true hc; omega
    refine .inl ⟨by kernel_rfl, ?_⟩
    simp only [go_sem, reduceAdd, reduceSub, reduceMul, reduceLT, reduceLeDiff, ↓reduceIte, reduceCtorEq, reduceEqDiff, reduceToNat, Int.reduceLT, reduceLE, reduceEq, hk', get_enc, eqB_self, Bool.not_true, wrapNat k (by omega)]
    exact ⟨l.length - (k + 1), by omega, k + 1, reg_intro rfl rfl ⟨rfl, by omega⟩⟩
  · simp only [go_sem, reduceAdd, reduceSub, reduceMul, reduceLT, reduceLeDiff, ↓reduceIte, reduceCtorEq, reduceEqDiff, reduceToNat, Int.reduceLT, reduceLE, reduceEq]


theorem ref_members (l : List MemberR) (hl : l.length < 4000000000) (hm : ∀ m ∈ l, m.marks.length < 4000000000) : PSpec Tryz.prog CT 34 [.lst 67 (l.map meD) .no, .lst 67 (l.map meD) .no] (· = .bool true) := by
  refine PSpec.of hT Tryz.func34 rfl (by kernel_rfl) rfl rfl ?_
  simp only [Tryz.f34, go_sem, reduceAdd, reduceSub, reduceMul, reduceLT, reduceLeDiff, ↓reduceIte, reduceCtorEq, reduceEqDiff, reduceToNat, Int.reduceLT, reduceLE, reduceEq]
  refine awp_loop (fun n s => ∃ (k : Nat) (g : Nat → D), s = ⟨[.lst 67 (l.map meD) .no, .lst 67 (l.map meD) .no, g 2, g 3, g 4, .lit (.int .i64 k), g 6, g 7, g 8, g 9, g 10, g 11, g 12, g 13, g 14, g 15, g 16, g 17, g 18, g 19, g 20, g 21, g 22, g 23, g 24, g 25, g 26, g 27, g 28, g 29, g 30, g 31, g 32, g 33, g 34, g 35, g 36, g 37, g 38, g 39, g 40, g 41, g 42, g 43, g 44, g 45, g 46, g 47, g 48, g 49, g 50, g 51, g 52, g 53, g 54], ⟨[], []⟩⟩ ∧ n = l.length - k ∧ k ≤ l.length) l.length ⟨0, reg_intro rfl rfl ⟨by simp, by omega⟩⟩ ?_
  rintro n s ⟨k, g, rfl, hn, hk⟩
  simp only [go_sem, reduceAdd, reduceSub, reduceMul, reduceLT, reduceLeDiff, ↓reduceIte, reduceCtorEq, reduceEqDiff, reduceToNat, Int.reduceLT, reduceLE, reduceEq]
  refine condK_split (fun hc => ?_) (fun hc => ?_)
  · have hk' : k < l.length := by have := of_decide_eq_true hc; omega
    have hmk : (l.getD k default).marks.length < 4000000000 := hm _ (by rw [List.getD_eq_getElem?_getD, List.getElem?_eq_getElem hk']; exact List.getElem_mem hk')
    refine .inl ⟨by kernel_rfl, ?_⟩
    simp only [go_sem, reduceAdd, reduceSub, reduceMul, reduceLT, reduceLeDiff, ↓reduceIte, reduceCtorEq, reduceEqDiff, reduceToNat, Int.reduceLT, reduceLE, reduceEq, hk', get_enc, eqB_self, Bool.not_true, decide_true]
    refine callD_pure (ref_marks (l.getD k default).marks hmk) (by simp only [go_sem, reduceAdd, reduceSub, reduceMul, reduceLT, reduceLeDiff, ↓reduceIte, reduceCtorEq, reduceEqDiff, reduceToNat, Int.reduceLT, reduceLE, reduceEq]) (by simp only [go_sem, reduceAdd, reduceSub, reduceMul, reduceLT, reduceLeDiff, ↓reduceIte, reduceCtorEq, reduceEqDiff, reduceToNat, Int.reduceLT, reduceLE, reduceEq]) ?_
    simp only [go_sem, reduceAdd, reduceSub, reduceMul, reduceLT, reduceLeDiff, ↓reduceIte, reduceCtorEq, reduceEqDiff, reduceToNat, Int.reduceLT, reduceLE, reduceEq, Bool.not_true, wrapNat k (by omega)]
    exact ⟨l.length - (k + 1), by omega, k + 1, reg_intro rfl rfl ⟨rfl, by omega⟩⟩
  · simp only [go_sem, reduceAdd, reduceSub, reduceMul, reduceLT, reduceLeDiff, ↓reduceIte, reduceCtorEq, reduceEqDiff, reduceToNat, Int.reduceLT, reduceLE, reduceEq]


set_option maxRecDepth 8000 in
set_option maxHeartbeats 4000000 in
theorem ref_same (c : CellR) (ha : c.am.length < 4000000000) (hw : c.wr.length < 4000000000) (hm : c.me.length < 4000000000) (he : c.el.length < 4000000000) (hmm : ∀ m ∈ c.me, m.marks.length < 4000000000) (heg : ∀ e ∈ c.el, e.gone.length < 4000000000) :
    PSpec Tryz.prog CT 13 [cellD c, cellD c] (· = .bool true) := by
  refine PSpec.of hT Tryz.func13 rfl (by kernel_rfl) rfl rfl ?_
  simp only [Tryz.f13, go_sem, reduceAdd, reduceSub, reduceMul, reduceLT, reduceLeDiff, ↓reduceIte, reduceCtorEq, reduceEqDiff, reduceToNat, Int.reduceLT, reduceLE, reduceEq, eqB_self, Bool.not_true, decide_true]
  refine callK_pure (args' := [.lst 67 (c.me.map meD) .no, .lst 67 (c.me.map meD) .no]) (ref_members c.me hm hmm) (by simp only [go_sem, reduceAdd, reduceSub, reduceMul, reduceLT, reduceLeDiff, ↓reduceIte, reduceCtorEq, reduceEqDiff, reduceToNat, Int.reduceLT, reduceLE, reduceEq]) (by simp only [go_sem, reduceAdd, reduceSub, reduceMul, reduceLT, reduceLeDiff, ↓reduceIte, reduceCtorEq, reduceEqDiff, reduceToNat, Int.reduceLT, reduceLE, reduceEq]) ?_
  simp only [go_sem, reduceAdd, reduceSub, reduceMul, reduceLT, reduceLeDiff, ↓reduceIte, reduceCtorEq, reduceEqDiff, reduceToNat, Int.reduceLT, reduceLE, reduceEq, Bool.not_true]
  refine awp_loop (fun n s => ∃ (k : Nat) (g : Nat → D), s = ⟨[g 0, g 1, .ptr 0 [], .ptr 1 [], g 4, .lit (.int .i64 k), g 6, g 7, g 8, g 9, g 10, g 11, g 12, g 13, g 14, g 15, g 16, g 17, g 18, g 19, g 20, g 21, g 22, g 23, g 24, g 25, g 26, g 27, g 28, g 29, g 30, g 31, g 32, g 33, g 34, g 35, g 36, g 37, g 38, g 39, g 40, g 41, g 42, g 43, g 44, g 45, g 46, g 47, g 48, g 49, g 50, g 51, g 52, g 53, g 54, g 55, g 56, g 57, g 58, g 59, g 60, g 61, g 62, g 63, g 64, g 65, g 66, g 67, g 68, g 69, g 70, g 71, g 72, g 73, g 74, g 75, g 76, g 77, g 78, g 79, g 80, g 81, g 82, g 83, g 84, g 85, g 86, g 87, g 88, g 89, g 90, g 91, g 92, g 93, g 94, g 95, g 96, g 97, g 98, g 99, g 100, g 101, g 102, g 103, g 104, g 105, g 106, g 107, g 108, g 109, g 110, g 111, g 112, g 113, g 114, g 115, g 116, g 117, g 118, g 119, g 120, g 121, g 122, g 123, g 124, g 125, g 126, g 127, g 128, g 129, g 130, g 131, g 132, g 133, g 134, g 135, g 136, g 137, g 138, g 139, g 140, g 141, g 142, g 143], ⟨[((.pair .leaf (.pair .leaf (.pair .leaf (.pair .leaf (.pair .leaf (.pair .leaf .unit)))))), cellD c), ((.pair .leaf (.pair .leaf (.pair .leaf (.pair .leaf (.pair .leaf (.pair .leaf .unit)))))), cellD c)], []⟩⟩ ∧ n = c.am.length - k ∧ k ≤ c.am.length) c.am.length ⟨0, reg_intro rfl rfl ⟨by simp, by omega⟩⟩ ?_
  rintro n s ⟨k, g, rfl, hn, hk⟩
  simp only [go_sem, reduceAdd, reduceSub, reduceMul, reduceLT, reduceLeDiff, ↓reduceIte, reduceCtorEq, reduceEqDiff, reduceToNat, Int.reduceLT, reduceLE, reduceEq]
  refine condK_split (fun hc => ?_) (fun hc => ?_)
  · have hk' : k < c.am.length := by have := of_decide_eq_true hc; omega
    refine .inl ⟨by kernel_rfl, ?_⟩
    simp only [go_sem, reduceAdd, reduceSub, reduceMul, reduceLT, reduceLeDiff, ↓reduceIte, reduceCtorEq, reduceEqDiff, reduceToNat, Int.reduceLT, reduceLE, reduceEq, hk', get_enc, eqB_self, Bool.not_true, wrapNat k (by omega)]
    exact ⟨c.am.length - (k + 1), by omega, k + 1, reg_intro rfl rfl ⟨rfl, by omega⟩⟩
  simp only [go_sem, reduceAdd, reduceSub, reduceMul, reduceLT, reduceLeDiff, ↓reduceIte, reduceCtorEq, reduceEqDiff, reduceToNat, Int.reduceLT, reduceLE, reduceEq]
  clear hn hk hc
  refine awp_loop (fun n s => ∃ (k : Nat) (g : Nat → D), s = ⟨[g 0, g 1, .ptr 0 [], .ptr 1 [], g 4, g 5, .lit (.int .i64 k), g 7, g 8, g 9, g 10, g 11, g 12, g 13, g 14, g 15, g 16, g 17, g 18, g 19, g 20, g 21, g 22, g 23, g 24, g 25, g 26, g 27, g 28, g 29, g 30, g 31, g 32, g 33, g 34, g 35, g 36, g 37, g 38, g 39, g 40, g 41, g 42, g 43, g 44, g 45, g 46, g 47, g 48, g 49, g 50, g 51, g 52, g 53, g 54, g 55, g 56, g 57, g 58, g 59, g 60, g 61, g 62, g 63, g 64, g 65, g 66, g 67, g 68, g 69, g 70, g 71, g 72, g 73, g 74, g 75, g 76, g 77, g 78, g 79, g 80, g 81, g 82, g 83, g 84, g 85, g 86, g 87, g 88, g 89, g 90, g 91, g 92, g 93, g 94, g 95, g 96, g 97, g 98, g 99, g 100, g 101, g 102, g 103, g 104, g 105, g 106, g 107, g 108, g 109, g 110, g 111, g 112, g 113, g 114, g 115, g 116, g 117, g 118, g 119, g 120, g 121, g 122, g 123, g 124, g 125, g 126, g 127, g 128, g 129, g 130, g 131, g 132, g 133, g 134, g 135, g 136, g 137, g 138, g 139, g 140, g 141, g 142, g 143], ⟨[((.pair .leaf (.pair .leaf (.pair .leaf (.pair .leaf (.pair .leaf (.pair .leaf .unit)))))), cellD c), ((.pair .leaf (.pair .leaf (.pair .leaf (.pair .leaf (.pair .leaf (.pair .leaf .unit)))))), cellD c)], []⟩⟩ ∧ n = c.wr.length - k ∧ k ≤ c.wr.length) c.wr.length ⟨0, reg_intro rfl rfl ⟨by simp, by omega⟩⟩ ?_
  rintro n s ⟨k, g, rfl, hn, hk⟩
  simp only [go_sem, reduceAdd, reduceSub, reduceMul, reduceLT, reduceLeDiff, ↓reduceIte, reduceCtorEq, reduceEqDiff, reduceToNat, Int.reduceLT, reduceLE, reduceEq]
  refine condK_split (fun hc => ?_) (fun hc => ?_)
  · have hk' : k < c.wr.length := by have := of_decide_eq_true hc; omega
    refine .inl ⟨by kernel_rfl, ?_⟩
    simp only [go_sem, reduceAdd, reduceSub, reduceMul, reduceLT, reduceLeDiff, ↓reduceIte, reduceCtorEq, reduceEqDiff, reduceToNat, Int.reduceLT, reduceLE, reduceEq, hk', get_enc, eqB_self, Bool.not_true, wrapNat k (by omega)]
    exact ⟨c.wr.length - (k + 1), by omega, k + 1, reg_intro rfl rfl ⟨rfl, by omega⟩⟩
  simp only [go_sem, reduceAdd, reduceSub, reduceMul, reduceLT, reduceLeDiff, ↓reduceIte, reduceCtorEq, reduceEqDiff, reduceToNat, Int.reduceLT, reduceLE, reduceEq]
  clear hn hk hc
  refine awp_loop (fun n s => ∃ (k : Nat) (ex : List (Sh × D)) (g : Nat → D), s = ⟨[g 0, g 1, .ptr 0 [], .ptr 1 [], g 4, g 5, g 6, .lit (.int .i64 k), g 8, g 9, g 10, g 11, g 12, g 13, g 14, g 15, g 16, g 17, g 18, g 19, g 20, g 21, g 22, g 23, g 24, g 25, g 26, g 27, g 28, g 29, g 30, g 31, g 32, g 33, g 34, g 35, g 36, g 37, g 38, g 39, g 40, g 41, g 42, g 43, g 44, g 45, g 46, g 47, g 48, g 49, g 50, g 51, g 52, g 53, g 54, g 55, g 56, g 57, g 58, g 59, g 60, g 61, g 62, g 63, g 64, g 65, g 66, g 67, g 68, g 69, g 70, g 71, g 72, g 73, g 74, g 75, g 76, g 77, g 78, g 79, g 80, g 81, g 82, g 83, g 84, g 85, g 86, g 87, g 88, g 89, g 90, g 91, g 92, g 93, g 94, g 95, g 96, g 97, g 98, g 99, g 100, g 101, g 102, g 103, g 104, g 105, g 106, g 107, g 108, g 109, g 110, g 111, g 112, g 113, g 114, g 115, g 116, g 117, g 118, g 119, g 120, g 121, g 122, g 123, g 124, g 125, g 126, g 127, g 128, g 129, g 130, g 131, g 132, g 133, g 134, g 135, g 136, g 137, g 138, g 139, g 140, g 141, g 142, g 143], ⟨((.pair .leaf (.pair .leaf (.pair .leaf (.pair .leaf (.pair .leaf (.pair .leaf .unit)))))), cellD c) :: ((.pair .leaf (.pair .leaf (.pair .leaf (.pair .leaf (.pair .leaf (.pair .leaf .unit)))))), cellD c) :: ex, []⟩⟩ ∧ n = c.el.length - k ∧ k ≤ c.el.length) c.el.length ⟨0, _, reg_intro rfl rfl ⟨by simp, by omega⟩⟩ ?_
  rintro n s ⟨k, ex, g, rfl, hn, hk⟩
  simp only [go_sem, reduceAdd, reduceSub, reduceMul, reduceLT, reduceLeDiff, ↓reduceIte, reduceCtorEq, reduceEqDiff, reduceToNat, Int.reduceLT, reduceLE, reduceEq]
  refine condK_split (fun hc => ?_) (fun hc => ?_)
  · have hk' : k < c.el.length := by have := of_decide_eq_true hc; omega
    have hgk : (c.el.getD k default).gone.length < 4000000000 := heg _ (by rw [List.getD_eq_getElem?_getD, List.getElem?_eq_getElem hk']; exact List.getElem_mem hk')
    refine .inr (drawN_many [5, 6, 8, 9, 12] [[0, 1, 2, 3, 4, 10, 11, 12, 5, 6, 7, 8, 9, 13], [0, 1, 2, 3, 4, 5, 10, 11, 12, 6, 7, 8, 9, 13], [0, 1, 2, 3, 4, 5, 6, 10, 11, 12, 7, 8, 9, 13], [0, 1, 2, 3, 4, 5, 6, 7, 8, 10, 11, 12, 9, 13], [0, 1, 2, 3, 4, 5, 6, 7, 8, 9, 10, 11, 12, 13], [0, 1, 2, 3, 4, 11, 10, 12, 5, 6, 7, 8, 9, 13], [0, 1, 2, 3, 4, 5, 11, 10, 12, 6, 7, 8, 9, 13], [0, 1, 2, 3, 4, 5, 6, 11, 10, 12, 7, 8, 9, 13], [0, 1, 2, 3, 4, 5, 6, 7, 8, 11, 10, 12, 9, 13], [0, 1, 2, 3, 4, 5, 6, 7, 8, 9, 11, 10, 12, 13]] (by kernel_rfl) ?_)
    intro ord ho
    simp only [List.mem_cons, List.not_mem_nil, or_false] at ho
    rcases ho with rfl | rfl | rfl | rfl | rfl | rfl | rfl | rfl | rfl | rfl
    all_goals
      simp only [go_sem, reduceAdd, reduceSub, reduceMul, reduceLT, reduceLeDiff, ↓reduceIte, reduceCtorEq, reduceEqDiff, reduceToNat, Int.reduceLT, reduceLE, reduceEq, hk', get_enc, eqB_self, get_pen, set_pen, len_snoc, get_ult, set_ult, Bool.not_true, decide_true]
      refine callK_pure (ref_marks (c.el.getD k default).gone hgk) (by first | rfl | simp only [go_sem, reduceAdd, reduceSub, reduceMul, reduceLT, reduceLeDiff, ↓reduceIte, reduceCtorEq, reduceEqDiff, reduceToNat, Int.reduceLT, reduceLE, reduceEq]) (by first | exact ⟨trivial, trivial, trivial⟩ | simp only [go_sem, reduceAdd, reduceSub, reduceMul, reduceLT, reduceLeDiff, ↓reduceIte, reduceCtorEq, reduceEqDiff, reduceToNat, Int.reduceLT, reduceLE, reduceEq] | simp [pureL, pureD]) ?_
      simp only [go_sem, reduceAdd, reduceSub, reduceMul, reduceLT, reduceLeDiff, ↓reduceIte, reduceCtorEq, reduceEqDiff, reduceToNat, Int.reduceLT, reduceLE, reduceEq, Bool.not_true, wrapNat k (by omega)]
      exact ⟨c.el.length - (k + 1), by omega, k + 1, _, reg_intro rfl rfl ⟨rfl, by omega⟩⟩
  simp only [go_sem, reduceAdd, reduceSub, reduceMul, reduceLT, reduceLeDiff, ↓reduceIte, reduceCtorEq, reduceEqDiff, reduceToNat, Int.reduceLT, reduceLE, reduceEq]
end Go.Ab
set_option linter.unusedSimpArgs false
namespace Go.Ab
open Go.Proofs

theorem inv_markR {d : D} (h : HasTy CT 36 d) : ∃ m : MarkR, d = m.d ∧ True := by
  obtain ⟨p, s, i, rfl⟩ := inv_mark h
  exact ⟨⟨p, s, i⟩, rfl, trivial⟩
theorem inv_marks {d : D} (h : HasTy CT 65 d) : ∃ l : List MarkR, d = marksD l .no ∧ l.length ≤ 9000000000000 := by
  obtain ⟨l, rfl, h1, h2⟩ := h.inv_sliceB ty65
  obtain ⟨m, rfl, _⟩ := all_of (enc := MarkR.d) (Q := fun _ => True) fun x hx => inv_markR (h2 x hx)
  exact ⟨m, rfl, by have : CT.bytes 36 = 24 := rfl; rw [List.length_map, this] at h1; omega⟩
theorem inv_am {d : D} (h : HasTy CT 72 d) : ∃ a : AmountR, d = amD a ∧ i64ok a.n := by
  obtain ⟨l, rfl, hl⟩ := h.inv_struct ty72
  have hlen := hl.1
  match l, hl with
  | [a, b], hl =>
    obtain ⟨h1, hl⟩ := hl.head
    obtain ⟨h2, _⟩ := hl.head
    obtain ⟨m, rfl, _⟩ := inv_markR h1
    obtain ⟨n, rfl, hn⟩ := h2.inv_i64 ty3
    exact ⟨⟨m, n⟩, rfl, hn⟩
  | [], hl => exact absurd hlen (by simp)
  | [_], hl => exact absurd hlen (by simp)
  | _ :: _ :: _ :: _, hl => exact absurd hlen (by simp)
theorem inv_wr {d : D} (h : HasTy CT 64 d) : ∃ w : WriteR, d = wrD w ∧ i64ok w.time := by
  obtain ⟨l, rfl, hl⟩ := h.inv_struct ty64
  have hlen := hl.1
  match l, hl with
  | [a, b, c], hl =>
    obtain ⟨h1, hl⟩ := hl.head
    obtain ⟨h2, hl⟩ := hl.head
    obtain ⟨h3, _⟩ := hl.head
    obtain ⟨m, rfl, _⟩ := inv_markR h1
    obtain ⟨n, rfl, hn⟩ := h2.inv_i64 ty3
    obtain ⟨x, rfl, _⟩ := h3.inv_str ty9
    exact ⟨⟨m, n, x⟩, rfl, hn⟩
  | [], hl => exact absurd hlen (by simp)
  | [_], hl => exact absurd hlen (by simp)
  | [_, _], hl => exact absurd hlen (by simp)
  | _ :: _ :: _ :: _ :: _, hl => exact absurd hlen (by simp)
theorem inv_me {d : D} (h : HasTy CT 67 d) : ∃ m : MemberR, d = meD m ∧ m.marks.length ≤ 9000000000000 := by
  obtain ⟨l, rfl, hl⟩ := h.inv_struct ty67
  have hlen := hl.1
  match l, hl with
  | [a, b, c], hl =>
    obtain ⟨h1, hl⟩ := hl.head
    obtain ⟨h2, hl⟩ := hl.head
    obtain ⟨h3, _⟩ := hl.head
    obtain ⟨x, rfl, _⟩ := h1.inv_str ty9
    obtain ⟨b, rfl⟩ := h2.inv_bool ty4
    obtain ⟨m, rfl, hm⟩ := inv_marks h3
    exact ⟨⟨x, b, m⟩, rfl, hm⟩
  | [], hl => exact absurd hlen (by simp)
  | [_], hl => exact absurd hlen (by simp)
  | [_, _], hl => exact absurd hlen (by simp)
  | _ :: _ :: _ :: _ :: _, hl => exact absurd hlen (by simp)
theorem inv_el {d : D} (h : HasTy CT 69 d) : ∃ e : ElemR, d = elD e ∧ i64ok e.time ∧ e.gone.length ≤ 9000000000000 := by
  obtain ⟨l, rfl, hl⟩ := h.inv_struct ty69
  have hlen := hl.1
  match l, hl with
  | [a, b, c, e, f], hl =>
    obtain ⟨h1, hl⟩ := hl.head
    obtain ⟨h2, hl⟩ := hl.head
    obtain ⟨h3, hl⟩ := hl.head
    obtain ⟨h4, hl⟩ := hl.head
    obtain ⟨h5, _⟩ := hl.head
    obtain ⟨m, rfl, _⟩ := inv_markR h1
    obtain ⟨n, rfl, hn⟩ := h2.inv_i64 ty3
    obtain ⟨r, rfl, _⟩ := inv_markR h3
    obtain ⟨x, rfl, _⟩ := h4.inv_str ty9
    obtain ⟨g, rfl, hg⟩ := inv_marks h5
    exact ⟨⟨m, n, r, x, g⟩, rfl, hn, hg⟩
  | [], hl => exact absurd hlen (by simp)
  | [_], hl => exact absurd hlen (by simp)
  | [_, _], hl => exact absurd hlen (by simp)
  | [_, _, _], hl => exact absurd hlen (by simp)
  | [_, _, _, _], hl => exact absurd hlen (by simp)
  | _ :: _ :: _ :: _ :: _ :: _ :: _, hl => exact absurd hlen (by simp)
/-- What a cell of the machine's is, as data. -/
structure CellR.wide (c : CellR) : Prop where
  ok : c.ok
  base : i64ok c.base
  kind : i64ok c.kind
  am : ∀ a ∈ c.am, i64ok a.n
  wr : ∀ w ∈ c.wr, i64ok w.time
  me : ∀ m ∈ c.me, m.marks.length ≤ 9000000000000
  el : ∀ e ∈ c.el, i64ok e.time ∧ e.gone.length ≤ 9000000000000
theorem inv_cell {d : D} (h : HasTy CT 27 d) : ∃ c : CellR, d = cellD c ∧ c.wide := by
  obtain ⟨l, rfl, hl⟩ := h.inv_struct ty27
  have hlen := hl.1
  match l, hl with
  | [a, b, c, e, f, g], hl =>
    obtain ⟨h1, hl⟩ := hl.head
    obtain ⟨h2, hl⟩ := hl.head
    obtain ⟨h3, hl⟩ := hl.head
    obtain ⟨h4, hl⟩ := hl.head
    obtain ⟨h5, hl⟩ := hl.head
    obtain ⟨h6, _⟩ := hl.head
    obtain ⟨kind, rfl, hk⟩ := h1.inv_i64 ty3
    obtain ⟨base, rfl, hb⟩ := h2.inv_i64 ty3
    obtain ⟨l3, rfl, b3, t3⟩ := h3.inv_sliceB ty22
    obtain ⟨m3, rfl, q3⟩ := all_of (enc := amD) (Q := fun a => i64ok a.n) fun x hx => inv_am (t3 x hx)
    obtain ⟨l4, rfl, b4, t4⟩ := h4.inv_sliceB ty23
    obtain ⟨m4, rfl, q4⟩ := all_of (enc := wrD) (Q := fun w => i64ok w.time) fun x hx => inv_wr (t4 x hx)
    obtain ⟨l5, rfl, b5, t5⟩ := h5.inv_sliceB ty24
    obtain ⟨m5, rfl, q5⟩ := all_of (enc := meD) (Q := fun m => m.marks.length ≤ 9000000000000) fun x hx => inv_me (t5 x hx)
    obtain ⟨l6, rfl, b6, t6⟩ := h6.inv_sliceB ty25
    obtain ⟨m6, rfl, q6⟩ := all_of (enc := elD) (Q := fun e => i64ok e.time ∧ e.gone.length ≤ 9000000000000) fun x hx => inv_el (t6 x hx)
    have y3 : 32 ≤ CT.bytes 72 := by decide
    have y4 : 32 ≤ CT.bytes 64 := by decide
    have y5 : 32 ≤ CT.bytes 67 := by decide
    have y6 : 32 ≤ CT.bytes 69 := by decide
    rw [List.length_map] at b3 b4 b5 b6
    have key : ∀ n b : Nat, n * b ≤ 140737488351232 → 32 ≤ b → n ≤ 4398046511104 := fun n b h1 h2 => by
      have : n * 32 ≤ n * b := Nat.mul_le_mul_left _ h2
      omega
    exact ⟨⟨kind, base, m3, m4, m5, m6⟩, rfl, ⟨key _ _ b3 y3, key _ _ b4 y4, key _ _ b5 y5, key _ _ b6 y6⟩, hb, hk, q3, q4, q5, q6⟩
  | [], hl => exact absurd hlen (by simp)
  | [_], hl => exact absurd hlen (by simp)
  | [_, _], hl => exact absurd hlen (by simp)
  | [_, _, _], hl => exact absurd hlen (by simp)
  | [_, _, _, _], hl => exact absurd hlen (by simp)
  | [_, _, _, _, _], hl => exact absurd hlen (by simp)
  | _ :: _ :: _ :: _ :: _ :: _ :: _ :: _, hl => exact absurd hlen (by simp)
end Go.Ab
set_option linter.unusedSimpArgs false
namespace Go.Ab
open Go.Proofs

/-- A set that is not great. -/
def SmS (a b : Nat) (c : CellR) : Prop := c.me.length ≤ a ∧ ∀ m ∈ c.me, m.marks.length ≤ b
def SideS (c d : CellR) : Prop := d.kind = c.kind ∧ d.base = c.base ∧ d.am = c.am ∧ d.wr = c.wr ∧ d.el = c.el
theorem addStep_sm {s : ByteArray} {own : MarkR} {b : Nat} {o : List MemberR × Bool} {m : MemberR} (hm : m.marks.length ≤ b) (ho : ∀ x ∈ o.1, x.marks.length ≤ b + 1) : ∀ x ∈ (addStep s own o m).1, x.marks.length ≤ b + 1 := by
  intro x hx
  unfold addStep at hx
  split at hx
  · rcases List.mem_append.1 hx with h | h
    · exact ho x h
    · rw [List.mem_singleton] at h; subst h
      have := with_len m.marks own; simp only; omega
  · split at hx
    · rcases List.mem_append.1 hx with h | h
      · rcases List.mem_append.1 h with h | h
        · exact ho x h
        · rw [List.mem_singleton] at h; subst h; simp
      · rw [List.mem_singleton] at h; subst h; omega
    · rcases List.mem_append.1 hx with h | h
      · exact ho x h
      · rw [List.mem_singleton] at h; subst h; omega
theorem addFold_sm {s : ByteArray} {own : MarkR} {b : Nat} : ∀ (l : List MemberR) (o : List MemberR × Bool), (∀ x ∈ l, x.marks.length ≤ b) → (∀ x ∈ o.1, x.marks.length ≤ b + 1) → ∀ x ∈ (l.foldl (addStep s own) o).1, x.marks.length ≤ b + 1
  | [], o, _, ho => ho
  | m :: r, o, hl, ho => addFold_sm r _ (fun x hx => hl x (List.mem_cons_of_mem _ hx)) (addStep_sm (hl m (List.mem_cons_self ..)) ho)
theorem addS_sm {a b : Nat} {c : CellR} (h : SmS a b c) (t : TxR) (i : Int) (s : ByteArray) : SmS (2 * a + 1) (b + 1) (addS c t i s) := by
  unfold addS
  split
  · exact ⟨by have := h.1; omega, fun m hm => by have := h.2 m hm; omega⟩
  · refine ⟨?_, ?_⟩
    · have := addMe_len c.me s ⟨t.peer, t.seq, i⟩
      have := h.1
      simp only; omega
    · intro m hm
      simp only [addMe, addEnd] at hm
      have hf := addFold_sm (s := s) (own := ⟨t.peer, t.seq, i⟩) c.me ([], false) h.2 (by simp)
      split at hm
      · exact hf m hm
      · rcases List.mem_append.1 hm with hm | hm
        · exact hf m hm
        · rw [List.mem_singleton] at hm; subst hm; simp
theorem woMe_len {t : TxR} {i : Int} {s : ByteArray} {all : Bool} {m y : MemberR} (h : woMe t i s all m = some y) : y.marks.length ≤ m.marks.length := by
  unfold woMe at h
  split at h
  · split at h
    · cases h
    · cases h; exact kept_len _ _
  · cases h; exact Nat.le_refl _
theorem woS_sm {a b : Nat} {c : CellR} (h : SmS a b c) (t : TxR) (i : Int) (s : ByteArray) (all : Bool) : SmS a b (woS c t i s all) := by
  refine ⟨Nat.le_trans (fm_len _ _) h.1, fun m hm => ?_⟩
  obtain ⟨x, hx, hy⟩ := List.mem_filterMap.1 hm
  exact Nat.le_trans (woMe_len hy) (h.2 x hx)
theorem delS_sm {a b : Nat} {c : CellR} (h : SmS a b c) (t : TxR) (i : Int) (s : ByteArray) : SmS a b (delS c t i s) := by
  unfold delS; split
  · exact h
  · exact woS_sm h _ _ _ _
theorem addS_side (c : CellR) (t : TxR) (i : Int) (s : ByteArray) : SideS c (addS c t i s) := by
  unfold addS; split <;> exact ⟨rfl, rfl, rfl, rfl, rfl⟩
theorem delS_side (c : CellR) (t : TxR) (i : Int) (s : ByteArray) : SideS c (delS c t i s) := by
  unfold delS; split <;> exact ⟨rfl, rfl, rfl, rfl, rfl⟩

def t10 : TxR := ⟨1, 1, zeros 13, 0, []⟩
def u10 : TxR := ⟨2, 1, zeros 13, 0, []⟩
def v10 : TxR := ⟨3, 1, (zeros 13).set 1 1, 0, []⟩
def c10 : CellR := ⟨4, 0, [], [], [], []⟩
def x10 : CellR := addS c10 t10 1 a09
def y10 : CellR := addS x10 t10 2 b09
def f10 : CellR := ⟨4, 0, [], [], [⟨a09, true, []⟩, ⟨b09, true, []⟩], []⟩
end Go.Ab
set_option linter.unusedSimpArgs false
namespace Go.Ab
open Go.Proofs

end Go.Ab
