/- Who is whose neighbour: messages held against each other; what must come at any rate. Conditions: none. -/
import Derived.Test.YtjafmlbcjhoflaaGreatOvI
import Derived.Test.YtjafmlbcjhoflaaGreatTxI
import Derived.Test.YtjafmlbcjhoflaaGreatViG
open Nat (reduceAdd reduceSub reduceMul reduceLT reduceLeDiff reduceEqDiff)
open Int (reduceToNat reduceLE reduceEq)
set_option linter.unusedSimpArgs false
namespace Go.Ab
open Go.Proofs

theorem conv_nil (u : TypeId) (tk : Tok) : convK CT 38 9 (.lst u [] tk) = some (.lit (.string ByteArray.empty)) := by
  simp only [convK, convA, strD, go_sem, reduceAdd, reduceSub, reduceMul, reduceLT, reduceLeDiff, ↓reduceIte, reduceCtorEq, reduceEqDiff, reduceToNat, Int.reduceLT, reduceLE, reduceEq]
  rfl
set_option maxRecDepth 8000 in
theorem ref04_same : PSpec Tryz.prog CT 107 [zTree .no, zTree .no] (· = .bool true) := by
  refine ASpec.of hT Tryz.func107 rfl (by kernel_rfl) rfl rfl ?_
  simp only [Tryz.f107, go_sem, reduceAdd, reduceSub, reduceMul, reduceLT, reduceLeDiff, ↓reduceIte, reduceCtorEq, reduceEqDiff, reduceToNat, Int.reduceLT, reduceLE, reduceEq, noHeap, decide_true, Bool.not_true]
  refine awp_loop (fun n s => ∃  (g : Nat → D), s = ⟨[g 0, g 1, .ptr 0 [], .ptr 1 [], g 4, .lit (.int .i64 0), g 6, g 7, g 8, g 9, g 10, g 11, g 12, g 13, g 14, g 15, g 16, g 17, g 18, g 19, g 20, g 21, g 22, g 23, g 24, g 25, g 26, g 27, g 28, g 29, g 30, g 31, g 32, g 33, g 34, g 35, g 36, g 37, g 38], ⟨[((.pair .leaf (.pair .leaf .unit)), zTree .no), ((.pair .leaf (.pair .leaf .unit)), zTree .no)], []⟩⟩ ∧ n = 0) 0 (reg_intro rfl rfl (rfl)) ?_
  rintro n st ⟨g, rfl, hn⟩
  simp only [go_sem, reduceAdd, reduceSub, reduceMul, reduceLT, reduceLeDiff, ↓reduceIte, reduceCtorEq, reduceEqDiff, reduceToNat, Int.reduceLT, reduceLE, reduceEq, List.length_nil, Int.natCast_zero, Int.cast_ofNat_Int, Int.reduceLT, decide_false]
theorem ref06_same : PSpec Tryz.prog CT 73 [.agg [zTree .no, zTree .no], .agg [zTree .no, zTree .no]] (· = .bool true) := by
  refine PSpec.of hT Tryz.func73 rfl (by kernel_rfl) rfl rfl ?_
  simp only [Tryz.f73, go_sem, reduceAdd, reduceSub, reduceMul, reduceLT, reduceLeDiff, ↓reduceIte, reduceCtorEq, reduceEqDiff, reduceToNat, Int.reduceLT, reduceLE, reduceEq]
  refine callK_pure ref04_same (by first | rfl | (simp only [go_sem]; done)) (by first | (simp only [go_sem]; done) | (simp [pureL, pureD]; done)) ?_
  simp only [go_sem, reduceAdd, reduceSub, reduceMul, reduceLT, reduceLeDiff, ↓reduceIte, reduceCtorEq, reduceEqDiff, reduceToNat, Int.reduceLT, reduceLE, reduceEq]
  refine callK_pure ref04_same (by first | rfl | (simp only [go_sem]; done)) (by first | (simp only [go_sem]; done) | (simp [pureL, pureD]; done)) ?_
  simp only [go_sem, reduceAdd, reduceSub, reduceMul, reduceLT, reduceLeDiff, ↓reduceIte, reduceCtorEq, reduceEqDiff, reduceToNat, Int.reduceLT, reduceLE, reduceEq]
def t0Z : TxR := ⟨0, 0, zeros 13, 0, []⟩
set_option maxRecDepth 8000 in
set_option maxHeartbeats 2000000 in
theorem ref26_same (m : MsgM) (hp : m.peers.length < 1000000) : PSpec Tryz.prog CT 44 [rawM .no .no m, rawM .no .no m] (· = .bool true) := by
  refine PSpec.of hT Tryz.func44 rfl (by kernel_rfl) rfl rfl ?_
  simp only [Tryz.f44, go_sem, reduceAdd, reduceSub, reduceMul, reduceLT, reduceLeDiff, ↓reduceIte, reduceCtorEq, reduceEqDiff, reduceToNat, Int.reduceLT, reduceLE, reduceEq, zeros_len, eqB_cons, eqB_nil, eqB_int, Bool.and_true, decide_true, beq_self_eq_true, Bool.not_true]
  refine callK_pure (args' := [txD t0Z, txD t0Z]) (ref07_same t0Z t0Z (by decide +kernel) (by decide +kernel) (by decide)) (by kernel_rfl) ⟨by simp [t0Z, pureD, pureL, pureL_ints], by simp [t0Z, pureD, pureL, pureL_ints], trivial⟩ ?_
  rw [show sameTx t0Z t0Z = true from by decide +kernel]
  simp only [go_sem, reduceAdd, reduceSub, reduceMul, reduceLT, reduceLeDiff, ↓reduceIte, reduceCtorEq, reduceEqDiff, reduceToNat, Int.reduceLT, reduceLE, reduceEq, zeros_len, conv_nil, eqB_cons, eqB_nil, eqB_int, Bool.and_true, decide_true, beq_self_eq_true]
  refine callK_pure (args' := [.agg [zTree .no, zTree .no], .agg [zTree .no, zTree .no]]) ref06_same (by first | rfl | (simp only [go_sem]; done)) (by first | (simp only [go_sem]; done) | (simp [pureL, pureD]; done)) ?_
  simp only [go_sem, reduceAdd, reduceSub, reduceMul, reduceLT, reduceLeDiff, ↓reduceIte, reduceCtorEq, reduceEqDiff, reduceToNat, Int.reduceLT, reduceLE, reduceEq, zeros_len, conv_nil, eqB_cons, eqB_nil, eqB_int, Bool.and_true, decide_true, beq_self_eq_true]
  refine callK_pure (ref18_ints m.peers m.peers (by omega)) (by first | rfl | (simp only [go_sem]; done)) (by first | (simp only [go_sem]; done) | (simp [pureL, pureD]; done)) ?_
  simp only [go_sem, reduceAdd, reduceSub, reduceMul, reduceLT, reduceLeDiff, ↓reduceIte, reduceCtorEq, reduceEqDiff, reduceToNat, Int.reduceLT, reduceLE, reduceEq, zeros_len, conv_nil, eqB_cons, eqB_nil, eqB_int, Bool.and_true, decide_true, beq_self_eq_true]
set_option maxRecDepth 8000 in
theorem ref26_rows (l : List MsgM) (hl : l.length < 1000000) (hp : ∀ m ∈ l, m.peers.length < 1000000) : PSpec Tryz.prog CT 16 [msgsD l, msgsD l] (· = .bool true) := by
  refine PSpec.of hT Tryz.func16 rfl (by kernel_rfl) rfl rfl ?_
  simp only [Tryz.f16, go_sem, reduceAdd, reduceSub, reduceMul, reduceLT, reduceLeDiff, ↓reduceIte, reduceCtorEq, reduceEqDiff, reduceToNat, Int.reduceLT, reduceLE, reduceEq, List.length_map, decide_true, Bool.not_true]
  refine awp_loop (fun n s => ∃ (k : Nat) (g : Nat → D), s = ⟨[msgsD l, msgsD l, g 2, g 3, g 4, .lit (.int .i64 k), g 6, g 7, g 8, g 9, g 10, g 11, g 12, g 13, g 14, g 15, g 16, g 17, g 18, g 19, g 20, g 21, g 22, g 23, g 24, g 25, g 26], ⟨[], []⟩⟩ ∧ n = l.length - k ∧ k ≤ l.length) l.length ⟨0, reg_intro rfl rfl ⟨by simp, by omega⟩⟩ ?_
  rintro n st ⟨k, g, rfl, hn, hk⟩
  simp only [go_sem, reduceAdd, reduceSub, reduceMul, reduceLT, reduceLeDiff, ↓reduceIte, reduceCtorEq, reduceEqDiff, reduceToNat, Int.reduceLT, reduceLE, reduceEq, List.length_map]
  refine condK_split (fun hc => ?_) (fun hc => ?_)
  · have hk' : k < l.length := by have := of_decide_eq_true hc; omega
    have hg : (l.map (rawM .no .no))[k]? = some (rawM .no .no l[k]) := by rw [List.getElem?_map, List.getElem?_eq_getElem hk']; rfl
    have hpk := hp l[k] (List.getElem_mem hk')
    generalize l[k] = m at *
    simp only [go_sem, reduceAdd, reduceSub, reduceMul, reduceLT, reduceLeDiff, ↓reduceIte, reduceCtorEq, reduceEqDiff, reduceToNat, Int.reduceLT, reduceLE, reduceEq, List.length_map, hk', hg, zeros_len]
    refine .inl ⟨by kernel_rfl, ?_⟩
    try simp only [go_sem, reduceAdd, reduceSub, reduceMul, reduceLT, reduceLeDiff, ↓reduceIte, reduceCtorEq, reduceEqDiff, reduceToNat, Int.reduceLT, reduceLE, reduceEq, List.length_map, hk', hg, zeros_len]
    refine callD_pure (args' := [rawM .no .no m, rawM .no .no m]) (ref26_same m hpk) (by first | rfl | (simp only [go_sem, zeros_len]; done)) (by first | (simp only [go_sem, zeros_len]; done) | (simp [pureL, pureD]; done)) ?_
    simp only [go_sem, reduceAdd, reduceSub, reduceMul, reduceLT, reduceLeDiff, ↓reduceIte, reduceCtorEq, reduceEqDiff, reduceToNat, Int.reduceLT, reduceLE, reduceEq, Bool.not_true, wrapNat k (by omega)]
    exact ⟨l.length - (k + 1), by omega, k + 1, reg_intro rfl rfl ⟨rfl, by omega⟩⟩
  · simp only [go_sem, reduceAdd, reduceSub, reduceMul, reduceLT, reduceLeDiff, ↓reduceIte, reduceCtorEq, reduceEqDiff, reduceToNat, Int.reduceLT, reduceLE, reduceEq]
end Go.Ab
set_option linter.unusedSimpArgs false
namespace Go.Ab
open Go.Proofs

def v27 : ViewR := ⟨1, [3], []⟩
def a27 : ViewR := ⟨1, [2, 3], []⟩
def w27 : ViewR := ⟨2, [], []⟩
def b27 : ViewR := ⟨2, [1], []⟩
def x27 : ViewR := ⟨1, [3], [5]⟩
def c27 : ViewR := ⟨1, [], [5]⟩
def l27 : MsgM := ⟨8, 1, 3, false, 2, 3, []⟩
def m27 : MsgM := ⟨7, 2, 1, false, 0, 0, []⟩
def n27 : MsgM := ⟨9, 1, 5, true, 0, 0, []⟩
def o27 : MsgM := ⟨12, 1, 3, false, 1, 2, sampleV a27 1⟩
theorem walks_spec : PSpec Tryz.prog CT 26 [] (· = .tup [.int 3, .int 1]) := by
  refine PSpec.of hT Tryz.func26 rfl (by kernel_rfl) rfl rfl ?_
  simp only [Tryz.f26, go_sem, reduceAdd, reduceSub, reduceMul, reduceLT, reduceLeDiff, ↓reduceIte, reduceCtorEq, reduceEqDiff, reduceToNat, Int.reduceLT, reduceLE, reduceEq]
set_option maxRecDepth 8000 in
set_option maxHeartbeats 4000000 in
theorem heads27 : PSpec Tryz.prog CT 9 [] (· = .bool true) := by
  have e1 : take7 v27 (joinM 2 1) 0 = (a27, [l27]) := by kernel_rfl
  have e2 : meetV w27 1 0 = (b27, [m27]) := by kernel_rfl
  have e3 : failV x27 3 0 = (c27, [n27]) := by kernel_rfl
  have e4 : tickV a27 1 = (a27, [o27]) := by kernel_rfl
  refine ASpec.of hT Tryz.func9 rfl (by kernel_rfl) rfl rfl ?_
  simp only [Tryz.f9, go_sem, reduceAdd, reduceSub, reduceMul, reduceLT, reduceLeDiff, ↓reduceIte, reduceCtorEq, reduceEqDiff, reduceToNat, Int.reduceLT, reduceLE, reduceEq, noHeap, zeros_len]
  refine callK_pure (args' := [viewD v27, rawM .no .no (joinM 2 1), .lit (.int .i64 0)]) (overlay_take7 v27 2 1 0 (by decide) (by decide)) (by kernel_rfl) (by simp only [go_sem, reduceAdd, reduceSub, reduceMul, reduceLT, reduceLeDiff, ↓reduceIte, reduceCtorEq, reduceEqDiff, reduceToNat, Int.reduceLT, reduceLE, reduceEq, joinM]) ?_
  rw [e1]
  simp only [go_sem, reduceAdd, reduceSub, reduceMul, reduceLT, reduceLeDiff, ↓reduceIte, reduceCtorEq, reduceEqDiff, reduceToNat, Int.reduceLT, reduceLE, reduceEq, zeros_len]
  refine callK_pure (args' := [viewD w27, .lit (.int .i64 1), .lit (.int .i64 0)]) (overlay_meet w27 1 0 (by decide) (by decide)) (by kernel_rfl) (by simp only [go_sem, reduceAdd, reduceSub, reduceMul, reduceLT, reduceLeDiff, ↓reduceIte, reduceCtorEq, reduceEqDiff, reduceToNat, Int.reduceLT, reduceLE, reduceEq]) ?_
  rw [e2]
  simp only [go_sem, reduceAdd, reduceSub, reduceMul, reduceLT, reduceLeDiff, ↓reduceIte, reduceCtorEq, reduceEqDiff, reduceToNat, Int.reduceLT, reduceLE, reduceEq, zeros_len]
  refine callK_pure (args' := [viewD x27, .lit (.int .i64 3), .lit (.int .i64 0)]) (overlay_fail x27 3 0 (by decide) (by decide)) (by kernel_rfl) (by simp only [go_sem, reduceAdd, reduceSub, reduceMul, reduceLT, reduceLeDiff, ↓reduceIte, reduceCtorEq, reduceEqDiff, reduceToNat, Int.reduceLT, reduceLE, reduceEq]) ?_
  rw [e3]
  simp only [go_sem, reduceAdd, reduceSub, reduceMul, reduceLT, reduceLeDiff, ↓reduceIte, reduceCtorEq, reduceEqDiff, reduceToNat, Int.reduceLT, reduceLE, reduceEq, zeros_len]
  refine callK_pure (args' := [viewD a27, .lit (.int .i64 1)]) (overlay_tick a27 1 (by decide) (by decide)) (by kernel_rfl) (by simp only [go_sem, reduceAdd, reduceSub, reduceMul, reduceLT, reduceLeDiff, ↓reduceIte, reduceCtorEq, reduceEqDiff, reduceToNat, Int.reduceLT, reduceLE, reduceEq]) ?_
  rw [e4]
  simp only [go_sem, reduceAdd, reduceSub, reduceMul, reduceLT, reduceLeDiff, ↓reduceIte, reduceCtorEq, reduceEqDiff, reduceToNat, Int.reduceLT, reduceLE, reduceEq, zeros_len]
  refine callK_pure walks_spec (by first | rfl | (simp only [go_sem]; done)) (by first | (simp only [go_sem]; done) | (simp [pureL, pureD]; done)) ?_
  simp only [go_sem, reduceAdd, reduceSub, reduceMul, reduceLT, reduceLeDiff, ↓reduceIte, reduceCtorEq, reduceEqDiff, reduceToNat, Int.reduceLT, reduceLE, reduceEq, zeros_len]
  have f1 : c27.act = [] := rfl
  have f2 : o27.kind = 12 := rfl
  have f3 : o27.to = 3 := rfl
  have f4 : ([o27].map (rawM .no .no))[0]? = some (rawM .no .no o27) := rfl
  refine callK_pure (args' := [intsL [2, 3] .no, intsL [2, 3] .no]) (ref18_ints [2, 3] [2, 3] (by decide)) (by kernel_rfl) ⟨trivial, trivial, trivial⟩ ?_
  simp only [go_sem, reduceAdd, reduceSub, reduceMul, reduceLT, reduceLeDiff, ↓reduceIte, reduceCtorEq, reduceEqDiff, reduceToNat, Int.reduceLT, reduceLE, reduceEq, zeros_len, f1, f2, f3, f4, List.length_nil, List.length_singleton, List.map_cons, List.map_nil, Int.natCast_zero, Int.natCast_one, Int.cast_ofNat_Int, decide_true]
  refine callK_deep (args' := [msgsD [l27], msgsD [l27]]) (ref26_rows [l27] (by decide) (by decide)) (by kernel_rfl) ⟨trivial, trivial, trivial⟩ ?_
  simp only [go_sem, reduceAdd, reduceSub, reduceMul, reduceLT, reduceLeDiff, ↓reduceIte, reduceCtorEq, reduceEqDiff, reduceToNat, Int.reduceLT, reduceLE, reduceEq, zeros_len, f1, f2, f3, f4, List.length_nil, List.length_singleton, List.map_cons, List.map_nil, Int.natCast_zero, Int.natCast_one, Int.cast_ofNat_Int, decide_true]
  refine callK_pure (args' := [intsL [1] .no, intsL [1] .no]) (ref18_ints [1] [1] (by decide)) (by kernel_rfl) ⟨trivial, trivial, trivial⟩ ?_
  simp only [go_sem, reduceAdd, reduceSub, reduceMul, reduceLT, reduceLeDiff, ↓reduceIte, reduceCtorEq, reduceEqDiff, reduceToNat, Int.reduceLT, reduceLE, reduceEq, zeros_len, f1, f2, f3, f4, List.length_nil, List.length_singleton, List.map_cons, List.map_nil, Int.natCast_zero, Int.natCast_one, Int.cast_ofNat_Int, decide_true]
  refine callK_deep (args' := [msgsD [m27], msgsD [m27]]) (ref26_rows [m27] (by decide) (by decide)) (by kernel_rfl) ⟨trivial, trivial, trivial⟩ ?_
  simp only [go_sem, reduceAdd, reduceSub, reduceMul, reduceLT, reduceLeDiff, ↓reduceIte, reduceCtorEq, reduceEqDiff, reduceToNat, Int.reduceLT, reduceLE, reduceEq, zeros_len, f1, f2, f3, f4, List.length_nil, List.length_singleton, List.map_cons, List.map_nil, Int.natCast_zero, Int.natCast_one, Int.cast_ofNat_Int, decide_true]
  refine callK_deep (args' := [msgsD [n27], msgsD [n27]]) (ref26_rows [n27] (by decide) (by decide)) (by kernel_rfl) ⟨trivial, trivial, trivial⟩ ?_
  simp only [go_sem, reduceAdd, reduceSub, reduceMul, reduceLT, reduceLeDiff, ↓reduceIte, reduceCtorEq, reduceEqDiff, reduceToNat, Int.reduceLT, reduceLE, reduceEq, zeros_len, f1, f2, f3, f4, List.length_nil, List.length_singleton, List.map_cons, List.map_nil, Int.natCast_zero, Int.natCast_one, Int.cast_ofNat_Int, decide_true]
end Go.Ab
set_option linter.unusedSimpArgs false
namespace Go.Ab
open Go.Proofs

theorem add_self (v : ViewR) (p d : Int) : (addV v p d).1.self = v.self := by
  unfold addV; split
  · show (roomV v d).1.self = v.self
    unfold roomV; split
    · unfold cooledV knownV; split <;> rfl
    · rfl
  · rfl
theorem check_self {v : ViewR} (h : checkV v = true) : vpeer v.self = true := ((checkV_iff v).1 h).self
end Go.Ab
