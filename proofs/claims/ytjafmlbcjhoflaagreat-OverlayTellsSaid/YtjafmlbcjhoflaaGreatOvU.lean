/- Whether a message may be: the document's functions. Conditions: none. -/
import Derived.Test.YtjafmlbcjhoflaaGreatOvS
import Derived.Test.YtjafmlbcjhoflaaGreatOvT
open Nat (reduceAdd reduceSub reduceMul reduceLT reduceLeDiff reduceEqDiff)
open Int (reduceToNat reduceLE reduceEq)
set_option linter.unusedSimpArgs false
namespace Go.Ab
open Go.Proofs

set_option maxRecDepth 8000 in
theorem ref26_walk (y : GMsg) (hg : GOk y) : PSpec Tryz.prog CT 86 [rawG y] (· = .bool (walksB y)) := by
  obtain ⟨d1, d2, d3, _⟩ := hg
  refine PSpec.of hT Tryz.func86 rfl (by kernel_rfl) rfl rfl ?_
  simp only [Tryz.f86, go_sem, reduceAdd, reduceSub, reduceMul, reduceLT, reduceLeDiff, ↓reduceIte, reduceCtorEq, reduceEqDiff, reduceToNat, Int.reduceLT, reduceLE, reduceEq, zeros_len, d1, d2, d3, sh_tree, true_and]
  (repeat' (first | ((refine guardK_split (fun hg => ?_) (fun hg => ?_)) <;> (try simp only [go_sem, reduceAdd, reduceSub, reduceMul, reduceLT, reduceLeDiff, ↓reduceIte, reduceCtorEq, reduceEqDiff, reduceToNat, Int.reduceLT, reduceLE, reduceEq, hg, zeros_len, d1, d2, d3, sh_tree, true_and])) | ((refine condK_split (fun hg => ?_) (fun hg => ?_)) <;> (try simp only [go_sem, reduceAdd, reduceSub, reduceMul, reduceLT, reduceLeDiff, ↓reduceIte, reduceCtorEq, reduceEqDiff, reduceToNat, Int.reduceLT, reduceLE, reduceEq, hg, zeros_len, d1, d2, d3, sh_tree, true_and])) | ((first | refine callK_pure (ref_peer y.n) ?_ ?_ ?_ | refine callD_pure (ref_peer y.n) ?_ ?_ ?_); (iterate 2 (focus (first | rfl | (simp only [go_sem, zeros_len, d1, d2, d3, sh_tree, true_and]; done)))); try simp only [go_sem, reduceAdd, reduceSub, reduceMul, reduceLT, reduceLeDiff, ↓reduceIte, reduceCtorEq, reduceEqDiff, reduceToNat, Int.reduceLT, reduceLE, reduceEq, zeros_len, d1, d2, d3, sh_tree, true_and]) | ((refine Or.inl ⟨by kernel_rfl, ?_⟩) <;> (try simp only [go_sem, reduceAdd, reduceSub, reduceMul, reduceLT, reduceLeDiff, ↓reduceIte, reduceCtorEq, reduceEqDiff, reduceToNat, Int.reduceLT, reduceLE, reduceEq, zeros_len, d1, d2, d3, sh_tree, true_and])))) <;> (first | done | (simp_all [walksB]; done) | (simp_all [walksB]; omega) | (simp_all [walksB]; intros; omega) | (simp_all [walksB]; grind))
set_option maxRecDepth 8000 in
set_option maxHeartbeats 8000000 in
theorem ref26_fields7 (y : GMsg) (hg : GOk y) (hp : y.peers.length < 4000000000) (hk : y.kind = 7) : PSpec Tryz.prog CT 55 [rawG y] (· = .tup [rawM .no .no (usedM y), .bool (okF y)]) := by
  obtain ⟨d1, d2, d3, _⟩ := id hg
  obtain ⟨kind, from_, to, tx, vec, row, flag, num, wn, of_, data, id, ev, peers⟩ := y
  obtain rfl : kind = 7 := hk
  have hu : usedM ⟨7, from_, to, tx, vec, row, flag, num, wn, of_, data, id, ev, peers⟩ = ⟨7, from_, to, false, 0, 0, []⟩ := rfl
  have hf : okF ⟨7, from_, to, tx, vec, row, flag, num, wn, of_, data, id, ev, peers⟩ = true := by simp [okF]
  simp only at d1 d2 d3 hp
  refine PSpec.of hT Tryz.func55 rfl (by kernel_rfl) rfl rfl ?_
  rw [hu, hf]
  simp only [Tryz.f55, go_sem, reduceAdd, reduceSub, reduceMul, reduceLT, reduceLeDiff, ↓reduceIte, reduceCtorEq, reduceEqDiff, reduceToNat, Int.reduceLT, reduceLE, reduceEq, zeros_len, d1, d2, d3, sh_tree, nrm_tree, true_and, Int.reduceEq, decide_true, decide_false]
  rfl
set_option maxRecDepth 8000 in
set_option maxHeartbeats 8000000 in
theorem ref26_fields8 (y : GMsg) (hg : GOk y) (hp : y.peers.length < 4000000000) (hk : y.kind = 8) : PSpec Tryz.prog CT 55 [rawG y] (· = .tup [rawM .no .no (usedM y), .bool (okF y)]) := by
  obtain ⟨d1, d2, d3, _⟩ := id hg
  obtain ⟨kind, from_, to, tx, vec, row, flag, num, wn, of_, data, id, ev, peers⟩ := y
  obtain rfl : kind = 8 := hk
  have hu : usedM ⟨8, from_, to, tx, vec, row, flag, num, wn, of_, data, id, ev, peers⟩ = ⟨8, from_, to, false, wn, of_, []⟩ := rfl
  have hf : okF ⟨8, from_, to, tx, vec, row, flag, num, wn, of_, data, id, ev, peers⟩ = walksB ⟨8, from_, to, tx, vec, row, flag, num, wn, of_, data, id, ev, peers⟩ := by simp [okF]
  simp only at d1 d2 d3 hp
  refine PSpec.of hT Tryz.func55 rfl (by kernel_rfl) rfl rfl ?_
  rw [hu, hf]
  simp only [Tryz.f55, go_sem, reduceAdd, reduceSub, reduceMul, reduceLT, reduceLeDiff, ↓reduceIte, reduceCtorEq, reduceEqDiff, reduceToNat, Int.reduceLT, reduceLE, reduceEq, zeros_len, d1, d2, d3, sh_tree, nrm_tree, true_and, Int.reduceEq, decide_true, decide_false]
  refine .inr ?_
  apply drawN_one [2, 3, 5] ord3 (by kernel_rfl)
  · intro Q' hA ord ho
    simp only [ord3, List.mem_cons, List.not_mem_nil, or_false] at ho
    rcases ho with rfl | rfl | rfl
    · simp only [go_sem, reduceAdd, reduceSub, reduceMul, reduceLT, reduceLeDiff, ↓reduceIte, reduceCtorEq, reduceEqDiff, reduceToNat, Int.reduceLT, reduceLE, reduceEq, zeros_len, d1, d2, d3, sh_tree, nrm_tree, true_and, Int.reduceEq, decide_true, decide_false]; exact hA
    · simp only [go_sem, reduceAdd, reduceSub, reduceMul, reduceLT, reduceLeDiff, ↓reduceIte, reduceCtorEq, reduceEqDiff, reduceToNat, Int.reduceLT, reduceLE, reduceEq, zeros_len, d1, d2, d3, sh_tree, nrm_tree, true_and, Int.reduceEq, decide_true, decide_false]; exact hA
    · simp only [go_sem, reduceAdd, reduceSub, reduceMul, reduceLT, reduceLeDiff, ↓reduceIte, reduceCtorEq, reduceEqDiff, reduceToNat, Int.reduceLT, reduceLE, reduceEq, zeros_len, d1, d2, d3, sh_tree, nrm_tree, true_and, Int.reduceEq, decide_true, decide_false]; exact hA
  simp only [go_sem, reduceAdd, reduceSub, reduceMul, reduceLT, reduceLeDiff, ↓reduceIte, reduceCtorEq, reduceEqDiff, reduceToNat, Int.reduceLT, reduceLE, reduceEq, zeros_len, d1, d2, d3, sh_tree, nrm_tree, true_and, Int.reduceEq, decide_true, decide_false]
  refine callK_pure (ref26_walk ⟨8, from_, to, tx, vec, row, flag, num, wn, of_, data, id, ev, peers⟩ hg) (congrArg (fun z => [z]) (erase_rawG ⟨8, from_, to, tx, vec, row, flag, num, wn, of_, data, id, ev, peers⟩)) (pure_rawG ⟨8, from_, to, tx, vec, row, flag, num, wn, of_, data, id, ev, peers⟩) ?_
  simp only [go_sem, reduceAdd, reduceSub, reduceMul, reduceLT, reduceLeDiff, ↓reduceIte, reduceCtorEq, reduceEqDiff, reduceToNat, Int.reduceLT, reduceLE, reduceEq, zeros_len, d1, d2, d3, sh_tree, nrm_tree, true_and, Int.reduceEq, decide_true, decide_false]
  rfl
set_option maxRecDepth 8000 in
set_option maxHeartbeats 8000000 in
theorem ref26_fields9 (y : GMsg) (hg : GOk y) (hp : y.peers.length < 4000000000) (hk : y.kind = 9) : PSpec Tryz.prog CT 55 [rawG y] (· = .tup [rawM .no .no (usedM y), .bool (okF y)]) := by
  obtain ⟨d1, d2, d3, _⟩ := id hg
  obtain ⟨kind, from_, to, tx, vec, row, flag, num, wn, of_, data, id, ev, peers⟩ := y
  obtain rfl : kind = 9 := hk
  have hu : usedM ⟨9, from_, to, tx, vec, row, flag, num, wn, of_, data, id, ev, peers⟩ = ⟨9, from_, to, flag, 0, 0, []⟩ := rfl
  have hf : okF ⟨9, from_, to, tx, vec, row, flag, num, wn, of_, data, id, ev, peers⟩ = true := by simp [okF]
  simp only at d1 d2 d3 hp
  refine PSpec.of hT Tryz.func55 rfl (by kernel_rfl) rfl rfl ?_
  rw [hu, hf]
  simp only [Tryz.f55, go_sem, reduceAdd, reduceSub, reduceMul, reduceLT, reduceLeDiff, ↓reduceIte, reduceCtorEq, reduceEqDiff, reduceToNat, Int.reduceLT, reduceLE, reduceEq, zeros_len, d1, d2, d3, sh_tree, nrm_tree, true_and, Int.reduceEq, decide_true, decide_false]
  rfl
set_option maxRecDepth 8000 in
set_option maxHeartbeats 8000000 in
theorem ref26_fields10 (y : GMsg) (hg : GOk y) (hp : y.peers.length < 4000000000) (hk : y.kind = 10) : PSpec Tryz.prog CT 55 [rawG y] (· = .tup [rawM .no .no (usedM y), .bool (okF y)]) := by
  obtain ⟨d1, d2, d3, _⟩ := id hg
  obtain ⟨kind, from_, to, tx, vec, row, flag, num, wn, of_, data, id, ev, peers⟩ := y
  obtain rfl : kind = 10 := hk
  have hu : usedM ⟨10, from_, to, tx, vec, row, flag, num, wn, of_, data, id, ev, peers⟩ = ⟨10, from_, to, flag, 0, 0, []⟩ := rfl
  have hf : okF ⟨10, from_, to, tx, vec, row, flag, num, wn, of_, data, id, ev, peers⟩ = true := by simp [okF]
  simp only at d1 d2 d3 hp
  refine PSpec.of hT Tryz.func55 rfl (by kernel_rfl) rfl rfl ?_
  rw [hu, hf]
  simp only [Tryz.f55, go_sem, reduceAdd, reduceSub, reduceMul, reduceLT, reduceLeDiff, ↓reduceIte, reduceCtorEq, reduceEqDiff, reduceToNat, Int.reduceLT, reduceLE, reduceEq, zeros_len, d1, d2, d3, sh_tree, nrm_tree, true_and, Int.reduceEq, decide_true, decide_false]
  rfl
set_option maxRecDepth 8000 in
set_option maxHeartbeats 8000000 in
theorem ref26_fields11 (y : GMsg) (hg : GOk y) (hp : y.peers.length < 4000000000) (hk : y.kind = 11) : PSpec Tryz.prog CT 55 [rawG y] (· = .tup [rawM .no .no (usedM y), .bool (okF y)]) := by
  obtain ⟨d1, d2, d3, _⟩ := id hg
  obtain ⟨kind, from_, to, tx, vec, row, flag, num, wn, of_, data, id, ev, peers⟩ := y
  obtain rfl : kind = 11 := hk
  have hu : usedM ⟨11, from_, to, tx, vec, row, flag, num, wn, of_, data, id, ev, peers⟩ = ⟨11, from_, to, false, 0, 0, []⟩ := rfl
  have hf : okF ⟨11, from_, to, tx, vec, row, flag, num, wn, of_, data, id, ev, peers⟩ = true := by simp [okF]
  simp only at d1 d2 d3 hp
  refine PSpec.of hT Tryz.func55 rfl (by kernel_rfl) rfl rfl ?_
  rw [hu, hf]
  simp only [Tryz.f55, go_sem, reduceAdd, reduceSub, reduceMul, reduceLT, reduceLeDiff, ↓reduceIte, reduceCtorEq, reduceEqDiff, reduceToNat, Int.reduceLT, reduceLE, reduceEq, zeros_len, d1, d2, d3, sh_tree, nrm_tree, true_and, Int.reduceEq, decide_true, decide_false]
  rfl
set_option maxRecDepth 8000 in
set_option maxHeartbeats 8000000 in
theorem ref26_fields13 (y : GMsg) (hg : GOk y) (hp : y.peers.length < 4000000000) (hk : y.kind = 13) : PSpec Tryz.prog CT 55 [rawG y] (· = .tup [rawM .no .no (usedM y), .bool (okF y)]) := by
  obtain ⟨d1, d2, d3, _⟩ := id hg
  obtain ⟨kind, from_, to, tx, vec, row, flag, num, wn, of_, data, id, ev, peers⟩ := y
  obtain rfl : kind = 13 := hk
  have hu : usedM ⟨13, from_, to, tx, vec, row, flag, num, wn, of_, data, id, ev, peers⟩ = ⟨13, from_, to, false, 0, 0, peers⟩ := rfl
  have hf : okF ⟨13, from_, to, tx, vec, row, flag, num, wn, of_, data, id, ev, peers⟩ = rosterOk peers := by simp [okF]
  simp only at d1 d2 d3 hp
  refine PSpec.of hT Tryz.func55 rfl (by kernel_rfl) rfl rfl ?_
  rw [hu, hf]
  simp only [Tryz.f55, go_sem, reduceAdd, reduceSub, reduceMul, reduceLT, reduceLeDiff, ↓reduceIte, reduceCtorEq, reduceEqDiff, reduceToNat, Int.reduceLT, reduceLE, reduceEq, zeros_len, d1, d2, d3, sh_tree, nrm_tree, true_and, Int.reduceEq, decide_true, decide_false]
  refine callK_pure (ref18_check peers hp) (by first | rfl | (simp only [go_sem]; done)) (by first | (simp only [go_sem]; done) | (simp [pureL, pureD]; done)) ?_
  simp only [go_sem, reduceAdd, reduceSub, reduceMul, reduceLT, reduceLeDiff, ↓reduceIte, reduceCtorEq, reduceEqDiff, reduceToNat, Int.reduceLT, reduceLE, reduceEq, zeros_len, d1, d2, d3, sh_tree, nrm_tree, true_and, Int.reduceEq, decide_true, decide_false]
end Go.Ab
set_option linter.unusedSimpArgs false
namespace Go.Ab
open Go.Proofs

set_option maxRecDepth 8000 in
set_option maxHeartbeats 8000000 in
theorem ref26_fields12 (y : GMsg) (hg : GOk y) (hp : y.peers.length < 4000000000) (hk : y.kind = 12) : PSpec Tryz.prog CT 55 [rawG y] (· = .tup [rawM .no .no (usedM y), .bool (okF y)]) := by
  obtain ⟨d1, d2, d3, _⟩ := id hg
  obtain ⟨kind, from_, to, tx, vec, row, flag, num, wn, of_, data, id, ev, peers⟩ := y
  obtain rfl : kind = 12 := hk
  have hu : usedM ⟨12, from_, to, tx, vec, row, flag, num, wn, of_, data, id, ev, peers⟩ = ⟨12, from_, to, false, wn, of_, peers⟩ := rfl
  have hf : okF ⟨12, from_, to, tx, vec, row, flag, num, wn, of_, data, id, ev, peers⟩ = (walksB ⟨12, from_, to, tx, vec, row, flag, num, wn, of_, data, id, ev, peers⟩ && rosterOk peers) := by simp [okF]
  simp only at d1 d2 d3 hp
  refine PSpec.of hT Tryz.func55 rfl (by kernel_rfl) rfl rfl ?_
  rw [hu, hf]
  simp only [Tryz.f55, go_sem, reduceAdd, reduceSub, reduceMul, reduceLT, reduceLeDiff, ↓reduceIte, reduceCtorEq, reduceEqDiff, reduceToNat, Int.reduceLT, reduceLE, reduceEq, zeros_len, d1, d2, d3, sh_tree, nrm_tree, true_and, Int.reduceEq, decide_true, decide_false]
  refine .inr ?_
  apply drawN_one [2, 3, 4, 5, 7, 9] ord45 (by kernel_rfl)
  · intro Q' hA ord ho
    simp only [ord45, List.mem_cons, List.not_mem_nil, or_false] at ho
    repeat (rcases ho with rfl | ho; · (simp only [go_sem, reduceAdd, reduceSub, reduceMul, reduceLT, reduceLeDiff, ↓reduceIte, reduceCtorEq, reduceEqDiff, reduceToNat, Int.reduceLT, reduceLE, reduceEq, zeros_len, d1, d2, d3, sh_tree, nrm_tree, true_and, Int.reduceEq, decide_true, decide_false]; exact hA))
  simp only [go_sem, reduceAdd, reduceSub, reduceMul, reduceLT, reduceLeDiff, ↓reduceIte, reduceCtorEq, reduceEqDiff, reduceToNat, Int.reduceLT, reduceLE, reduceEq, zeros_len, d1, d2, d3, sh_tree, nrm_tree, true_and, Int.reduceEq, decide_true, decide_false]
  refine callK_pure (ref26_walk ⟨12, from_, to, tx, vec, row, flag, num, wn, of_, data, id, ev, peers⟩ hg) (congrArg (fun z => [z]) (erase_rawG ⟨12, from_, to, tx, vec, row, flag, num, wn, of_, data, id, ev, peers⟩)) (pure_rawG ⟨12, from_, to, tx, vec, row, flag, num, wn, of_, data, id, ev, peers⟩) ?_
  cases hw : walksB ⟨12, from_, to, tx, vec, row, flag, num, wn, of_, data, id, ev, peers⟩ with
  | false => simp only [go_sem, reduceAdd, reduceSub, reduceMul, reduceLT, reduceLeDiff, ↓reduceIte, reduceCtorEq, reduceEqDiff, reduceToNat, Int.reduceLT, reduceLE, reduceEq, zeros_len, d1, d2, d3, sh_tree, nrm_tree, true_and, Int.reduceEq, decide_true, decide_false, Bool.false_and]
  | true =>
    simp only [go_sem, reduceAdd, reduceSub, reduceMul, reduceLT, reduceLeDiff, ↓reduceIte, reduceCtorEq, reduceEqDiff, reduceToNat, Int.reduceLT, reduceLE, reduceEq, zeros_len, d1, d2, d3, sh_tree, nrm_tree, true_and, Int.reduceEq, decide_true, decide_false]
    refine callK_pure (ref18_check peers hp) (by first | rfl | (simp only [go_sem]; done)) (by first | (simp only [go_sem]; done) | (simp [pureL, pureD]; done)) ?_
    simp only [go_sem, reduceAdd, reduceSub, reduceMul, reduceLT, reduceLeDiff, ↓reduceIte, reduceCtorEq, reduceEqDiff, reduceToNat, Int.reduceLT, reduceLE, reduceEq, zeros_len, d1, d2, d3, sh_tree, nrm_tree, true_and, Int.reduceEq, decide_true, decide_false, Bool.true_and]
end Go.Ab
set_option linter.unusedSimpArgs false
namespace Go.Ab
open Go.Proofs

def strOf (l : List Int) : ByteArray := l.foldl (fun r n => r.push (UInt8.ofNat n.toNat)) ByteArray.empty
theorem bytesOf_map : ∀ l : List Int, bytesOfL (l.map fun n => D.lit (.int .u8 n)) = some l
  | [] => rfl
  | x :: r => by rw [List.map_cons, bytesOfL, bytesOf_map r]; rfl
theorem conv_bytes (l : List Int) (u : TypeId) (tk : Tok) : convK CT 38 9 (.lst u (l.map fun n => D.lit (.int .u8 n)) tk) = some (.lit (.string (strOf l))) := by
  simp only [convK, convA, strD, go_sem, reduceAdd, reduceSub, reduceMul, reduceLT, reduceLeDiff, ↓reduceIte, reduceCtorEq, reduceEqDiff, reduceToNat, Int.reduceLT, reduceLE, reduceEq, bytesOf_map]
  rfl
theorem strOf_size : ∀ (l : List Int) (b : ByteArray), (l.foldl (fun r n => r.push (UInt8.ofNat n.toNat)) b).size = b.size + l.length
  | [], _ => rfl
  | x :: r, b => by rw [List.foldl_cons, strOf_size r, ByteArray.size_push, List.length_cons]; omega
theorem strOf_nil (l : List Int) : decide (ByteArray.empty = strOf l) = l.isEmpty := by
  have h := strOf_size l ByteArray.empty
  cases l with
  | nil => rfl
  | cons x r =>
    have : ByteArray.empty ≠ strOf (x :: r) := fun e => by
      have h2 : (strOf (x :: r)).size = 0 := by rw [← e]; rfl
      rw [strOf, h] at h2
      simp at h2
    simp [this]
theorem tB_eq (y : GMsg) : sameTx t0Z y.tx = tB y := by
  have : tB y = (decide (0 = y.tx.peer) && decide (0 = y.tx.seq) && decide (zeros 13 = y.tx.deps) && decide (0 = y.tx.time) && decide (([] : List OpR) = y.tx.ops)) := by
    rw [tB]; congr 1; cases y.tx.ops <;> simp
  rw [this]; rfl
set_option maxRecDepth 8000 in
theorem ref04_same0 (t : TreeM) : PSpec Tryz.prog CT 107 [zTree .no, treeD t] (· = .bool (bareT t)) := by
  refine ASpec.of hT Tryz.func107 rfl (by kernel_rfl) rfl rfl ?_
  rw [treeD_eq]
  simp only [Tryz.f107, go_sem, reduceAdd, reduceSub, reduceMul, reduceLT, reduceLeDiff, ↓reduceIte, reduceCtorEq, reduceEqDiff, reduceToNat, Int.reduceLT, reduceLE, reduceEq, noHeap, bareT, List.length_nil, List.length_map, len0]
  refine guardK_split (fun h1 => ?_) (fun h1 => ?_)
  · have h2 : decide (0 = t.num) = false := by simpa using h1
    simp only [go_sem, reduceAdd, reduceSub, reduceMul, reduceLT, reduceLeDiff, ↓reduceIte, reduceCtorEq, reduceEqDiff, reduceToNat, Int.reduceLT, reduceLE, reduceEq, h1, h2, Bool.false_and]
  have h2 : decide (0 = t.num) = true := by simpa using h1
  simp only [go_sem, reduceAdd, reduceSub, reduceMul, reduceLT, reduceLeDiff, ↓reduceIte, reduceCtorEq, reduceEqDiff, reduceToNat, Int.reduceLT, reduceLE, reduceEq, h2, Bool.true_and, List.length_nil, List.length_map, len0]
  refine condK_split (fun h3 => ?_) (fun h3 => ?_)
  · have : t.kids.isEmpty = false := by simpa using h3
    simp only [go_sem, reduceAdd, reduceSub, reduceMul, reduceLT, reduceLeDiff, ↓reduceIte, reduceCtorEq, reduceEqDiff, reduceToNat, Int.reduceLT, reduceLE, reduceEq, this]
  have h4 : t.kids.isEmpty = true := by simpa using h3
  simp only [go_sem, reduceAdd, reduceSub, reduceMul, reduceLT, reduceLeDiff, ↓reduceIte, reduceCtorEq, reduceEqDiff, reduceToNat, Int.reduceLT, reduceLE, reduceEq, h4]
  refine awp_loop (fun n s => ∃  (g : Nat → D), s = ⟨[g 0, g 1, .ptr 0 [], .ptr 1 [], g 4, .lit (.int .i64 0), g 6, g 7, g 8, g 9, g 10, g 11, g 12, g 13, g 14, g 15, g 16, g 17, g 18, g 19, g 20, g 21, g 22, g 23, g 24, g 25, g 26, g 27, g 28, g 29, g 30, g 31, g 32, g 33, g 34, g 35, g 36, g 37, g 38], ⟨[((.pair .leaf (.pair .leaf .unit)), zTree .no), ((.pair .leaf (.pair .leaf .unit)), .agg [.lit (.int .i64 t.num), .lst 41 (t.kids.map treeD) .no])], []⟩⟩ ∧ n = 0) 0 (reg_intro rfl rfl (rfl)) ?_
  rintro n st ⟨g, rfl, hn⟩
  simp only [go_sem, reduceAdd, reduceSub, reduceMul, reduceLT, reduceLeDiff, ↓reduceIte, reduceCtorEq, reduceEqDiff, reduceToNat, Int.reduceLT, reduceLE, reduceEq, List.length_nil, Int.natCast_zero, Int.cast_ofNat_Int, Int.reduceLT, decide_false]
theorem ref06_same0 (a b : TreeM) : PSpec Tryz.prog CT 73 [.agg [zTree .no, zTree .no], .agg [treeD a, treeD b]] (· = .bool (bareT a && bareT b)) := by
  refine PSpec.of hT Tryz.func73 rfl (by kernel_rfl) rfl rfl ?_
  simp only [Tryz.f73, go_sem, reduceAdd, reduceSub, reduceMul, reduceLT, reduceLeDiff, ↓reduceIte, reduceCtorEq, reduceEqDiff, reduceToNat, Int.reduceLT, reduceLE, reduceEq, sh_tree, nrm_tree, true_and, and_true]
  refine callK_pure (ref04_same0 a) (by first | rfl | (simp only [go_sem, erase_tree, pure_tree]; done)) (by first | (simp only [go_sem, erase_tree, pure_tree]; done) | (simp [pureL, pureD]; done)) ?_
  cases h : bareT a with
  | false => simp only [go_sem, reduceAdd, reduceSub, reduceMul, reduceLT, reduceLeDiff, ↓reduceIte, reduceCtorEq, reduceEqDiff, reduceToNat, Int.reduceLT, reduceLE, reduceEq, Bool.false_and]
  | true =>
    simp only [go_sem, reduceAdd, reduceSub, reduceMul, reduceLT, reduceLeDiff, ↓reduceIte, reduceCtorEq, reduceEqDiff, reduceToNat, Int.reduceLT, reduceLE, reduceEq, sh_tree, nrm_tree, Bool.true_and]
    refine callK_pure (ref04_same0 b) (by first | rfl | (simp only [go_sem, erase_tree, pure_tree]; done)) (by first | (simp only [go_sem, erase_tree, pure_tree]; done) | (simp [pureL, pureD]; done)) ?_
    simp only [go_sem, reduceAdd, reduceSub, reduceMul, reduceLT, reduceLeDiff, ↓reduceIte, reduceCtorEq, reduceEqDiff, reduceToNat, Int.reduceLT, reduceLE, reduceEq]
set_option maxRecDepth 8000 in
set_option maxHeartbeats 8000000 in
theorem ref26_sameG (x : MsgM) (y : GMsg) (hg : GOk y) (hx : x.peers.length < 4000000000) : PSpec Tryz.prog CT 44 [rawM .no .no x, rawG y] (· = .bool (alikeB x y)) := by
  obtain ⟨d1, d2, d3, _⟩ := hg
  have e2 := eqB_vec (zeros 13) y.vec
  have e3 := eqB_vec (zeros 13) y.row
  refine PSpec.of hT Tryz.func44 rfl (by kernel_rfl) rfl rfl ?_
  simp only [Tryz.f44]
  refine awp_cut (fun n s => ∃  (g : Nat → D), s = ⟨[g 0, g 1, .ptr 0 [], .ptr 1 [], g 4, g 5, g 6, g 7, g 8, g 9, g 10, g 11, g 12, g 13, g 14, g 15, g 16, g 17, g 18, g 19, g 20, g 21, g 22, g 23, g 24, g 25, g 26, g 27, g 28, g 29, g 30, g 31, g 32, g 33, g 34, g 35, g 36, g 37, g 38, g 39, g 40, g 41, g 42, g 43, g 44, g 45, g 46, g 47, g 48, g 49, g 50, g 51, g 52, g 53, g 54, g 55, g 56, g 57, g 58, g 59, g 60, g 61, g 62, g 63, g 64, g 65, g 66, g 67, g 68, g 69, g 70, g 71, g 72, g 73, g 74, g 75, g 76, g 77, g 78, g 79, g 80, g 81, g 82, g 83, g 84, g 85, g 86, g 87, g 88, g 89, g 90, g 91, g 92, g 93], ⟨[(msgSh, rawM .no .no x), (msgSh, rawG y)], []⟩⟩ ∧ n = 0) 0 ?_ ?_
  · simp only [go_sem, reduceAdd, reduceSub, reduceMul, reduceLT, reduceLeDiff, ↓reduceIte, reduceCtorEq, reduceEqDiff, reduceToNat, Int.reduceLT, reduceLE, reduceEq, zeros_len, d1, d2, d3, sh_tree, true_and]
    exact reg0 rfl rfl
  rintro s ⟨g, rfl, -⟩
  rw [awp_seq]
  refine awp_cut (fun n s => ∃ (b : Bool) (g : Nat → D), s = ⟨[g 0, g 1, .ptr 0 [], .ptr 1 [], g 4, g 5, g 6, g 7, g 8, g 9, g 10, g 11, g 12, g 13, g 14, g 15, g 16, g 17, g 18, g 19, g 20, g 21, g 22, g 23, g 24, g 25, g 26, g 27, g 28, g 29, g 30, g 31, g 32, g 33, g 34, g 35, g 36, g 37, g 38, g 39, g 40, g 41, g 42, g 43, g 44, g 45, g 46, g 47, g 48, g 49, g 50, g 51, g 52, g 53, g 54, g 55, g 56, g 57, g 58, g 59, g 60, g 61, g 62, g 63, g 64, .lit (.bool b), g 66, g 67, g 68, g 69, g 70, g 71, g 72, g 73, g 74, g 75, g 76, g 77, g 78, g 79, g 80, g 81, g 82, g 83, g 84, g 85, g 86, g 87, g 88, g 89, g 90, g 91, g 92, g 93], ⟨[(msgSh, rawM .no .no x), (msgSh, rawG y)], []⟩⟩ ∧ n = 0 ∧ b = !(vB x y && nB x y)) 0 ?_ ?_
  · simp only [go_sem, reduceAdd, reduceSub, reduceMul, reduceLT, reduceLeDiff, ↓reduceIte, reduceCtorEq, reduceEqDiff, reduceToNat, Int.reduceLT, reduceLE, reduceEq, zeros_len, eqB_cons, eqB_nil, eqB_int, Bool.and_true, d1, d2, d3, e2, e3]
    (repeat' (first | ((refine guardK_split (fun hg => ?_) (fun hg => ?_)) <;> (try simp only [go_sem, reduceAdd, reduceSub, reduceMul, reduceLT, reduceLeDiff, ↓reduceIte, reduceCtorEq, reduceEqDiff, reduceToNat, Int.reduceLT, reduceLE, reduceEq, hg, zeros_len, eqB_cons, eqB_nil, eqB_int, Bool.and_true, d1, d2, d3, e2, e3])) | ((refine condK_split (fun hg => ?_) (fun hg => ?_)) <;> (try simp only [go_sem, reduceAdd, reduceSub, reduceMul, reduceLT, reduceLeDiff, ↓reduceIte, reduceCtorEq, reduceEqDiff, reduceToNat, Int.reduceLT, reduceLE, reduceEq, hg, zeros_len, eqB_cons, eqB_nil, eqB_int, Bool.and_true, d1, d2, d3, e2, e3])) | ((first | refine callK_pure (equal_ops0 y.tx.ops) ?_ ?_ ?_ | refine callD_pure (equal_ops0 y.tx.ops) ?_ ?_ ?_); (iterate 2 (focus (first | rfl | (simp only [go_sem, zeros_len, eqB_cons, eqB_nil, eqB_int, Bool.and_true, d1, d2, d3, e2, e3]; done)))); try simp only [go_sem, reduceAdd, reduceSub, reduceMul, reduceLT, reduceLeDiff, ↓reduceIte, reduceCtorEq, reduceEqDiff, reduceToNat, Int.reduceLT, reduceLE, reduceEq, zeros_len, eqB_cons, eqB_nil, eqB_int, Bool.and_true, d1, d2, d3, e2, e3]) | ((refine Or.inl ⟨by kernel_rfl, ?_⟩) <;> (try simp only [go_sem, reduceAdd, reduceSub, reduceMul, reduceLT, reduceLeDiff, ↓reduceIte, reduceCtorEq, reduceEqDiff, reduceToNat, Int.reduceLT, reduceLE, reduceEq, zeros_len, eqB_cons, eqB_nil, eqB_int, Bool.and_true, d1, d2, d3, e2, e3])))) <;> (first | done | exact ⟨_, reg_intro rfl rfl (by simp_all [vB, nB])⟩)
  rintro s ⟨b1, g, rfl, -, rfl⟩
  simp only [go_sem, reduceAdd, reduceSub, reduceMul, reduceLT, reduceLeDiff, ↓reduceIte, reduceCtorEq, reduceEqDiff, reduceToNat, Int.reduceLT, reduceLE, reduceEq]
  have ea : alikeB x y = ((vB x y && nB x y) && (tB y && y.data.isEmpty && sB y && decide (x.peers = y.peers))) := by
    rw [alikeB]; cases tB y <;> cases vB x y <;> cases nB x y <;> cases sB y <;> cases y.data.isEmpty <;> rfl
  refine condK_split (fun h1 => ?_) (fun h1 => ?_)
  · have : (vB x y && nB x y) = false := by rw [← Bool.not_not (vB x y && nB x y), h1]; rfl
    simp only [go_sem, reduceAdd, reduceSub, reduceMul, reduceLT, reduceLeDiff, ↓reduceIte, reduceCtorEq, reduceEqDiff, reduceToNat, Int.reduceLT, reduceLE, reduceEq, ea, this, Bool.false_and]
  have h2 : (vB x y && nB x y) = true := by rw [← Bool.not_not (vB x y && nB x y), h1]; rfl
  simp only [go_sem, reduceAdd, reduceSub, reduceMul, reduceLT, reduceLeDiff, ↓reduceIte, reduceCtorEq, reduceEqDiff, reduceToNat, Int.reduceLT, reduceLE, reduceEq, zeros_len, d1, d2, d3, ea, h2, Bool.true_and, ← tB_eq]
  refine callK_pure (args' := [txD t0Z, txD y.tx]) (ref07_same t0Z y.tx (by decide +kernel) d1 (by decide)) (congrArg (fun z => [txD t0Z, z]) (erase_tx y.tx)) ⟨by simp [t0Z, pureD, pureL, pureL_ints], by simp [pureD, pureL, pureL_ints, pure_ops], trivial⟩ ?_
  cases k1 : sameTx t0Z y.tx with
  | false => simp only [go_sem, reduceAdd, reduceSub, reduceMul, reduceLT, reduceLeDiff, ↓reduceIte, reduceCtorEq, reduceEqDiff, reduceToNat, Int.reduceLT, reduceLE, reduceEq, Bool.false_and]
  | true =>
  simp only [go_sem, reduceAdd, reduceSub, reduceMul, reduceLT, reduceLeDiff, ↓reduceIte, reduceCtorEq, reduceEqDiff, reduceToNat, Int.reduceLT, reduceLE, reduceEq, zeros_len, d1, d2, d3, conv_nil, conv_bytes, strOf_nil, eqB_str, Bool.true_and]
  refine guardK_split (fun k2 => ?_) (fun k2 => ?_)
  · simp only [go_sem, reduceAdd, reduceSub, reduceMul, reduceLT, reduceLeDiff, ↓reduceIte, reduceCtorEq, reduceEqDiff, reduceToNat, Int.reduceLT, reduceLE, reduceEq, zeros_len, d1, d2, d3, k2, sh_tree, nrm_tree, Bool.true_and, true_and, and_true]
    refine callK_pure (args' := [.agg [zTree .no, zTree .no], .agg [treeD y.id, treeD y.ev]]) (ref06_same0 y.id y.ev) (by first | rfl | (simp only [go_sem, erase_tree, pure_tree]; done)) (by first | (simp only [go_sem, erase_tree, pure_tree]; done) | (simp [pureL, pureD]; done)) ?_
    have es : sB y = (bareT y.id && bareT y.ev) := rfl
    rw [es]
    cases k3 : (bareT y.id && bareT y.ev) with
    | false => simp only [go_sem, reduceAdd, reduceSub, reduceMul, reduceLT, reduceLeDiff, ↓reduceIte, reduceCtorEq, reduceEqDiff, reduceToNat, Int.reduceLT, reduceLE, reduceEq, Bool.false_and]
    | true =>
      simp only [go_sem, reduceAdd, reduceSub, reduceMul, reduceLT, reduceLeDiff, ↓reduceIte, reduceCtorEq, reduceEqDiff, reduceToNat, Int.reduceLT, reduceLE, reduceEq, zeros_len, d1, d2, d3, Bool.true_and]
      refine callK_pure (ref18_ints x.peers y.peers hx) (by first | rfl | (simp only [go_sem]; done)) (by first | (simp only [go_sem]; done) | (simp [pureL, pureD]; done)) ?_
      simp only [go_sem, reduceAdd, reduceSub, reduceMul, reduceLT, reduceLeDiff, ↓reduceIte, reduceCtorEq, reduceEqDiff, reduceToNat, Int.reduceLT, reduceLE, reduceEq]
  · simp only [go_sem, reduceAdd, reduceSub, reduceMul, reduceLT, reduceLeDiff, ↓reduceIte, reduceCtorEq, reduceEqDiff, reduceToNat, Int.reduceLT, reduceLE, reduceEq, k2, Bool.false_and]
theorem ref26_fields (y : GMsg) (hg : GOk y) (hp : y.peers.length < 4000000000) (h1 : 7 ≤ y.kind) (h2 : y.kind ≤ 13) : PSpec Tryz.prog CT 55 [rawG y] (· = .tup [rawM .no .no (usedM y), .bool (okF y)]) := by
  have : y.kind = 7 ∨ y.kind = 8 ∨ y.kind = 9 ∨ y.kind = 10 ∨ y.kind = 11 ∨ y.kind = 12 ∨ y.kind = 13 := by omega
  rcases this with h | h | h | h | h | h | h
  · exact ref26_fields7 y hg hp h
  · exact ref26_fields8 y hg hp h
  · exact ref26_fields9 y hg hp h
  · exact ref26_fields10 y hg hp h
  · exact ref26_fields11 y hg hp h
  · exact ref26_fields12 y hg hp h
  · exact ref26_fields13 y hg hp h
set_option maxRecDepth 8000 in
set_option maxHeartbeats 2000000 in
theorem ref26_checkG (y : GMsg) (hg : GOk y) (hp : y.peers.length < 4000000000) (k1 : 7 ≤ y.kind) (k2 : y.kind ≤ 13) : PSpec Tryz.prog CT 23 [rawG y] (· = .bool (okG y)) := by
  obtain ⟨d1, d2, d3, _⟩ := id hg
  refine PSpec.of hT Tryz.func23 rfl (by kernel_rfl) rfl rfl ?_
  have hul := used_len y
  simp only [Tryz.f23, go_sem, reduceAdd, reduceSub, reduceMul, reduceLT, reduceLeDiff, ↓reduceIte, reduceCtorEq, reduceEqDiff, reduceToNat, Int.reduceLT, reduceLE, reduceEq, zeros_len, d1, d2, d3, sh_tree, true_and]
  refine callK_pure (ref_peer y.from_) (by first | rfl | (simp only [go_sem]; done)) (by first | (simp only [go_sem]; done) | (simp [pureL, pureD]; done)) ?_
  cases h1 : vpeer y.from_ with
  | false => simp only [go_sem, reduceAdd, reduceSub, reduceMul, reduceLT, reduceLeDiff, ↓reduceIte, reduceCtorEq, reduceEqDiff, reduceToNat, Int.reduceLT, reduceLE, reduceEq, Bool.not_false, Bool.false_and, okG, h1]
  | true =>
  simp only [go_sem, reduceAdd, reduceSub, reduceMul, reduceLT, reduceLeDiff, ↓reduceIte, reduceCtorEq, reduceEqDiff, reduceToNat, Int.reduceLT, reduceLE, reduceEq, zeros_len, Bool.not_true, Bool.true_and]
  refine callK_pure (ref_peer y.to) (by first | rfl | (simp only [go_sem]; done)) (by first | (simp only [go_sem]; done) | (simp [pureL, pureD]; done)) ?_
  cases h2 : vpeer y.to with
  | false => simp only [go_sem, reduceAdd, reduceSub, reduceMul, reduceLT, reduceLeDiff, ↓reduceIte, reduceCtorEq, reduceEqDiff, reduceToNat, Int.reduceLT, reduceLE, reduceEq, Bool.not_false, Bool.false_and, Bool.true_and, okG, h1, h2]
  | true =>
  simp only [go_sem, reduceAdd, reduceSub, reduceMul, reduceLT, reduceLeDiff, ↓reduceIte, reduceCtorEq, reduceEqDiff, reduceToNat, Int.reduceLT, reduceLE, reduceEq, zeros_len, Bool.not_true, Bool.true_and]
  refine condK_split (fun h3 => ?_) (fun h3 => ?_)
  · simp only [go_sem, reduceAdd, reduceSub, reduceMul, reduceLT, reduceLeDiff, ↓reduceIte, reduceCtorEq, reduceEqDiff, reduceToNat, Int.reduceLT, reduceLE, reduceEq, h3, Bool.not_true, Bool.false_and, Bool.true_and, okG, h1, h2]
  simp only [go_sem, reduceAdd, reduceSub, reduceMul, reduceLT, reduceLeDiff, ↓reduceIte, reduceCtorEq, reduceEqDiff, reduceToNat, Int.reduceLT, reduceLE, reduceEq, zeros_len, h3, Bool.not_false, d1, d2, d3, sh_tree, nrm_tree, true_and]
  refine callK_pure (ref26_fields y hg hp k1 k2) (congrArg (fun z => [z]) (erase_rawG y)) (pure_rawG y) ?_
  simp only [go_sem, reduceAdd, reduceSub, reduceMul, reduceLT, reduceLeDiff, ↓reduceIte, reduceCtorEq, reduceEqDiff, reduceToNat, Int.reduceLT, reduceLE, reduceEq, zeros_len, d1, d2, d3, sh_tree, nrm_tree, true_and]
  cases h4 : okF y with
  | false => simp only [go_sem, reduceAdd, reduceSub, reduceMul, reduceLT, reduceLeDiff, ↓reduceIte, reduceCtorEq, reduceEqDiff, reduceToNat, Int.reduceLT, reduceLE, reduceEq, Bool.false_and, Bool.true_and, Bool.not_false, okG, h1, h2, h3, h4]
  | true =>
  simp only [go_sem, reduceAdd, reduceSub, reduceMul, reduceLT, reduceLeDiff, ↓reduceIte, reduceCtorEq, reduceEqDiff, reduceToNat, Int.reduceLT, reduceLE, reduceEq, zeros_len, d1, d2, d3, sh_tree, nrm_tree, true_and]
  refine callK_pure (args' := [rawM .no .no (usedM y), rawG y]) (ref26_sameG (usedM y) y hg (by omega)) (congrArg (fun z => [rawM .no .no (usedM y), z]) (erase_rawG y)) ?_ ?_
  · exact ⟨⟨trivial, trivial, trivial, by simp [pureD, pureL, pure_ints], by simp [pureD, pureL, pure_ints], by simp [pureD, pureL, pure_ints], trivial, trivial, trivial, trivial, trivial, by simp [pureD, pureL], trivial, trivial⟩, pure_rawG y⟩
  simp only [go_sem, reduceAdd, reduceSub, reduceMul, reduceLT, reduceLeDiff, ↓reduceIte, reduceCtorEq, reduceEqDiff, reduceToNat, Int.reduceLT, reduceLE, reduceEq, Bool.true_and, Bool.not_false, okG, h1, h2, h3, h4]
end Go.Ab
