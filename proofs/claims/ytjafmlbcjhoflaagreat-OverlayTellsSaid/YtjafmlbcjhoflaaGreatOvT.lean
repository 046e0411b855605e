/- Whether a message that goes round may be. Conditions: none. -/
import Derived.Test.YtjafmlbcjhoflaaGreatOvS
open Nat (reduceAdd reduceSub reduceMul reduceLT reduceLeDiff reduceEqDiff)
open Int (reduceToNat reduceLE reduceEq)
set_option linter.unusedSimpArgs false
namespace Go.Ab
open Go.Proofs

set_option maxRecDepth 8000 in
set_option maxHeartbeats 8000000 in
theorem msg_used12 (y : GMsg) (hg : GOk y) (hp : y.peers.length < 4000000000) (hk : y.kind = 12) : PSpec Tryz.prog CT 66 [rawG y] (· = .tup [rawM .no .no (usedM y), .bool (okF y)]) := by
  obtain ⟨d1, d2, d3, _⟩ := id hg
  obtain ⟨kind, from_, to, tx, vec, row, flag, num, wn, of_, data, id, ev, peers⟩ := y
  obtain rfl : kind = 12 := hk
  have hu : usedM ⟨12, from_, to, tx, vec, row, flag, num, wn, of_, data, id, ev, peers⟩ = ⟨12, from_, to, false, wn, of_, peers⟩ := rfl
  have hf : okF ⟨12, from_, to, tx, vec, row, flag, num, wn, of_, data, id, ev, peers⟩ = (walksB ⟨12, from_, to, tx, vec, row, flag, num, wn, of_, data, id, ev, peers⟩ && rosterOk peers) := by simp [okF]
  simp only at d1 d2 d3 hp
  refine PSpec.of hT Tryz.func66 rfl (by kernel_rfl) rfl rfl ?_
  rw [hu, hf]
  simp only [Tryz.f66]
  refine awp_cut (fun n s => ∃  (g : Nat → D), s = ⟨[g 0, .ptr 0 [], .ptr 1 [], g 3, g 4, g 5, g 6, g 7, g 8, g 9, g 10, g 11, g 12, g 13, g 14, g 15, g 16, g 17, g 18, g 19, g 20, g 21, g 22, g 23, g 24, g 25, g 26, g 27, g 28, g 29, g 30, g 31, g 32, g 33, g 34, g 35, g 36, g 37, g 38, g 39, g 40, g 41, g 42, g 43, g 44, g 45, g 46, g 47, g 48, g 49, g 50, g 51, g 52, g 53, g 54, g 55, g 56, g 57, g 58, g 59, g 60, g 61, g 62, g 63, g 64, g 65, g 66, g 67, g 68, g 69, g 70, g 71, g 72, g 73, g 74, g 75, g 76, g 77, g 78, g 79, g 80, g 81, g 82, g 83, g 84, g 85, g 86, g 87, g 88, g 89, g 90, g 91, g 92, g 93, g 94, g 95, g 96, g 97, g 98, g 99, g 100, g 101, g 102, g 103, g 104, g 105, g 106, g 107, g 108, g 109, g 110, g 111, g 112, g 113, g 114, g 115, g 116, g 117, g 118, g 119, g 120, g 121, g 122, g 123, g 124, g 125, g 126, g 127, g 128, g 129, g 130, g 131, g 132, g 133, g 134, g 135, g 136, g 137, g 138, g 139, g 140, g 141, g 142, g 143, g 144, g 145, g 146, g 147, g 148, g 149, g 150, g 151, g 152, g 153, g 154, g 155, g 156, g 157, g 158, g 159, g 160, g 161, g 162, g 163, g 164, g 165, g 166, g 167, g 168, g 169, g 170, g 171, g 172, g 173, g 174, g 175, g 176, g 177, g 178, g 179, g 180, g 181, g 182, g 183, g 184, g 185, g 186, g 187, g 188, g 189, g 190, g 191, g 192, g 193, g 194, g 195], ⟨[(msgSh, rawG ⟨12, from_, to, tx, vec, row, flag, num, wn, of_, data, id, ev, peers⟩), (msgSh, bareM 0 0 0)], []⟩⟩ ∧ n = 0) 0 ?_ ?_
  · simp only [go_sem, reduceAdd, reduceSub, reduceMul, reduceLT, reduceLeDiff, ↓reduceIte, reduceCtorEq, reduceEqDiff, reduceToNat, Int.reduceLT, reduceLE, reduceEq, zeros_len, d1, d2, d3, sh_tree, nrm_tree, true_and, Int.reduceEq, decide_true, decide_false]
    exact reg0 rfl rfl
  rintro s ⟨g, rfl, -⟩
  refine awp_cut (fun n s => ∃  (g : Nat → D), s = ⟨[g 0, .ptr 0 [], .ptr 1 [], g 3, .ptr 2 [], g 5, g 6, g 7, g 8, g 9, g 10, g 11, g 12, g 13, g 14, g 15, g 16, g 17, g 18, g 19, g 20, g 21, g 22, g 23, g 24, g 25, g 26, g 27, g 28, g 29, g 30, g 31, g 32, g 33, g 34, g 35, g 36, g 37, g 38, g 39, g 40, g 41, g 42, g 43, g 44, g 45, g 46, g 47, g 48, g 49, g 50, g 51, g 52, g 53, g 54, g 55, g 56, g 57, g 58, g 59, g 60, g 61, g 62, g 63, g 64, g 65, g 66, g 67, g 68, g 69, g 70, g 71, g 72, g 73, g 74, g 75, g 76, g 77, g 78, g 79, g 80, g 81, g 82, g 83, g 84, g 85, g 86, g 87, g 88, g 89, g 90, g 91, g 92, g 93, g 94, g 95, g 96, g 97, g 98, g 99, g 100, g 101, g 102, g 103, g 104, g 105, g 106, g 107, g 108, g 109, g 110, g 111, g 112, g 113, g 114, g 115, g 116, g 117, g 118, g 119, g 120, g 121, g 122, g 123, g 124, g 125, g 126, g 127, g 128, g 129, g 130, g 131, g 132, g 133, g 134, g 135, g 136, g 137, g 138, g 139, g 140, g 141, g 142, g 143, g 144, g 145, g 146, g 147, g 148, g 149, g 150, g 151, g 152, g 153, g 154, g 155, g 156, g 157, g 158, g 159, g 160, g 161, g 162, g 163, g 164, g 165, g 166, g 167, g 168, g 169, g 170, g 171, g 172, g 173, g 174, g 175, g 176, g 177, g 178, g 179, g 180, g 181, g 182, g 183, g 184, g 185, g 186, g 187, g 188, g 189, g 190, g 191, g 192, g 193, g 194, g 195], ⟨[(msgSh, rawG ⟨12, from_, to, tx, vec, row, flag, num, wn, of_, data, id, ev, peers⟩), (msgSh, bareM 0 0 0), (msgSh, bareM 12 from_ to)], []⟩⟩ ∧ n = 0) 0 ?_ ?_
  · simp only [go_sem, reduceAdd, reduceSub, reduceMul, reduceLT, reduceLeDiff, ↓reduceIte, reduceCtorEq, reduceEqDiff, reduceToNat, Int.reduceLT, reduceLE, reduceEq, zeros_len, d1, d2, d3, sh_tree, nrm_tree, true_and, Int.reduceEq, decide_true, decide_false]
    exact reg0 rfl rfl
  rintro s ⟨g, rfl, -⟩
  refine awp_cut (fun n s => ∃  (g : Nat → D), s = ⟨[g 0, .ptr 0 [], .ptr 1 [], g 3, .ptr 2 [], g 5, g 6, g 7, g 8, g 9, g 10, g 11, g 12, g 13, g 14, g 15, g 16, g 17, g 18, g 19, g 20, g 21, g 22, g 23, g 24, g 25, g 26, g 27, g 28, g 29, g 30, g 31, g 32, g 33, g 34, g 35, g 36, g 37, g 38, g 39, g 40, g 41, g 42, g 43, g 44, g 45, g 46, g 47, g 48, g 49, g 50, g 51, g 52, g 53, g 54, g 55, g 56, g 57, g 58, g 59, g 60, g 61, g 62, g 63, g 64, g 65, g 66, g 67, g 68, g 69, g 70, g 71, g 72, g 73, g 74, g 75, g 76, g 77, g 78, g 79, g 80, g 81, g 82, g 83, g 84, g 85, g 86, g 87, g 88, g 89, g 90, g 91, g 92, g 93, g 94, g 95, g 96, g 97, g 98, g 99, g 100, g 101, g 102, g 103, g 104, g 105, g 106, g 107, g 108, g 109, g 110, g 111, g 112, g 113, g 114, g 115, g 116, g 117, g 118, g 119, g 120, g 121, g 122, g 123, g 124, g 125, g 126, g 127, g 128, g 129, g 130, g 131, g 132, g 133, g 134, g 135, g 136, g 137, g 138, g 139, g 140, g 141, g 142, g 143, g 144, g 145, g 146, g 147, g 148, g 149, g 150, g 151, g 152, g 153, g 154, g 155, g 156, g 157, g 158, g 159, g 160, g 161, g 162, g 163, g 164, g 165, g 166, g 167, g 168, g 169, g 170, g 171, g 172, g 173, g 174, g 175, g 176, g 177, g 178, g 179, g 180, g 181, g 182, g 183, g 184, g 185, g 186, g 187, g 188, g 189, g 190, g 191, g 192, g 193, g 194, g 195], ⟨[(msgSh, rawG ⟨12, from_, to, tx, vec, row, flag, num, wn, of_, data, id, ev, peers⟩), (msgSh, bareM 0 0 0), (msgSh, bareM 12 from_ to)], []⟩⟩ ∧ n = 0) 0 ?_ ?_
  · simp only [go_sem, reduceAdd, reduceSub, reduceMul, reduceLT, reduceLeDiff, ↓reduceIte, reduceCtorEq, reduceEqDiff, reduceToNat, Int.reduceLT, reduceLE, reduceEq, zeros_len, d1, d2, d3, sh_tree, nrm_tree, true_and, Int.reduceEq, decide_true, decide_false]
    (repeat' (first | ((refine guardK_split (fun hg => ?_) (fun hg => ?_)) <;> (try simp only [go_sem, reduceAdd, reduceSub, reduceMul, reduceLT, reduceLeDiff, ↓reduceIte, reduceCtorEq, reduceEqDiff, reduceToNat, Int.reduceLT, reduceLE, reduceEq, hg, zeros_len, d1, d2, d3, sh_tree, nrm_tree, true_and, Int.reduceEq, decide_true, decide_false])) | ((refine condK_split (fun hg => ?_) (fun hg => ?_)) <;> (try simp only [go_sem, reduceAdd, reduceSub, reduceMul, reduceLT, reduceLeDiff, ↓reduceIte, reduceCtorEq, reduceEqDiff, reduceToNat, Int.reduceLT, reduceLE, reduceEq, hg, zeros_len, d1, d2, d3, sh_tree, nrm_tree, true_and, Int.reduceEq, decide_true, decide_false])) | ((refine Or.inl ⟨by kernel_rfl, ?_⟩) <;> (try simp only [go_sem, reduceAdd, reduceSub, reduceMul, reduceLT, reduceLeDiff, ↓reduceIte, reduceCtorEq, reduceEqDiff, reduceToNat, Int.reduceLT, reduceLE, reduceEq, zeros_len, d1, d2, d3, sh_tree, nrm_tree, true_and, Int.reduceEq, decide_true, decide_false])))) <;> (first | done | exact reg0 rfl rfl)
  rintro s ⟨g, rfl, -⟩
  simp only [go_sem, reduceAdd, reduceSub, reduceMul, reduceLT, reduceLeDiff, ↓reduceIte, reduceCtorEq, reduceEqDiff, reduceToNat, Int.reduceLT, reduceLE, reduceEq, zeros_len, d1, d2, d3, sh_tree, nrm_tree, true_and, Int.reduceEq, decide_true, decide_false]
  refine .inr ?_
  apply drawN_one [2, 3, 4, 5, 7, 9] ord45 (by kernel_rfl)
  · intro Q' hA ord ho
    simp only [ord45, List.mem_cons, List.not_mem_nil, or_false] at ho
    repeat (rcases ho with rfl | ho; · (simp only [go_sem, reduceAdd, reduceSub, reduceMul, reduceLT, reduceLeDiff, ↓reduceIte, reduceCtorEq, reduceEqDiff, reduceToNat, Int.reduceLT, reduceLE, reduceEq, zeros_len, d1, d2, d3, sh_tree, nrm_tree, true_and, Int.reduceEq, decide_true, decide_false]; exact hA))
  simp only [go_sem, reduceAdd, reduceSub, reduceMul, reduceLT, reduceLeDiff, ↓reduceIte, reduceCtorEq, reduceEqDiff, reduceToNat, Int.reduceLT, reduceLE, reduceEq, zeros_len, d1, d2, d3, sh_tree, nrm_tree, true_and, Int.reduceEq, decide_true, decide_false]
  refine .inl ⟨by kernel_rfl, ?_⟩
  try simp only [go_sem, reduceAdd, reduceSub, reduceMul, reduceLT, reduceLeDiff, ↓reduceIte, reduceCtorEq, reduceEqDiff, reduceToNat, Int.reduceLT, reduceLE, reduceEq, zeros_len, d1, d2, d3, sh_tree, nrm_tree, true_and, Int.reduceEq, decide_true, decide_false]
  refine callD_pure (msg_walks ⟨12, from_, to, tx, vec, row, flag, num, wn, of_, data, id, ev, peers⟩ hg) (congrArg (fun z => [z]) (erase_rawG ⟨12, from_, to, tx, vec, row, flag, num, wn, of_, data, id, ev, peers⟩)) (pure_rawG ⟨12, from_, to, tx, vec, row, flag, num, wn, of_, data, id, ev, peers⟩) ?_
  cases hw : walksB ⟨12, from_, to, tx, vec, row, flag, num, wn, of_, data, id, ev, peers⟩ with
  | false =>
    simp only [go_sem, reduceAdd, reduceSub, reduceMul, reduceLT, reduceLeDiff, ↓reduceIte, reduceCtorEq, reduceEqDiff, reduceToNat, Int.reduceLT, reduceLE, reduceEq, zeros_len, d1, d2, d3, sh_tree, nrm_tree, true_and, Int.reduceEq, decide_true, decide_false, Bool.false_and]
  | true =>
    simp only [go_sem, reduceAdd, reduceSub, reduceMul, reduceLT, reduceLeDiff, ↓reduceIte, reduceCtorEq, reduceEqDiff, reduceToNat, Int.reduceLT, reduceLE, reduceEq, zeros_len, d1, d2, d3, sh_tree, nrm_tree, true_and, Int.reduceEq, decide_true, decide_false]
    refine callD_pure (roster_check peers hp) (by first | rfl | (simp only [go_sem]; done)) (by first | (simp only [go_sem]; done) | (simp [pureL, pureD]; done)) ?_
    simp only [go_sem, reduceAdd, reduceSub, reduceMul, reduceLT, reduceLeDiff, ↓reduceIte, reduceCtorEq, reduceEqDiff, reduceToNat, Int.reduceLT, reduceLE, reduceEq, zeros_len, d1, d2, d3, sh_tree, nrm_tree, true_and, Int.reduceEq, decide_true, decide_false, Bool.true_and]
end Go.Ab
set_option linter.unusedSimpArgs false
namespace Go.Ab
open Go.Proofs

theorem msg_usedG (y : GMsg) (hg : GOk y) (hp : y.peers.length < 4000000000) (h1 : 7 ≤ y.kind) (h2 : y.kind ≤ 13) : PSpec Tryz.prog CT 66 [rawG y] (· = .tup [rawM .no .no (usedM y), .bool (okF y)]) := by
  have : y.kind = 7 ∨ y.kind = 8 ∨ y.kind = 9 ∨ y.kind = 10 ∨ y.kind = 11 ∨ y.kind = 12 ∨ y.kind = 13 := by omega
  rcases this with h | h | h | h | h | h | h
  · exact msg_used7 y hg hp h
  · exact msg_used8 y hg hp h
  · exact msg_used9 y hg hp h
  · exact msg_used10 y hg hp h
  · exact msg_used11 y hg hp h
  · exact msg_used12 y hg hp h
  · exact msg_used13 y hg hp h
def okG (y : GMsg) : Bool := vpeer y.from_ && vpeer y.to && !decide (y.from_ = y.to) && okF y && alikeB (usedM y) y
theorem used_len (y : GMsg) : (usedM y).peers.length ≤ y.peers.length := by
  show (if y.kind = 12 ∨ y.kind = 13 then y.peers else []).length ≤ _
  split <;> simp
set_option maxRecDepth 8000 in
set_option maxHeartbeats 2000000 in
theorem msg_checkG (y : GMsg) (hg : GOk y) (hp : y.peers.length < 4000000000) (k1 : 7 ≤ y.kind) (k2 : y.kind ≤ 13) : PSpec Tryz.prog CT 34 [rawG y] (· = .bool (okG y)) := by
  obtain ⟨d1, d2, d3, _⟩ := id hg
  refine PSpec.of hT Tryz.func34 rfl (by kernel_rfl) rfl rfl ?_
  have hul := used_len y
  simp only [Tryz.f34, go_sem, reduceAdd, reduceSub, reduceMul, reduceLT, reduceLeDiff, ↓reduceIte, reduceCtorEq, reduceEqDiff, reduceToNat, Int.reduceLT, reduceLE, reduceEq, zeros_len, d1, d2, d3, sh_tree, true_and]
  refine callK_pure (msg_peer y.from_) (by first | rfl | (simp only [go_sem]; done)) (by first | (simp only [go_sem]; done) | (simp [pureL, pureD]; done)) ?_
  cases h1 : vpeer y.from_ with
  | false => simp only [go_sem, reduceAdd, reduceSub, reduceMul, reduceLT, reduceLeDiff, ↓reduceIte, reduceCtorEq, reduceEqDiff, reduceToNat, Int.reduceLT, reduceLE, reduceEq, Bool.not_false, Bool.false_and, okG, h1]
  | true =>
  simp only [go_sem, reduceAdd, reduceSub, reduceMul, reduceLT, reduceLeDiff, ↓reduceIte, reduceCtorEq, reduceEqDiff, reduceToNat, Int.reduceLT, reduceLE, reduceEq, zeros_len, Bool.not_true, Bool.true_and]
  refine callK_pure (msg_peer y.to) (by first | rfl | (simp only [go_sem]; done)) (by first | (simp only [go_sem]; done) | (simp [pureL, pureD]; done)) ?_
  cases h2 : vpeer y.to with
  | false => simp only [go_sem, reduceAdd, reduceSub, reduceMul, reduceLT, reduceLeDiff, ↓reduceIte, reduceCtorEq, reduceEqDiff, reduceToNat, Int.reduceLT, reduceLE, reduceEq, Bool.not_false, Bool.false_and, Bool.true_and, okG, h1, h2]
  | true =>
  simp only [go_sem, reduceAdd, reduceSub, reduceMul, reduceLT, reduceLeDiff, ↓reduceIte, reduceCtorEq, reduceEqDiff, reduceToNat, Int.reduceLT, reduceLE, reduceEq, zeros_len, Bool.not_true, Bool.true_and]
  refine condK_split (fun h3 => ?_) (fun h3 => ?_)
  · simp only [go_sem, reduceAdd, reduceSub, reduceMul, reduceLT, reduceLeDiff, ↓reduceIte, reduceCtorEq, reduceEqDiff, reduceToNat, Int.reduceLT, reduceLE, reduceEq, h3, Bool.not_true, Bool.false_and, Bool.true_and, okG, h1, h2]
  simp only [go_sem, reduceAdd, reduceSub, reduceMul, reduceLT, reduceLeDiff, ↓reduceIte, reduceCtorEq, reduceEqDiff, reduceToNat, Int.reduceLT, reduceLE, reduceEq, zeros_len, h3, Bool.not_false, d1, d2, d3, sh_tree, nrm_tree, true_and]
  refine callK_pure (msg_usedG y hg hp k1 k2) (congrArg (fun z => [z]) (erase_rawG y)) (pure_rawG y) ?_
  simp only [go_sem, reduceAdd, reduceSub, reduceMul, reduceLT, reduceLeDiff, ↓reduceIte, reduceCtorEq, reduceEqDiff, reduceToNat, Int.reduceLT, reduceLE, reduceEq, zeros_len, d1, d2, d3, sh_tree, nrm_tree, true_and]
  cases h4 : okF y with
  | false => simp only [go_sem, reduceAdd, reduceSub, reduceMul, reduceLT, reduceLeDiff, ↓reduceIte, reduceCtorEq, reduceEqDiff, reduceToNat, Int.reduceLT, reduceLE, reduceEq, Bool.false_and, Bool.true_and, Bool.not_false, okG, h1, h2, h3, h4]
  | true =>
  simp only [go_sem, reduceAdd, reduceSub, reduceMul, reduceLT, reduceLeDiff, ↓reduceIte, reduceCtorEq, reduceEqDiff, reduceToNat, Int.reduceLT, reduceLE, reduceEq, zeros_len, d1, d2, d3, sh_tree, nrm_tree, true_and]
  refine callK_pure (args' := [rawM .no .no (usedM y), rawG y]) (msg_alikeG (usedM y) y hg (by omega)) (congrArg (fun z => [rawM .no .no (usedM y), z]) (erase_rawG y)) ?_ ?_
  · exact ⟨⟨trivial, trivial, trivial, by simp [pureD, pureL, pure_ints], by simp [pureD, pureL, pure_ints], by simp [pureD, pureL, pure_ints], trivial, trivial, trivial, trivial, trivial, by simp [pureD, pureL], trivial, trivial⟩, pure_rawG y⟩
  simp only [go_sem, reduceAdd, reduceSub, reduceMul, reduceLT, reduceLeDiff, ↓reduceIte, reduceCtorEq, reduceEqDiff, reduceToNat, Int.reduceLT, reduceLE, reduceEq, Bool.true_and, Bool.not_false, okG, h1, h2, h3, h4]
end Go.Ab
