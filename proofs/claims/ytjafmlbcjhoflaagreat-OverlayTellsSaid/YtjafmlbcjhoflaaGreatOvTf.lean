/- Who is whose neighbour: what the document's functions compute. Conditions: none. -/
import Derived.Test.YtjafmlbcjhoflaaGreatOvTd
import Derived.Test.YtjafmlbcjhoflaaGreatOvEa
import Derived.Test.YtjafmlbcjhoflaaGreatViR
open Nat (reduceAdd reduceSub reduceMul reduceLT reduceLeDiff reduceEqDiff)
open Int (reduceToNat reduceLE reduceEq)
set_option linter.unusedSimpArgs false
namespace Go.Ab
open Go.Proofs

theorem deep_made (ms : List MsgM) (u w : Tok) (m : MsgM) : deepL (ms.map (rawM .no .no) ++ [rawM u w m]) = (ms ++ [m]).map (rawM .no .no) := by
  rw [deepL_cat, deep_raws, List.map_append]
  simp only [deepL, deep_raw, List.map_cons, List.map_nil]
theorem deep_one (u w : Tok) (m : MsgM) : deepL [rawM u w m] = [m].map (rawM .no .no) := by
  have := deep_made [] u w m
  simpa using this
set_option maxRecDepth 8000 in
set_option maxHeartbeats 4000000 in
theorem ref27_have (v : ViewR) (p d : Int) (ha : v.act.length < 1000000) (hp : v.pas.length < 1000000) :
    FSpec Tryz.prog CT 40 [viewD v, .lit (.int .i64 p), .lit (.int .i64 d)] (fun a u L => a = viewD (addV v p d).1 ∧ u = 45 ∧ L = (goneM v p d).map (rawM .no .no)) := by
  refine FSpec.ofDeep (R0 := fun r h' => ∃ u L, r = .tup [viewD (addV v p d).1, .lst 45 L u] ∧ live u h'.toks ∧ deepL L = (goneM v p d).map (rawM .no .no)) ?_ ?_
  · refine ASpec.of hT Tryz.func40 rfl (by kernel_rfl) rfl rfl ?_
    simp only [Tryz.f40, go_sem, reduceAdd, reduceSub, reduceMul, reduceLT, reduceLeDiff, ↓reduceIte, reduceCtorEq, reduceEqDiff, reduceToNat, Int.reduceLT, reduceLE, reduceEq, noHeap]
    refine callK_pure (ref25_add v p d ha hp) (by first | rfl | (simp only [go_sem]; done)) (by first | (simp only [go_sem]; done) | (simp [pureL, pureD]; done)) ?_
    simp only [go_sem, reduceAdd, reduceSub, reduceMul, reduceLT, reduceLeDiff, ↓reduceIte, reduceCtorEq, reduceEqDiff, reduceToNat, Int.reduceLT, reduceLE, reduceEq]
    refine condK_split (fun h1 => ?_) (fun h1 => ?_)
    · have e : goneM v p d = [] := if_pos (of_decide_eq_true h1)
      simp only [go_sem, reduceAdd, reduceSub, reduceMul, reduceLT, reduceLeDiff, ↓reduceIte, reduceCtorEq, reduceEqDiff, reduceToNat, Int.reduceLT, reduceLE, reduceEq]
      rw [e]
      exact ⟨_, _, rfl, trivial, rfl⟩
    · have e : goneM v p d = [⟨11, (addV v p d).1.self, (addV v p d).2, false, 0, 0, []⟩] := if_neg (of_decide_eq_false h1)
      simp only [go_sem, reduceAdd, reduceSub, reduceMul, reduceLT, reduceLeDiff, ↓reduceIte, reduceCtorEq, reduceEqDiff, reduceToNat, Int.reduceLT, reduceLE, reduceEq]
      refine .inr ?_
      apply drawN_stores (fun g => ∃ z, g = ⟨[(viewSh', viewD (addV v p d).1), (viewSh', z)], []⟩) _ [0, 1, 2, 3, 4, 5, 7] [6] (by kernel_rfl)
      · rintro g ⟨z, rfl⟩ Q' hQ
        simp only [go_sem, reduceAdd, reduceSub, reduceMul, reduceLT, reduceLeDiff, ↓reduceIte, reduceCtorEq, reduceEqDiff, reduceToNat, Int.reduceLT, reduceLE, reduceEq, zeros_len]
        exact hQ
      refine storesD_step (P := Tryz.prog) rfl rfl rfl ⟨_, rfl⟩ ?_
      simp only [go_sem, reduceAdd, reduceSub, reduceMul, reduceLT, reduceLeDiff, ↓reduceIte, reduceCtorEq, reduceEqDiff, reduceToNat, Int.reduceLT, reduceLE, reduceEq]
      refine ⟨⟨_, rfl⟩, ?_⟩
      simp only [go_sem, reduceAdd, reduceSub, reduceMul, reduceLT, reduceLeDiff, ↓reduceIte, reduceCtorEq, reduceEqDiff, reduceToNat, Int.reduceLT, reduceLE, reduceEq]
      rw [e]
      exact ⟨_, _, rfl, trivial, deep_one .full .full ⟨11, (addV v p d).1.self, (addV v p d).2, false, 0, 0, []⟩⟩
  · rintro r h' ⟨u, L, rfl, hl, h5⟩
    exact ⟨_, _, _, _, rfl, by rw [deep_view]; exact pure_view _, hl, by rw [deep_view], rfl, h5⟩
set_option maxRecDepth 8000 in
set_option maxHeartbeats 4000000 in
theorem ref27_meet (v : ViewR) (p d : Int) (ha : v.act.length < 1000000) (hp : v.pas.length < 1000000) : PSpec Tryz.prog CT 17 [viewD v, .lit (.int .i64 p), .lit (.int .i64 d)] (· = .tup [viewD (meetV v p d).1, msgsD (meetV v p d).2]) := by
  refine PSpec.ofDeep (R := fun r _ => ∃ u L, r = .tup [viewD (meetV v p d).1, .lst 45 L u] ∧ deepL L = (meetV v p d).2.map (rawM .no .no)) ?_ ?_
  rotate_left
  · rintro r h' ⟨u, L, rfl, h5⟩
    have e : deep (.tup [viewD (meetV v p d).1, .lst 45 L u]) = .tup [viewD (meetV v p d).1, msgsD (meetV v p d).2] := by
      simp only [deep, deepL, deep_ints, h5]
    rw [e]
    exact ⟨⟨pure_view _, trivial, trivial⟩, rfl⟩
  refine ASpec.of hT Tryz.func17 rfl (by kernel_rfl) rfl rfl ?_
  simp only [Tryz.f17, go_sem, reduceAdd, reduceSub, reduceMul, reduceLT, reduceLeDiff, ↓reduceIte, reduceCtorEq, reduceEqDiff, reduceToNat, Int.reduceLT, reduceLE, reduceEq, noHeap]
  refine callK_pure (ref25_check v (by omega) (by omega)) (by first | rfl | (simp only [go_sem]; done)) (by first | (simp only [go_sem]; done) | (simp [pureL, pureD]; done)) ?_
  rw [meetV]
  cases h1 : checkV v with
  | false =>
    simp only [go_sem, reduceAdd, reduceSub, reduceMul, reduceLT, reduceLeDiff, ↓reduceIte, reduceCtorEq, reduceEqDiff, reduceToNat, Int.reduceLT, reduceLE, reduceEq, Bool.not_false, Bool.false_and, Bool.false_eq_true, if_false]
    exact ⟨_, _, rfl, rfl⟩
  | true =>
  simp only [go_sem, reduceAdd, reduceSub, reduceMul, reduceLT, reduceLeDiff, ↓reduceIte, reduceCtorEq, reduceEqDiff, reduceToNat, Int.reduceLT, reduceLE, reduceEq, Bool.not_true, Bool.true_and]
  refine callK_pure (ref_peer p) (by first | rfl | (simp only [go_sem]; done)) (by first | (simp only [go_sem]; done) | (simp [pureL, pureD]; done)) ?_
  cases h2 : vpeer p with
  | false =>
    simp only [go_sem, reduceAdd, reduceSub, reduceMul, reduceLT, reduceLeDiff, ↓reduceIte, reduceCtorEq, reduceEqDiff, reduceToNat, Int.reduceLT, reduceLE, reduceEq, Bool.not_false, otherV, h2, Bool.false_and, Bool.false_eq_true, if_false]
    exact ⟨_, _, rfl, rfl⟩
  | true =>
  simp only [go_sem, reduceAdd, reduceSub, reduceMul, reduceLT, reduceLeDiff, ↓reduceIte, reduceCtorEq, reduceEqDiff, reduceToNat, Int.reduceLT, reduceLE, reduceEq, Bool.not_true, otherV, h2, Bool.true_and]
  refine condK_split (fun h3 => ?_) (fun h3 => ?_)
  · simp only [go_sem, reduceAdd, reduceSub, reduceMul, reduceLT, reduceLeDiff, ↓reduceIte, reduceCtorEq, reduceEqDiff, reduceToNat, Int.reduceLT, reduceLE, reduceEq, h3, Bool.not_true, Bool.false_eq_true, if_false]
    exact ⟨_, _, rfl, rfl⟩
  simp only [go_sem, reduceAdd, reduceSub, reduceMul, reduceLT, reduceLeDiff, ↓reduceIte, reduceCtorEq, reduceEqDiff, reduceToNat, Int.reduceLT, reduceLE, reduceEq, h3, Bool.not_false, if_true]
  refine callK_a (FSpec.call_made (args := [viewD v, .lit (.int .i64 p), .lit (.int .i64 d)]) (ref27_have v p d ha hp) _ _ (by first | rfl | (simp only [go_sem]; done)) (by first | (simp only [go_sem]; done) | (simp [pureL, pureD]; done))) ?_
  rintro r h' ⟨a, u, L, t, z, rfl, rfl, hlv, rfl, rfl, rfl⟩
  try simp only [go_sem, reduceAdd, reduceSub, reduceMul, reduceLT, reduceLeDiff, ↓reduceIte, reduceCtorEq, reduceEqDiff, reduceToNat, Int.reduceLT, reduceLE, reduceEq]
  refine .inl ⟨by kernel_rfl, ?_⟩
  try simp only [go_sem, reduceAdd, reduceSub, reduceMul, reduceLT, reduceLeDiff, ↓reduceIte, reduceCtorEq, reduceEqDiff, reduceToNat, Int.reduceLT, reduceLE, reduceEq, zeros_len]
  have hgl := gone_len v p d
  have hcb : CT.bytes 45 ≤ 1000000000 := by decide +kernel
  refine appK_any _ _ _ _ _ _ _ hlv (by decide +kernel) ?_ (fun u tk3 hlv3 => ?_)
  · simp only [List.length_map, List.length_cons, List.length_nil]
    exact Nat.le_trans (Nat.mul_le_mul (show (goneM v p d).length + (0 + 1) ≤ 46 by omega) hcb) (by omega)
  simp only [go_sem, reduceAdd, reduceSub, reduceMul, reduceLT, reduceLeDiff, ↓reduceIte, reduceCtorEq, reduceEqDiff, reduceToNat, Int.reduceLT, reduceLE, reduceEq]
  exact ⟨_, _, rfl, deep_made _ .full .full ⟨7, (addV v p d).1.self, p, false, 0, 0, []⟩⟩
set_option maxRecDepth 8000 in
set_option maxHeartbeats 4000000 in
theorem ref27_tick (v : ViewR) (d : Int) (ha : v.act.length < 1000000) (hp : v.pas.length < 1000000) : PSpec Tryz.prog CT 19 [viewD v, .lit (.int .i64 d)] (· = .tup [viewD (tickV v d).1, msgsD (tickV v d).2]) := by
  refine PSpec.ofDeep (R := fun r _ => ∃ u L, r = .tup [viewD (tickV v d).1, .lst 45 L u] ∧ deepL L = (tickV v d).2.map (rawM .no .no)) ?_ ?_
  rotate_left
  · rintro r h' ⟨u, L, rfl, h5⟩
    have e : deep (.tup [viewD (tickV v d).1, .lst 45 L u]) = .tup [viewD (tickV v d).1, msgsD (tickV v d).2] := by
      simp only [deep, deepL, deep_ints, h5]
    rw [e]
    exact ⟨⟨pure_view _, trivial, trivial⟩, rfl⟩
  refine ASpec.of hT Tryz.func19 rfl (by kernel_rfl) rfl rfl ?_
  simp only [Tryz.f19, go_sem, reduceAdd, reduceSub, reduceMul, reduceLT, reduceLeDiff, ↓reduceIte, reduceCtorEq, reduceEqDiff, reduceToNat, Int.reduceLT, reduceLE, reduceEq, noHeap]
  refine callK_pure (ref25_check v (by omega) (by omega)) (by first | rfl | (simp only [go_sem]; done)) (by first | (simp only [go_sem]; done) | (simp [pureL, pureD]; done)) ?_
  rw [tickV]
  cases h1 : checkV v with
  | false =>
    simp only [go_sem, reduceAdd, reduceSub, reduceMul, reduceLT, reduceLeDiff, ↓reduceIte, reduceCtorEq, reduceEqDiff, reduceToNat, Int.reduceLT, reduceLE, reduceEq, Bool.not_false, Bool.false_eq_true, if_false]
    exact ⟨_, _, rfl, rfl⟩
  | true =>
  simp only [go_sem, reduceAdd, reduceSub, reduceMul, reduceLT, reduceLeDiff, ↓reduceIte, reduceCtorEq, reduceEqDiff, reduceToNat, Int.reduceLT, reduceLE, reduceEq, Bool.not_true, if_true]
  refine condK_split (fun h2 => ?_) (fun h2 => ?_)
  · rw [if_pos (show zeroL v = true from h2), askV]
    simp only [go_sem, reduceAdd, reduceSub, reduceMul, reduceLT, reduceLeDiff, ↓reduceIte, reduceCtorEq, reduceEqDiff, reduceToNat, Int.reduceLT, reduceLE, reduceEq]
    refine callK_pure (args' := [intsL v.pas .no, intsL [] .no, .lit (.int .i64 d)]) (ref25_pick v.pas [] d (by omega) (by simp)) (by first | rfl | (simp only [go_sem]; done)) (by first | (simp only [go_sem]; done) | (simp [pureL, pureD]; done)) ?_
    simp only [go_sem, reduceAdd, reduceSub, reduceMul, reduceLT, reduceLeDiff, ↓reduceIte, reduceCtorEq, reduceEqDiff, reduceToNat, Int.reduceLT, reduceLE, reduceEq]
    refine condK_split (fun h3 => ?_) (fun h3 => ?_)
    · rw [if_pos (of_decide_eq_true h3)]
      simp only [go_sem, reduceAdd, reduceSub, reduceMul, reduceLT, reduceLeDiff, ↓reduceIte, reduceCtorEq, reduceEqDiff, reduceToNat, Int.reduceLT, reduceLE, reduceEq]
      exact ⟨_, _, rfl, rfl⟩
    · rw [if_neg (of_decide_eq_false h3)]
      simp only [go_sem, reduceAdd, reduceSub, reduceMul, reduceLT, reduceLeDiff, ↓reduceIte, reduceCtorEq, reduceEqDiff, reduceToNat, Int.reduceLT, reduceLE, reduceEq]
      refine .inr ?_
      apply drawN_stores (fun g => ∃ z, g = ⟨[(viewSh', viewD v), (viewSh', z)], []⟩) _ [0, 1, 2, 3, 4, 5, 7] [6] (by kernel_rfl)
      · rintro g ⟨z, rfl⟩ Q' hQ
        simp only [go_sem, reduceAdd, reduceSub, reduceMul, reduceLT, reduceLeDiff, ↓reduceIte, reduceCtorEq, reduceEqDiff, reduceToNat, Int.reduceLT, reduceLE, reduceEq, zeros_len]
        exact hQ
      refine storesD_step (P := Tryz.prog) rfl rfl rfl ⟨_, rfl⟩ ?_
      simp only [go_sem, reduceAdd, reduceSub, reduceMul, reduceLT, reduceLeDiff, ↓reduceIte, reduceCtorEq, reduceEqDiff, reduceToNat, Int.reduceLT, reduceLE, reduceEq, zeros_len]
      refine ⟨⟨_, rfl⟩, ?_⟩
      simp only [go_sem, reduceAdd, reduceSub, reduceMul, reduceLT, reduceLeDiff, ↓reduceIte, reduceCtorEq, reduceEqDiff, reduceToNat, Int.reduceLT, reduceLE, reduceEq, zeros_len]
      exact ⟨_, _, rfl, deep_one .full .full ⟨9, v.self, pickI v.pas [] d, true, 0, 0, []⟩⟩
  · rw [if_neg (show ¬ zeroL v = true by rw [show zeroL v = false from h2]; simp)]
    simp only [go_sem, reduceAdd, reduceSub, reduceMul, reduceLT, reduceLeDiff, ↓reduceIte, reduceCtorEq, reduceEqDiff, reduceToNat, Int.reduceLT, reduceLE, reduceEq]
    refine .inr ?_
    apply drawN_stores (fun g => ∃ z, g = ⟨[(viewSh', viewD v), (viewSh', z)], []⟩) _ [0, 1, 2, 3, 4, 5, 6, 7, 8, 9, 10, 11, 12, 13, 15] [14] (by kernel_rfl)
    · rintro g ⟨z, rfl⟩ Q' hQ
      simp only [go_sem, reduceAdd, reduceSub, reduceMul, reduceLT, reduceLeDiff, ↓reduceIte, reduceCtorEq, reduceEqDiff, reduceToNat, Int.reduceLT, reduceLE, reduceEq, zeros_len]
      refine callD_pure (args' := [intsL v.act .no, intsL [] .no, .lit (.int .i64 d)]) (ref25_pick v.act [] d (by omega) (by simp)) (by first | rfl | (simp only [go_sem]; done)) (by first | (simp only [go_sem]; done) | (simp [pureL, pureD]; done)) ?_
      simp only [go_sem, reduceAdd, reduceSub, reduceMul, reduceLT, reduceLeDiff, ↓reduceIte, reduceCtorEq, reduceEqDiff, reduceToNat, Int.reduceLT, reduceLE, reduceEq, zeros_len]
      refine callD_pure (ref25_sample v d ha hp) (by first | rfl | (simp only [go_sem]; done)) (by first | (simp only [go_sem]; done) | (simp [pureL, pureD]; done)) ?_
      simp only [go_sem, reduceAdd, reduceSub, reduceMul, reduceLT, reduceLeDiff, ↓reduceIte, reduceCtorEq, reduceEqDiff, reduceToNat, Int.reduceLT, reduceLE, reduceEq, zeros_len]
      exact hQ
    refine storesD_step (P := Tryz.prog) rfl rfl rfl ⟨_, rfl⟩ ?_
    simp only [go_sem, reduceAdd, reduceSub, reduceMul, reduceLT, reduceLeDiff, ↓reduceIte, reduceCtorEq, reduceEqDiff, reduceToNat, Int.reduceLT, reduceLE, reduceEq, zeros_len]
    refine ⟨⟨_, rfl⟩, ?_⟩
    simp only [go_sem, reduceAdd, reduceSub, reduceMul, reduceLT, reduceLeDiff, ↓reduceIte, reduceCtorEq, reduceEqDiff, reduceToNat, Int.reduceLT, reduceLE, reduceEq, zeros_len]
    exact ⟨_, _, rfl, deep_one .full .no ⟨12, v.self, pickI v.act [] d, false, v.self, 2, sampleV v d⟩⟩
set_option maxRecDepth 8000 in
set_option maxHeartbeats 4000000 in
theorem ref27_fail (v : ViewR) (p d : Int) (ha : v.act.length < 1000000) (hp : v.pas.length < 1000000) : PSpec Tryz.prog CT 21 [viewD v, .lit (.int .i64 p), .lit (.int .i64 d)] (· = .tup [viewD (failV v p d).1, msgsD (failV v p d).2]) := by
  refine PSpec.ofDeep (R := fun r _ => ∃ u L, r = .tup [viewD (failV v p d).1, .lst 45 L u] ∧ deepL L = (failV v p d).2.map (rawM .no .no)) ?_ ?_
  rotate_left
  · rintro r h' ⟨u, L, rfl, h5⟩
    have e : deep (.tup [viewD (failV v p d).1, .lst 45 L u]) = .tup [viewD (failV v p d).1, msgsD (failV v p d).2] := by
      simp only [deep, deepL, deep_ints, h5]
    rw [e]
    exact ⟨⟨pure_view _, trivial, trivial⟩, rfl⟩
  refine ASpec.of hT Tryz.func21 rfl (by kernel_rfl) rfl rfl ?_
  simp only [Tryz.f21, go_sem, reduceAdd, reduceSub, reduceMul, reduceLT, reduceLeDiff, ↓reduceIte, reduceCtorEq, reduceEqDiff, reduceToNat, Int.reduceLT, reduceLE, reduceEq, noHeap]
  refine callK_pure (ref25_check v (by omega) (by omega)) (by first | rfl | (simp only [go_sem]; done)) (by first | (simp only [go_sem]; done) | (simp [pureL, pureD]; done)) ?_
  rw [failV]
  cases h1 : checkV v with
  | false =>
    simp only [go_sem, reduceAdd, reduceSub, reduceMul, reduceLT, reduceLeDiff, ↓reduceIte, reduceCtorEq, reduceEqDiff, reduceToNat, Int.reduceLT, reduceLE, reduceEq, Bool.not_false, Bool.false_eq_true, if_false]
    exact ⟨_, _, rfl, rfl⟩
  | true =>
  simp only [go_sem, reduceAdd, reduceSub, reduceMul, reduceLT, reduceLeDiff, ↓reduceIte, reduceCtorEq, reduceEqDiff, reduceToNat, Int.reduceLT, reduceLE, reduceEq, Bool.not_true, if_true]
  refine callK_pure (ref18_has v.act p (by omega)) (by first | rfl | (simp only [go_sem]; done)) (by first | (simp only [go_sem]; done) | (simp [pureL, pureD]; done)) ?_
  simp only [go_sem, reduceAdd, reduceSub, reduceMul, reduceLT, reduceLeDiff, ↓reduceIte, reduceCtorEq, reduceEqDiff, reduceToNat, Int.reduceLT, reduceLE, reduceEq]
  refine callK_pure (ref25_forget v p ha hp) (by first | rfl | (simp only [go_sem]; done)) (by first | (simp only [go_sem]; done) | (simp [pureL, pureD]; done)) ?_
  have hf := forgetV_fit v p
  have hf2 := hf.2
  generalize forgetV v p = x at *
  simp only [go_sem, reduceAdd, reduceSub, reduceMul, reduceLT, reduceLeDiff, ↓reduceIte, reduceCtorEq, reduceEqDiff, reduceToNat, Int.reduceLT, reduceLE, reduceEq]
  refine callK_pure (args' := [intsL x.pas .no, intsL [] .no, .lit (.int .i64 d)]) (ref25_pick x.pas [] d (by omega) (by simp)) (by first | rfl | (simp only [go_sem]; done)) (by first | (simp only [go_sem]; done) | (simp [pureL, pureD]; done)) ?_
  simp only [go_sem, reduceAdd, reduceSub, reduceMul, reduceLT, reduceLeDiff, ↓reduceIte, reduceCtorEq, reduceEqDiff, reduceToNat, Int.reduceLT, reduceLE, reduceEq]
  by_cases hm : p ∈ v.act
  · have h2 : decide (p ∈ v.act) = true := decide_eq_true hm
    rw [if_pos hm, askV]
    simp only [go_sem, reduceAdd, reduceSub, reduceMul, reduceLT, reduceLeDiff, ↓reduceIte, reduceCtorEq, reduceEqDiff, reduceToNat, Int.reduceLT, reduceLE, reduceEq, h2, Bool.not_true]
    refine condK_split (fun h3 => ?_) (fun h3 => ?_)
    · rw [if_pos (of_decide_eq_true h3)]
      simp only [go_sem, reduceAdd, reduceSub, reduceMul, reduceLT, reduceLeDiff, ↓reduceIte, reduceCtorEq, reduceEqDiff, reduceToNat, Int.reduceLT, reduceLE, reduceEq]
      exact ⟨_, _, rfl, rfl⟩
    · rw [if_neg (of_decide_eq_false h3)]
      simp only [go_sem, reduceAdd, reduceSub, reduceMul, reduceLT, reduceLeDiff, ↓reduceIte, reduceCtorEq, reduceEqDiff, reduceToNat, Int.reduceLT, reduceLE, reduceEq]
      refine .inr ?_
      apply drawN_stores (fun g => ∃ z, g = ⟨[(viewSh', viewD x), (viewSh', z)], []⟩) _ [0, 1, 2, 3, 4, 5, 6, 7, 8, 9, 11] [10] (by kernel_rfl)
      · rintro g ⟨z, rfl⟩ Q' hQ
        simp only [go_sem, reduceAdd, reduceSub, reduceMul, reduceLT, reduceLeDiff, ↓reduceIte, reduceCtorEq, reduceEqDiff, reduceToNat, Int.reduceLT, reduceLE, reduceEq, zeros_len]
        exact hQ
      refine storesD_step (P := Tryz.prog) rfl rfl rfl ⟨_, rfl⟩ ?_
      simp only [go_sem, reduceAdd, reduceSub, reduceMul, reduceLT, reduceLeDiff, ↓reduceIte, reduceCtorEq, reduceEqDiff, reduceToNat, Int.reduceLT, reduceLE, reduceEq, zeros_len]
      refine ⟨⟨_, rfl⟩, ?_⟩
      simp only [go_sem, reduceAdd, reduceSub, reduceMul, reduceLT, reduceLeDiff, ↓reduceIte, reduceCtorEq, reduceEqDiff, reduceToNat, Int.reduceLT, reduceLE, reduceEq, zeros_len]
      exact ⟨_, _, rfl, deep_one .full .full ⟨9, x.self, pickI x.pas [] d, zeroL x, 0, 0, []⟩⟩
  · have h2 : decide (p ∈ v.act) = false := decide_eq_false hm
    rw [if_neg hm]
    simp only [go_sem, reduceAdd, reduceSub, reduceMul, reduceLT, reduceLeDiff, ↓reduceIte, reduceCtorEq, reduceEqDiff, reduceToNat, Int.reduceLT, reduceLE, reduceEq, h2, Bool.not_false]
    exact ⟨_, _, rfl, rfl⟩
end Go.Ab
set_option linter.unusedSimpArgs false
namespace Go.Ab
open Go.Proofs

set_option maxRecDepth 8000 in
set_option maxHeartbeats 4000000 in
theorem ref27_joined (v : ViewR) (m : MsgM) (d : Int) (ha : v.act.length < 100000) (hp : v.pas.length < 100000) : PSpec Tryz.prog CT 37 [viewD v, .lit (.int .i64 m.from_), .lit (.int .i64 d)] (· = .tup [viewD (joinV v m d).1, msgsD (joinV v m d).2]) := by
  refine PSpec.ofDeep (R := fun r _ => ∃ u L, r = .tup [viewD (joinV v m d).1, .lst 45 L u] ∧ deepL L = (joinV v m d).2.map (rawM .no .no)) ?_ ?_
  rotate_left
  · rintro r h' ⟨u, L, rfl, h5⟩
    have e : deep (.tup [viewD (joinV v m d).1, .lst 45 L u]) = .tup [viewD (joinV v m d).1, msgsD (joinV v m d).2] := by
      simp only [deep, deepL, deep_ints, h5]
    rw [e]
    exact ⟨⟨pure_view _, trivial, trivial⟩, rfl⟩
  refine ASpec.of hT Tryz.func37 rfl (by kernel_rfl) rfl rfl ?_
  simp only [Tryz.f37, go_sem, reduceAdd, reduceSub, reduceMul, reduceLT, reduceLeDiff, ↓reduceIte, reduceCtorEq, reduceEqDiff, reduceToNat, Int.reduceLT, reduceLE, reduceEq, noHeap]
  have hact := add_act v m.from_ d
  have hgl := gone_len v m.from_ d
  have hjv : joinV v m d = ((addV v m.from_ d).1, goneM v m.from_ d ++ tellM (addV v m.from_ d).1.self m.from_ (addV v m.from_ d).1.act) := rfl
  rw [hjv]
  have hcb : CT.bytes 45 ≤ 100000000 := by decide +kernel
  refine callK_a (FSpec.call_made (args := [viewD v, .lit (.int .i64 m.from_), .lit (.int .i64 d)]) (ref27_have v m.from_ d (by omega) (by omega)) _ _ (by first | rfl | (simp only [go_sem]; done)) (by first | (simp only [go_sem]; done) | (simp [pureL, pureD]; done))) ?_
  rintro r h' ⟨a, u, L, t, z, rfl, rfl, hlv, rfl, rfl, rfl⟩
  generalize (addV v m.from_ d).1 = v1 at *
  generalize goneM v m.from_ d = gm at *
  simp only [go_sem, reduceAdd, reduceSub, reduceMul, reduceLT, reduceLeDiff, ↓reduceIte, reduceCtorEq, reduceEqDiff, reduceToNat, Int.reduceLT, reduceLE, reduceEq]
  refine awp_loop (fun n s => ∃ (j : Nat) (L : List D) (tk4 : List Bool) (u2 : Tok) (c : D) (g : Nat → D), s = ⟨[g 0, .lit (.int .i64 m.from_), g 2, .ptr 0 [], g 4, g 5, .ptr 1 [], g 7, .lst 45 L u2, .lit (.int .i64 j), g 10, g 11, g 12, g 13, g 14, g 15, g 16, g 17, g 18, g 19, g 20, g 21, g 22, g 23, g 24, g 25, g 26, g 27, g 28, g 29, g 30, g 31, g 32, g 33, g 34, g 35, g 36, g 37, g 38, g 39, g 40, g 41, g 42, g 43, g 44], ⟨[(viewSh', viewD v1), (viewSh', CT.zero 24)], tk4⟩⟩ ∧ n = v1.act.length - j ∧ j ≤ v1.act.length ∧ deepL L = (gm ++ tellM v1.self m.from_ (v1.act.take j)).map (rawM .no .no) ∧ live u2 tk4) v1.act.length ⟨0, gm.map (rawM .no .no), _, t, .bool true, reg_intro rfl rfl ⟨by simp, by omega, by rw [List.take_zero, show tellM v1.self m.from_ [] = [] from rfl, List.append_nil, deep_raws], hlv⟩⟩ ?_
  rintro n st ⟨j, L, tk4, u2, c, g, rfl, hn, hj, hL, hu2⟩
  simp only [go_sem, reduceAdd, reduceSub, reduceMul, reduceLT, reduceLeDiff, ↓reduceIte, reduceCtorEq, reduceEqDiff, reduceToNat, Int.reduceLT, reduceLE, reduceEq]
  refine condK_split (fun hc => ?_) (fun hc => ?_)
  · have hj' : j < v1.act.length := by have := of_decide_eq_true hc; omega
    have htt := tell_take v1.self m.from_ v1.act j hj'
    have htl := tell_len v1.self m.from_ (v1.act.take j)
    have htl2 : (v1.act.take j).length ≤ v1.act.length := by simp; omega
    have hLl : L.length ≤ 100010 := by
      have h1 : (deepL L).length = L.length := by rw [deepL_map, List.length_map]
      rw [hL, List.length_map, List.length_append] at h1; omega
    simp only [go_sem, reduceAdd, reduceSub, reduceMul, reduceLT, reduceLeDiff, ↓reduceIte, reduceCtorEq, reduceEqDiff, reduceToNat, Int.reduceLT, reduceLE, reduceEq, hj']
    refine condK_split (fun h5 => ?_) (fun h5 => ?_)
    · have h6 : ¬ v1.act.getD j 0 = m.from_ := by simpa using h5
      rw [if_neg h6] at htt
      simp only [go_sem, reduceAdd, reduceSub, reduceMul, reduceLT, reduceLeDiff, ↓reduceIte, reduceCtorEq, reduceEqDiff, reduceToNat, Int.reduceLT, reduceLE, reduceEq, hj']
      refine .inl ⟨by kernel_rfl, ?_⟩
      try simp only [go_sem, reduceAdd, reduceSub, reduceMul, reduceLT, reduceLeDiff, ↓reduceIte, reduceCtorEq, reduceEqDiff, reduceToNat, Int.reduceLT, reduceLE, reduceEq, hj', zeros_len]
      refine appK_any _ _ _ _ _ _ _ hu2 (by decide +kernel) ?_ (fun u tk3 hlv3 => ?_)
      · simp only [List.length_map, List.length_cons, List.length_nil]
        exact Nat.le_trans (Nat.mul_le_mul (show L.length + (0 + 1) ≤ 100020 by omega) hcb) (by omega)
      simp only [go_sem, reduceAdd, reduceSub, reduceMul, reduceLT, reduceLeDiff, ↓reduceIte, reduceCtorEq, reduceEqDiff, reduceToNat, Int.reduceLT, reduceLE, reduceEq, wrapNat j (by omega)]
      refine ⟨v1.act.length - (j + 1), by omega, j + 1, _, _, u, .bool true, reg_intro rfl rfl ⟨rfl, by omega, ?_, hlv3⟩⟩
      rw [deepL_cat, hL, htt, ← List.append_assoc gm, List.map_append (l₁ := gm ++ _)]
      exact congrArg (fun z => List.map (rawM .no .no) (gm ++ tellM v1.self m.from_ (v1.act.take j)) ++ z) (deep_one .full .full ⟨8, v1.self, v1.act.getD j 0, false, m.from_, 3, []⟩)
    · have h6 : v1.act.getD j 0 = m.from_ := by simpa using h5
      rw [if_pos h6, List.append_nil] at htt
      simp only [go_sem, reduceAdd, reduceSub, reduceMul, reduceLT, reduceLeDiff, ↓reduceIte, reduceCtorEq, reduceEqDiff, reduceToNat, Int.reduceLT, reduceLE, reduceEq, wrapNat j (by omega)]
      exact ⟨v1.act.length - (j + 1), by omega, j + 1, L, tk4, u2, .bool true, reg_intro rfl rfl ⟨rfl, by omega, by rw [htt]; exact hL, hu2⟩⟩
  · have hi2 := of_decide_eq_false hc
    obtain rfl : j = v1.act.length := by omega
    rw [List.take_length] at hL
    simp only [go_sem, reduceAdd, reduceSub, reduceMul, reduceLT, reduceLeDiff, ↓reduceIte, reduceCtorEq, reduceEqDiff, reduceToNat, Int.reduceLT, reduceLE, reduceEq]
    exact ⟨_, _, rfl, hL⟩
set_option maxRecDepth 8000 in
set_option maxHeartbeats 4000000 in
theorem ref27_known (v : ViewR) (l : List Int) (d : Int) (ha : v.act.length < 100000) (hp : v.pas.length < 100000) (hl : l.length < 100000) : PSpec Tryz.prog CT 43 [viewD v, intsL l .no, .lit (.int .i64 d)] (· = viewD (knownL v l d)) := by
  refine PSpec.of hT Tryz.func43 rfl (by kernel_rfl) rfl rfl ?_
  simp only [Tryz.f43, go_sem, reduceAdd, reduceSub, reduceMul, reduceLT, reduceLeDiff, ↓reduceIte, reduceCtorEq, reduceEqDiff, reduceToNat, Int.reduceLT, reduceLE, reduceEq]
  refine awp_loop (fun n s => ∃ (j : Nat) (g : Nat → D), s = ⟨[g 0, intsL l .no, .lit (.int .i64 d), .ptr 0 [], g 4, g 5, .ptr 1 [], .lit (.int .i64 j), g 8, g 9, g 10, g 11, g 12, g 13, g 14, g 15, g 16, g 17, g 18, g 19, g 20, g 21], ⟨[(viewSh', viewD (knownL v (l.take j) d)), (viewSh', CT.zero 24)], []⟩⟩ ∧ n = l.length - j ∧ j ≤ l.length) l.length ⟨0, reg_intro rfl rfl ⟨by simp, by omega⟩⟩ ?_
  rintro n st ⟨j, g, rfl, hn, hj⟩
  simp only [go_sem, reduceAdd, reduceSub, reduceMul, reduceLT, reduceLeDiff, ↓reduceIte, reduceCtorEq, reduceEqDiff, reduceToNat, Int.reduceLT, reduceLE, reduceEq]
  refine condK_split (fun hc => ?_) (fun hc => ?_)
  · have hj' : j < l.length := by have := of_decide_eq_true hc; omega
    have hkt := knownL_take v l d j hj'
    obtain ⟨h1, h2, h3⟩ := knownL_len d (l.take j) v
    have h4 : (l.take j).length ≤ l.length := by simp; omega
    have h5 : (knownL v (l.take j) d).act.length < 1000000 := by rw [h1]; omega
    generalize knownL v (l.take j) d = x at *
    simp only [go_sem, reduceAdd, reduceSub, reduceMul, reduceLT, reduceLeDiff, ↓reduceIte, reduceCtorEq, reduceEqDiff, reduceToNat, Int.reduceLT, reduceLE, reduceEq, hj']
    refine .inl ⟨by kernel_rfl, ?_⟩
    try simp only [go_sem, reduceAdd, reduceSub, reduceMul, reduceLT, reduceLeDiff, ↓reduceIte, reduceCtorEq, reduceEqDiff, reduceToNat, Int.reduceLT, reduceLE, reduceEq, hj']
    refine callD_pure (ref25_know x (l.getD j 0) d h5 (by omega)) (by first | rfl | (simp only [go_sem]; done)) (by first | (simp only [go_sem]; done) | (simp [pureL, pureD]; done)) ?_
    simp only [go_sem, reduceAdd, reduceSub, reduceMul, reduceLT, reduceLeDiff, ↓reduceIte, reduceCtorEq, reduceEqDiff, reduceToNat, Int.reduceLT, reduceLE, reduceEq, wrapNat j (by omega)]
    exact ⟨l.length - (j + 1), by omega, j + 1, by rw [hkt]; exact reg_intro rfl rfl ⟨rfl, by omega⟩⟩
  · have hi2 := of_decide_eq_false hc
    obtain rfl : j = l.length := by omega
    rw [List.take_length]
    simp only [go_sem, reduceAdd, reduceSub, reduceMul, reduceLT, reduceLeDiff, ↓reduceIte, reduceCtorEq, reduceEqDiff, reduceToNat, Int.reduceLT, reduceLE, reduceEq]
set_option maxRecDepth 8000 in
set_option maxHeartbeats 4000000 in
theorem ref27_asked (v : ViewR) (m : MsgM) (d : Int) (ha : v.act.length < 100000) (hp : v.pas.length < 100000) : PSpec Tryz.prog CT 39 [viewD v, rawM .no .no m, .lit (.int .i64 d)] (· = .tup [viewD (neighborV v m d).1, msgsD (neighborV v m d).2]) := by
  refine PSpec.ofDeep (R := fun r _ => ∃ u L, r = .tup [viewD (neighborV v m d).1, .lst 45 L u] ∧ deepL L = (neighborV v m d).2.map (rawM .no .no)) ?_ ?_
  rotate_left
  · rintro r h' ⟨u, L, rfl, h5⟩
    have e : deep (.tup [viewD (neighborV v m d).1, .lst 45 L u]) = .tup [viewD (neighborV v m d).1, msgsD (neighborV v m d).2] := by
      simp only [deep, deepL, deep_ints, h5]
    rw [e]
    exact ⟨⟨pure_view _, trivial, trivial⟩, rfl⟩
  refine ASpec.of hT Tryz.func39 rfl (by kernel_rfl) rfl rfl ?_
  simp only [Tryz.f39, go_sem, reduceAdd, reduceSub, reduceMul, reduceLT, reduceLeDiff, ↓reduceIte, reduceCtorEq, reduceEqDiff, reduceToNat, Int.reduceLT, reduceLE, reduceEq, noHeap, zeros_len]
  have hgl := gone_len v m.from_ d
  have hcb : CT.bytes 45 ≤ 100000000 := by decide +kernel
  cases hf : m.flag with
  | true =>
    rw [neighborV, if_pos (by rw [yesV, hf]; rfl)]
    simp only [go_sem, reduceAdd, reduceSub, reduceMul, reduceLT, reduceLeDiff, ↓reduceIte, reduceCtorEq, reduceEqDiff, reduceToNat, Int.reduceLT, reduceLE, reduceEq, zeros_len, Bool.not_true]
    try simp only [go_sem, reduceAdd, reduceSub, reduceMul, reduceLT, reduceLeDiff, ↓reduceIte, reduceCtorEq, reduceEqDiff, reduceToNat, Int.reduceLT, reduceLE, reduceEq, zeros_len]
    refine callK_a (FSpec.call_made (args := [viewD v, .lit (.int .i64 m.from_), .lit (.int .i64 d)]) (ref27_have v m.from_ d (by omega) (by omega)) _ _ (by first | rfl | (simp only [go_sem]; done)) (by first | (simp only [go_sem]; done) | (simp [pureL, pureD]; done))) ?_
    rintro r h' ⟨a, u, L, t, z, rfl, rfl, hlv, rfl, rfl, rfl⟩
    try simp only [go_sem, reduceAdd, reduceSub, reduceMul, reduceLT, reduceLeDiff, ↓reduceIte, reduceCtorEq, reduceEqDiff, reduceToNat, Int.reduceLT, reduceLE, reduceEq, zeros_len]
    refine .inl ⟨by kernel_rfl, ?_⟩
    try simp only [go_sem, reduceAdd, reduceSub, reduceMul, reduceLT, reduceLeDiff, ↓reduceIte, reduceCtorEq, reduceEqDiff, reduceToNat, Int.reduceLT, reduceLE, reduceEq, zeros_len]
    refine appK_any _ _ _ _ _ _ _ hlv (by decide +kernel) ?_ (fun u tk3 hlv3 => ?_)
    · simp only [List.length_map, List.length_cons, List.length_nil]
      exact Nat.le_trans (Nat.mul_le_mul (show (goneM v m.from_ d).length + (0 + 1) ≤ 100020 by omega) hcb) (by omega)
    simp only [go_sem, reduceAdd, reduceSub, reduceMul, reduceLT, reduceLeDiff, ↓reduceIte, reduceCtorEq, reduceEqDiff, reduceToNat, Int.reduceLT, reduceLE, reduceEq]
    exact ⟨_, _, rfl, deep_made _ .full .full ⟨10, (addV v m.from_ d).1.self, m.from_, true, 0, 0, []⟩⟩
  | false =>
  simp only [go_sem, reduceAdd, reduceSub, reduceMul, reduceLT, reduceLeDiff, ↓reduceIte, reduceCtorEq, reduceEqDiff, reduceToNat, Int.reduceLT, reduceLE, reduceEq, zeros_len, Bool.not_false]
  by_cases h4 : (v.act.length : Int) < 4
  · have c4 : decide (4 ≤ (v.act.length : Int)) = false := decide_eq_false (by omega)
    rw [neighborV, if_pos (by rw [yesV, decide_eq_true h4]; simp)]
    simp only [go_sem, reduceAdd, reduceSub, reduceMul, reduceLT, reduceLeDiff, ↓reduceIte, reduceCtorEq, reduceEqDiff, reduceToNat, Int.reduceLT, reduceLE, reduceEq, zeros_len, c4]
    try simp only [go_sem, reduceAdd, reduceSub, reduceMul, reduceLT, reduceLeDiff, ↓reduceIte, reduceCtorEq, reduceEqDiff, reduceToNat, Int.reduceLT, reduceLE, reduceEq, zeros_len]
    refine callK_a (FSpec.call_made (args := [viewD v, .lit (.int .i64 m.from_), .lit (.int .i64 d)]) (ref27_have v m.from_ d (by omega) (by omega)) _ _ (by first | rfl | (simp only [go_sem]; done)) (by first | (simp only [go_sem]; done) | (simp [pureL, pureD]; done))) ?_
    rintro r h' ⟨a, u, L, t, z, rfl, rfl, hlv, rfl, rfl, rfl⟩
    try simp only [go_sem, reduceAdd, reduceSub, reduceMul, reduceLT, reduceLeDiff, ↓reduceIte, reduceCtorEq, reduceEqDiff, reduceToNat, Int.reduceLT, reduceLE, reduceEq, zeros_len]
    refine .inl ⟨by kernel_rfl, ?_⟩
    try simp only [go_sem, reduceAdd, reduceSub, reduceMul, reduceLT, reduceLeDiff, ↓reduceIte, reduceCtorEq, reduceEqDiff, reduceToNat, Int.reduceLT, reduceLE, reduceEq, zeros_len]
    refine appK_any _ _ _ _ _ _ _ hlv (by decide +kernel) ?_ (fun u tk3 hlv3 => ?_)
    · simp only [List.length_map, List.length_cons, List.length_nil]
      exact Nat.le_trans (Nat.mul_le_mul (show (goneM v m.from_ d).length + (0 + 1) ≤ 100020 by omega) hcb) (by omega)
    simp only [go_sem, reduceAdd, reduceSub, reduceMul, reduceLT, reduceLeDiff, ↓reduceIte, reduceCtorEq, reduceEqDiff, reduceToNat, Int.reduceLT, reduceLE, reduceEq]
    exact ⟨_, _, rfl, deep_made _ .full .full ⟨10, (addV v m.from_ d).1.self, m.from_, true, 0, 0, []⟩⟩
  have c4 : decide (4 ≤ (v.act.length : Int)) = true := decide_eq_true (by omega)
  simp only [go_sem, reduceAdd, reduceSub, reduceMul, reduceLT, reduceLeDiff, ↓reduceIte, reduceCtorEq, reduceEqDiff, reduceToNat, Int.reduceLT, reduceLE, reduceEq, zeros_len, c4]
  refine callK_pure (ref18_has v.act m.from_ (by omega)) (by first | rfl | (simp only [go_sem]; done)) (by first | (simp only [go_sem]; done) | (simp [pureL, pureD]; done)) ?_
  by_cases h5 : m.from_ ∈ v.act
  · have c5 : decide (m.from_ ∈ v.act) = true := decide_eq_true h5
    rw [neighborV, if_pos (by rw [yesV, c5]; simp)]
    simp only [go_sem, reduceAdd, reduceSub, reduceMul, reduceLT, reduceLeDiff, ↓reduceIte, reduceCtorEq, reduceEqDiff, reduceToNat, Int.reduceLT, reduceLE, reduceEq, zeros_len, c5, Bool.not_true]
    try simp only [go_sem, reduceAdd, reduceSub, reduceMul, reduceLT, reduceLeDiff, ↓reduceIte, reduceCtorEq, reduceEqDiff, reduceToNat, Int.reduceLT, reduceLE, reduceEq, zeros_len]
    refine callK_a (FSpec.call_made (args := [viewD v, .lit (.int .i64 m.from_), .lit (.int .i64 d)]) (ref27_have v m.from_ d (by omega) (by omega)) _ _ (by first | rfl | (simp only [go_sem]; done)) (by first | (simp only [go_sem]; done) | (simp [pureL, pureD]; done))) ?_
    rintro r h' ⟨a, u, L, t, z, rfl, rfl, hlv, rfl, rfl, rfl⟩
    try simp only [go_sem, reduceAdd, reduceSub, reduceMul, reduceLT, reduceLeDiff, ↓reduceIte, reduceCtorEq, reduceEqDiff, reduceToNat, Int.reduceLT, reduceLE, reduceEq, zeros_len]
    refine .inl ⟨by kernel_rfl, ?_⟩
    try simp only [go_sem, reduceAdd, reduceSub, reduceMul, reduceLT, reduceLeDiff, ↓reduceIte, reduceCtorEq, reduceEqDiff, reduceToNat, Int.reduceLT, reduceLE, reduceEq, zeros_len]
    refine appK_any _ _ _ _ _ _ _ hlv (by decide +kernel) ?_ (fun u tk3 hlv3 => ?_)
    · simp only [List.length_map, List.length_cons, List.length_nil]
      exact Nat.le_trans (Nat.mul_le_mul (show (goneM v m.from_ d).length + (0 + 1) ≤ 100020 by omega) hcb) (by omega)
    simp only [go_sem, reduceAdd, reduceSub, reduceMul, reduceLT, reduceLeDiff, ↓reduceIte, reduceCtorEq, reduceEqDiff, reduceToNat, Int.reduceLT, reduceLE, reduceEq]
    exact ⟨_, _, rfl, deep_made _ .full .full ⟨10, (addV v m.from_ d).1.self, m.from_, true, 0, 0, []⟩⟩
  have c5 : decide (m.from_ ∈ v.act) = false := decide_eq_false h5
  rw [neighborV, if_neg (by rw [yesV, hf, c5, decide_eq_false h4]; simp)]
  simp only [go_sem, reduceAdd, reduceSub, reduceMul, reduceLT, reduceLeDiff, ↓reduceIte, reduceCtorEq, reduceEqDiff, reduceToNat, Int.reduceLT, reduceLE, reduceEq, zeros_len, c5, Bool.not_false]
  refine .inr ?_
  apply drawN_stores (fun g => ∃ z, g = ⟨[(viewSh', viewD v), (msgSh, rawM .no .no { m with flag := false }), (viewSh', z)], []⟩) _ [0, 1, 2, 3, 4, 5, 6, 8] [7] (by kernel_rfl)
  · rintro g ⟨z, rfl⟩ Q' hQ
    simp only [go_sem, reduceAdd, reduceSub, reduceMul, reduceLT, reduceLeDiff, ↓reduceIte, reduceCtorEq, reduceEqDiff, reduceToNat, Int.reduceLT, reduceLE, reduceEq, zeros_len]
    exact hQ
  refine storesD_step (P := Tryz.prog) rfl rfl rfl ⟨_, rfl⟩ ?_
  simp only [go_sem, reduceAdd, reduceSub, reduceMul, reduceLT, reduceLeDiff, ↓reduceIte, reduceCtorEq, reduceEqDiff, reduceToNat, Int.reduceLT, reduceLE, reduceEq, zeros_len]
  refine ⟨⟨_, rfl⟩, ?_⟩
  simp only [go_sem, reduceAdd, reduceSub, reduceMul, reduceLT, reduceLeDiff, ↓reduceIte, reduceCtorEq, reduceEqDiff, reduceToNat, Int.reduceLT, reduceLE, reduceEq, zeros_len]
  exact ⟨_, _, rfl, deep_one .full .full ⟨10, v.self, m.from_, false, 0, 0, []⟩⟩
set_option maxRecDepth 8000 in
set_option maxHeartbeats 4000000 in
theorem ref27_forwarded (v : ViewR) (m : MsgM) (d : Int) (ha : v.act.length < 100000) (hp : v.pas.length < 100000) (hof : m.of_ ≤ 100000) : PSpec Tryz.prog CT 38 [viewD v, rawM .no .no m, .lit (.int .i64 d)] (· = .tup [viewD (forwardV v m d).1, msgsD (forwardV v m d).2]) := by
  refine PSpec.ofDeep (R := fun r _ => ∃ u L, r = .tup [viewD (forwardV v m d).1, .lst 45 L u] ∧ deepL L = (forwardV v m d).2.map (rawM .no .no)) ?_ ?_
  rotate_left
  · rintro r h' ⟨u, L, rfl, h5⟩
    have e : deep (.tup [viewD (forwardV v m d).1, .lst 45 L u]) = .tup [viewD (forwardV v m d).1, msgsD (forwardV v m d).2] := by
      simp only [deep, deepL, deep_ints, h5]
    rw [e]
    exact ⟨⟨pure_view _, trivial, trivial⟩, rfl⟩
  refine ASpec.of hT Tryz.func38 rfl (by kernel_rfl) rfl rfl ?_
  simp only [Tryz.f38, go_sem, reduceAdd, reduceSub, reduceMul, reduceLT, reduceLeDiff, ↓reduceIte, reduceCtorEq, reduceEqDiff, reduceToNat, Int.reduceLT, reduceLE, reduceEq, noHeap, zeros_len]
  have hcb : CT.bytes 45 ≤ 100000000 := by decide +kernel
  obtain ⟨kn1, kn2, kn3⟩ := know_len v m.n d
  have kn4 : (knowV v m.n d).act.length = v.act.length := by rw [kn1]
  rw [forwardV]
  by_cases h1 : m.n = v.self
  · have c1 : decide (m.n = v.self) = true := decide_eq_true h1
    rw [if_pos h1]
    simp only [go_sem, reduceAdd, reduceSub, reduceMul, reduceLT, reduceLeDiff, ↓reduceIte, reduceCtorEq, reduceEqDiff, reduceToNat, Int.reduceLT, reduceLE, reduceEq, zeros_len, c1]
    exact ⟨_, _, rfl, rfl⟩
  have c1 : decide (m.n = v.self) = false := decide_eq_false h1
  rw [if_neg h1]
  simp only [go_sem, reduceAdd, reduceSub, reduceMul, reduceLT, reduceLeDiff, ↓reduceIte, reduceCtorEq, reduceEqDiff, reduceToNat, Int.reduceLT, reduceLE, reduceEq, zeros_len, c1]
  by_cases h2 : 0 < m.of_
  rotate_left
  · have c2 : decide (0 < m.of_) = false := decide_eq_false h2
    have hC : fwdC v m = false := by rw [fwdC, c2, Bool.false_and]
    have hV : fwdV v m d = v := by rw [fwdV, hC]; rfl
    have hT : fwdT v m d = 0 := by rw [fwdT, hC]; rfl
    rw [hV, hT, if_neg (by simp)]
    simp only [go_sem, reduceAdd, reduceSub, reduceMul, reduceLT, reduceLeDiff, ↓reduceIte, reduceCtorEq, reduceEqDiff, reduceToNat, Int.reduceLT, reduceLE, reduceEq, zeros_len, c2]
    refine callK_pure (ref18_has v.act m.n (by omega)) (by first | rfl | (simp only [go_sem]; done)) (by first | (simp only [go_sem]; done) | (simp [pureL, pureD]; done)) ?_
    by_cases h7 : m.n ∈ v.act
    · have c7 : decide (m.n ∈ v.act) = true := decide_eq_true h7
      rw [if_pos h7]
      simp only [go_sem, reduceAdd, reduceSub, reduceMul, reduceLT, reduceLeDiff, ↓reduceIte, reduceCtorEq, reduceEqDiff, reduceToNat, Int.reduceLT, reduceLE, reduceEq, zeros_len, c7]
      exact ⟨_, _, rfl, rfl⟩
    have c7 : decide (m.n ∈ v.act) = false := decide_eq_false h7
    rw [if_neg h7]
    have hgl := gone_len v m.n d
    simp only [go_sem, reduceAdd, reduceSub, reduceMul, reduceLT, reduceLeDiff, ↓reduceIte, reduceCtorEq, reduceEqDiff, reduceToNat, Int.reduceLT, reduceLE, reduceEq, zeros_len, c7]
    try simp only [go_sem, reduceAdd, reduceSub, reduceMul, reduceLT, reduceLeDiff, ↓reduceIte, reduceCtorEq, reduceEqDiff, reduceToNat, Int.reduceLT, reduceLE, reduceEq, zeros_len]
    refine callK_a (FSpec.call_made (args := [viewD v, .lit (.int .i64 m.n), .lit (.int .i64 d)]) (ref27_have v m.n d (by omega) (by omega)) _ _ (by first | rfl | (simp only [go_sem]; done)) (by first | (simp only [go_sem]; done) | (simp [pureL, pureD]; done))) ?_
    rintro r h' ⟨a, u, L, t, z, rfl, rfl, hlv, rfl, rfl, rfl⟩
    try simp only [go_sem, reduceAdd, reduceSub, reduceMul, reduceLT, reduceLeDiff, ↓reduceIte, reduceCtorEq, reduceEqDiff, reduceToNat, Int.reduceLT, reduceLE, reduceEq, zeros_len]
    refine .inl ⟨by kernel_rfl, ?_⟩
    try simp only [go_sem, reduceAdd, reduceSub, reduceMul, reduceLT, reduceLeDiff, ↓reduceIte, reduceCtorEq, reduceEqDiff, reduceToNat, Int.reduceLT, reduceLE, reduceEq, zeros_len]
    refine appK_any _ _ _ _ _ _ _ hlv (by decide +kernel) ?_ (fun u tk3 hlv3 => ?_)
    · simp only [List.length_map, List.length_cons, List.length_nil]
      exact Nat.le_trans (Nat.mul_le_mul (show (goneM v m.n d).length + (0 + 1) ≤ 100020 by omega) hcb) (by omega)
    simp only [go_sem, reduceAdd, reduceSub, reduceMul, reduceLT, reduceLeDiff, ↓reduceIte, reduceCtorEq, reduceEqDiff, reduceToNat, Int.reduceLT, reduceLE, reduceEq]
    exact ⟨_, _, rfl, deep_made _ .full .full ⟨9, (addV v m.n d).1.self, m.n, true, 0, 0, []⟩⟩
  have c2 : decide (0 < m.of_) = true := decide_eq_true h2
  have hw : IntKind.i64.wrap (m.of_ - 1) = m.of_ - 1 := by rw [wrap64] <;> omega
  simp only [go_sem, reduceAdd, reduceSub, reduceMul, reduceLT, reduceLeDiff, ↓reduceIte, reduceCtorEq, reduceEqDiff, reduceToNat, Int.reduceLT, reduceLE, reduceEq, zeros_len, c2]
  by_cases h3 : 1 < (v.act.length : Int)
  rotate_left
  · have c3 : decide (1 < (v.act.length : Int)) = false := decide_eq_false h3
    have hC : fwdC v m = false := by rw [fwdC, c3, Bool.and_false]
    have hV : fwdV v m d = v := by rw [fwdV, hC]; rfl
    have hT : fwdT v m d = 0 := by rw [fwdT, hC]; rfl
    rw [hV, hT, if_neg (by simp)]
    simp only [go_sem, reduceAdd, reduceSub, reduceMul, reduceLT, reduceLeDiff, ↓reduceIte, reduceCtorEq, reduceEqDiff, reduceToNat, Int.reduceLT, reduceLE, reduceEq, zeros_len, c3]
    refine callK_pure (ref18_has v.act m.n (by omega)) (by first | rfl | (simp only [go_sem]; done)) (by first | (simp only [go_sem]; done) | (simp [pureL, pureD]; done)) ?_
    by_cases h7 : m.n ∈ v.act
    · have c7 : decide (m.n ∈ v.act) = true := decide_eq_true h7
      rw [if_pos h7]
      simp only [go_sem, reduceAdd, reduceSub, reduceMul, reduceLT, reduceLeDiff, ↓reduceIte, reduceCtorEq, reduceEqDiff, reduceToNat, Int.reduceLT, reduceLE, reduceEq, zeros_len, c7]
      exact ⟨_, _, rfl, rfl⟩
    have c7 : decide (m.n ∈ v.act) = false := decide_eq_false h7
    rw [if_neg h7]
    have hgl := gone_len v m.n d
    simp only [go_sem, reduceAdd, reduceSub, reduceMul, reduceLT, reduceLeDiff, ↓reduceIte, reduceCtorEq, reduceEqDiff, reduceToNat, Int.reduceLT, reduceLE, reduceEq, zeros_len, c7]
    try simp only [go_sem, reduceAdd, reduceSub, reduceMul, reduceLT, reduceLeDiff, ↓reduceIte, reduceCtorEq, reduceEqDiff, reduceToNat, Int.reduceLT, reduceLE, reduceEq, zeros_len]
    refine callK_a (FSpec.call_made (args := [viewD v, .lit (.int .i64 m.n), .lit (.int .i64 d)]) (ref27_have v m.n d (by omega) (by omega)) _ _ (by first | rfl | (simp only [go_sem]; done)) (by first | (simp only [go_sem]; done) | (simp [pureL, pureD]; done))) ?_
    rintro r h' ⟨a, u, L, t, z, rfl, rfl, hlv, rfl, rfl, rfl⟩
    try simp only [go_sem, reduceAdd, reduceSub, reduceMul, reduceLT, reduceLeDiff, ↓reduceIte, reduceCtorEq, reduceEqDiff, reduceToNat, Int.reduceLT, reduceLE, reduceEq, zeros_len]
    refine .inl ⟨by kernel_rfl, ?_⟩
    try simp only [go_sem, reduceAdd, reduceSub, reduceMul, reduceLT, reduceLeDiff, ↓reduceIte, reduceCtorEq, reduceEqDiff, reduceToNat, Int.reduceLT, reduceLE, reduceEq, zeros_len]
    refine appK_any _ _ _ _ _ _ _ hlv (by decide +kernel) ?_ (fun u tk3 hlv3 => ?_)
    · simp only [List.length_map, List.length_cons, List.length_nil]
      exact Nat.le_trans (Nat.mul_le_mul (show (goneM v m.n d).length + (0 + 1) ≤ 100020 by omega) hcb) (by omega)
    simp only [go_sem, reduceAdd, reduceSub, reduceMul, reduceLT, reduceLeDiff, ↓reduceIte, reduceCtorEq, reduceEqDiff, reduceToNat, Int.reduceLT, reduceLE, reduceEq]
    exact ⟨_, _, rfl, deep_made _ .full .full ⟨9, (addV v m.n d).1.self, m.n, true, 0, 0, []⟩⟩
  have c3 : decide (1 < (v.act.length : Int)) = true := decide_eq_true h3
  have hC : fwdC v m = true := by rw [fwdC, c2, c3]; rfl
  simp only [go_sem, reduceAdd, reduceSub, reduceMul, reduceLT, reduceLeDiff, ↓reduceIte, reduceCtorEq, reduceEqDiff, reduceToNat, Int.reduceLT, reduceLE, reduceEq, zeros_len, c3]
  by_cases h4 : m.of_ = 1
  · have c4 : decide (m.of_ = 1) = true := decide_eq_true h4
    have hV : fwdV v m d = knowV v m.n d := by rw [fwdV, hC, c4]; rfl
    have hT : fwdT v m d = pickI (knowV v m.n d).act [m.from_, m.n] d := by rw [fwdT, hC, hV]; rfl
    rw [hV, hT]
    simp only [go_sem, reduceAdd, reduceSub, reduceMul, reduceLT, reduceLeDiff, ↓reduceIte, reduceCtorEq, reduceEqDiff, reduceToNat, Int.reduceLT, reduceLE, reduceEq, zeros_len, c4]
    refine callK_pure (ref25_know v m.n d (by omega) (by omega)) (by first | rfl | (simp only [go_sem]; done)) (by first | (simp only [go_sem]; done) | (simp [pureL, pureD]; done)) ?_
    generalize knowV v m.n d = x at *
    simp only [go_sem, reduceAdd, reduceSub, reduceMul, reduceLT, reduceLeDiff, ↓reduceIte, reduceCtorEq, reduceEqDiff, reduceToNat, Int.reduceLT, reduceLE, reduceEq, zeros_len]
    refine callK_pure (args' := [intsL x.act .no, intsL [m.from_, m.n] .no, .lit (.int .i64 d)]) (ref25_pick x.act [m.from_, m.n] d (by omega) (by simp)) (by first | rfl | (simp only [go_sem]; done)) (by first | (simp only [go_sem]; done) | (simp [pureL, pureD]; done)) ?_
    by_cases h6 : pickI x.act [m.from_, m.n] d = 0
    · rw [if_neg (by simpa using h6)]
      simp only [go_sem, reduceAdd, reduceSub, reduceMul, reduceLT, reduceLeDiff, ↓reduceIte, reduceCtorEq, reduceEqDiff, reduceToNat, Int.reduceLT, reduceLE, reduceEq, zeros_len, h6, decide_true, Bool.not_true]
      refine callK_pure (ref18_has x.act m.n (by omega)) (by first | rfl | (simp only [go_sem]; done)) (by first | (simp only [go_sem]; done) | (simp [pureL, pureD]; done)) ?_
      by_cases h7 : m.n ∈ x.act
      · have c7 : decide (m.n ∈ x.act) = true := decide_eq_true h7
        rw [if_pos h7]
        simp only [go_sem, reduceAdd, reduceSub, reduceMul, reduceLT, reduceLeDiff, ↓reduceIte, reduceCtorEq, reduceEqDiff, reduceToNat, Int.reduceLT, reduceLE, reduceEq, zeros_len, c7]
        exact ⟨_, _, rfl, rfl⟩
      have c7 : decide (m.n ∈ x.act) = false := decide_eq_false h7
      rw [if_neg h7]
      have hgl := gone_len x m.n d
      simp only [go_sem, reduceAdd, reduceSub, reduceMul, reduceLT, reduceLeDiff, ↓reduceIte, reduceCtorEq, reduceEqDiff, reduceToNat, Int.reduceLT, reduceLE, reduceEq, zeros_len, c7]
      try simp only [go_sem, reduceAdd, reduceSub, reduceMul, reduceLT, reduceLeDiff, ↓reduceIte, reduceCtorEq, reduceEqDiff, reduceToNat, Int.reduceLT, reduceLE, reduceEq, zeros_len]
      refine callK_a (FSpec.call_made (args := [viewD x, .lit (.int .i64 m.n), .lit (.int .i64 d)]) (ref27_have x m.n d (by omega) (by omega)) _ _ (by first | rfl | (simp only [go_sem]; done)) (by first | (simp only [go_sem]; done) | (simp [pureL, pureD]; done))) ?_
      rintro r h' ⟨a, u, L, t, z, rfl, rfl, hlv, rfl, rfl, rfl⟩
      try simp only [go_sem, reduceAdd, reduceSub, reduceMul, reduceLT, reduceLeDiff, ↓reduceIte, reduceCtorEq, reduceEqDiff, reduceToNat, Int.reduceLT, reduceLE, reduceEq, zeros_len]
      refine .inl ⟨by kernel_rfl, ?_⟩
      try simp only [go_sem, reduceAdd, reduceSub, reduceMul, reduceLT, reduceLeDiff, ↓reduceIte, reduceCtorEq, reduceEqDiff, reduceToNat, Int.reduceLT, reduceLE, reduceEq, zeros_len]
      refine appK_any _ _ _ _ _ _ _ hlv (by decide +kernel) ?_ (fun u tk3 hlv3 => ?_)
      · simp only [List.length_map, List.length_cons, List.length_nil]
        exact Nat.le_trans (Nat.mul_le_mul (show (goneM x m.n d).length + (0 + 1) ≤ 100020 by omega) hcb) (by omega)
      simp only [go_sem, reduceAdd, reduceSub, reduceMul, reduceLT, reduceLeDiff, ↓reduceIte, reduceCtorEq, reduceEqDiff, reduceToNat, Int.reduceLT, reduceLE, reduceEq]
      exact ⟨_, _, rfl, deep_made _ .full .full ⟨9, (addV x m.n d).1.self, m.n, true, 0, 0, []⟩⟩
    have c6 : decide (pickI x.act [m.from_, m.n] d = 0) = false := decide_eq_false h6
    rw [if_pos (by simpa using h6)]
    simp only [go_sem, reduceAdd, reduceSub, reduceMul, reduceLT, reduceLeDiff, ↓reduceIte, reduceCtorEq, reduceEqDiff, reduceToNat, Int.reduceLT, reduceLE, reduceEq, zeros_len, c6, Bool.not_false]
    refine .inr ?_
    apply drawN_stores (fun g => ∃ z, g = ⟨[(viewSh', viewD x), (msgSh, rawM .no .no m), (viewSh', z)], []⟩) _ [0, 1, 2, 3, 4, 5, 6, 7, 8, 9, 10, 12] [11] (by kernel_rfl)
    · rintro g ⟨z, rfl⟩ Q' hQ
      simp only [go_sem, reduceAdd, reduceSub, reduceMul, reduceLT, reduceLeDiff, ↓reduceIte, reduceCtorEq, reduceEqDiff, reduceToNat, Int.reduceLT, reduceLE, reduceEq, zeros_len, hw]
      exact hQ
    refine storesD_step (P := Tryz.prog) rfl rfl rfl ⟨_, rfl⟩ ?_
    simp only [go_sem, reduceAdd, reduceSub, reduceMul, reduceLT, reduceLeDiff, ↓reduceIte, reduceCtorEq, reduceEqDiff, reduceToNat, Int.reduceLT, reduceLE, reduceEq, zeros_len, hw]
    refine ⟨⟨_, rfl⟩, ?_⟩
    simp only [go_sem, reduceAdd, reduceSub, reduceMul, reduceLT, reduceLeDiff, ↓reduceIte, reduceCtorEq, reduceEqDiff, reduceToNat, Int.reduceLT, reduceLE, reduceEq, zeros_len, hw]
    exact ⟨_, _, rfl, deep_one .full .full ⟨8, x.self, pickI x.act [m.from_, m.n] d, false, m.n, m.of_ - 1, []⟩⟩
  have c4 : decide (m.of_ = 1) = false := decide_eq_false h4
  have hV : fwdV v m d = v := by rw [fwdV, hC, c4]; rfl
  have hT : fwdT v m d = pickI v.act [m.from_, m.n] d := by rw [fwdT, hC, hV]; rfl
  rw [hV, hT]
  simp only [go_sem, reduceAdd, reduceSub, reduceMul, reduceLT, reduceLeDiff, ↓reduceIte, reduceCtorEq, reduceEqDiff, reduceToNat, Int.reduceLT, reduceLE, reduceEq, zeros_len, c4]
  refine callK_pure (args' := [intsL v.act .no, intsL [m.from_, m.n] .no, .lit (.int .i64 d)]) (ref25_pick v.act [m.from_, m.n] d (by omega) (by simp)) (by first | rfl | (simp only [go_sem]; done)) (by first | (simp only [go_sem]; done) | (simp [pureL, pureD]; done)) ?_
  by_cases h6 : pickI v.act [m.from_, m.n] d = 0
  · rw [if_neg (by simpa using h6)]
    simp only [go_sem, reduceAdd, reduceSub, reduceMul, reduceLT, reduceLeDiff, ↓reduceIte, reduceCtorEq, reduceEqDiff, reduceToNat, Int.reduceLT, reduceLE, reduceEq, zeros_len, h6, decide_true, Bool.not_true]
    refine callK_pure (ref18_has v.act m.n (by omega)) (by first | rfl | (simp only [go_sem]; done)) (by first | (simp only [go_sem]; done) | (simp [pureL, pureD]; done)) ?_
    by_cases h7 : m.n ∈ v.act
    · have c7 : decide (m.n ∈ v.act) = true := decide_eq_true h7
      rw [if_pos h7]
      simp only [go_sem, reduceAdd, reduceSub, reduceMul, reduceLT, reduceLeDiff, ↓reduceIte, reduceCtorEq, reduceEqDiff, reduceToNat, Int.reduceLT, reduceLE, reduceEq, zeros_len, c7]
      exact ⟨_, _, rfl, rfl⟩
    have c7 : decide (m.n ∈ v.act) = false := decide_eq_false h7
    rw [if_neg h7]
    have hgl := gone_len v m.n d
    simp only [go_sem, reduceAdd, reduceSub, reduceMul, reduceLT, reduceLeDiff, ↓reduceIte, reduceCtorEq, reduceEqDiff, reduceToNat, Int.reduceLT, reduceLE, reduceEq, zeros_len, c7]
    try simp only [go_sem, reduceAdd, reduceSub, reduceMul, reduceLT, reduceLeDiff, ↓reduceIte, reduceCtorEq, reduceEqDiff, reduceToNat, Int.reduceLT, reduceLE, reduceEq, zeros_len]
    refine callK_a (FSpec.call_made (args := [viewD v, .lit (.int .i64 m.n), .lit (.int .i64 d)]) (ref27_have v m.n d (by omega) (by omega)) _ _ (by first | rfl | (simp only [go_sem]; done)) (by first | (simp only [go_sem]; done) | (simp [pureL, pureD]; done))) ?_
    rintro r h' ⟨a, u, L, t, z, rfl, rfl, hlv, rfl, rfl, rfl⟩
    try simp only [go_sem, reduceAdd, reduceSub, reduceMul, reduceLT, reduceLeDiff, ↓reduceIte, reduceCtorEq, reduceEqDiff, reduceToNat, Int.reduceLT, reduceLE, reduceEq, zeros_len]
    refine .inl ⟨by kernel_rfl, ?_⟩
    try simp only [go_sem, reduceAdd, reduceSub, reduceMul, reduceLT, reduceLeDiff, ↓reduceIte, reduceCtorEq, reduceEqDiff, reduceToNat, Int.reduceLT, reduceLE, reduceEq, zeros_len]
    refine appK_any _ _ _ _ _ _ _ hlv (by decide +kernel) ?_ (fun u tk3 hlv3 => ?_)
    · simp only [List.length_map, List.length_cons, List.length_nil]
      exact Nat.le_trans (Nat.mul_le_mul (show (goneM v m.n d).length + (0 + 1) ≤ 100020 by omega) hcb) (by omega)
    simp only [go_sem, reduceAdd, reduceSub, reduceMul, reduceLT, reduceLeDiff, ↓reduceIte, reduceCtorEq, reduceEqDiff, reduceToNat, Int.reduceLT, reduceLE, reduceEq]
    exact ⟨_, _, rfl, deep_made _ .full .full ⟨9, (addV v m.n d).1.self, m.n, true, 0, 0, []⟩⟩
  have c6 : decide (pickI v.act [m.from_, m.n] d = 0) = false := decide_eq_false h6
  rw [if_pos (by simpa using h6)]
  simp only [go_sem, reduceAdd, reduceSub, reduceMul, reduceLT, reduceLeDiff, ↓reduceIte, reduceCtorEq, reduceEqDiff, reduceToNat, Int.reduceLT, reduceLE, reduceEq, zeros_len, c6, Bool.not_false]
  refine .inr ?_
  apply drawN_stores (fun g => ∃ z, g = ⟨[(viewSh', viewD v), (msgSh, rawM .no .no m), (viewSh', z)], []⟩) _ [0, 1, 2, 3, 4, 5, 6, 7, 8, 9, 10, 12] [11] (by kernel_rfl)
  · rintro g ⟨z, rfl⟩ Q' hQ
    simp only [go_sem, reduceAdd, reduceSub, reduceMul, reduceLT, reduceLeDiff, ↓reduceIte, reduceCtorEq, reduceEqDiff, reduceToNat, Int.reduceLT, reduceLE, reduceEq, zeros_len, hw]
    exact hQ
  refine storesD_step (P := Tryz.prog) rfl rfl rfl ⟨_, rfl⟩ ?_
  simp only [go_sem, reduceAdd, reduceSub, reduceMul, reduceLT, reduceLeDiff, ↓reduceIte, reduceCtorEq, reduceEqDiff, reduceToNat, Int.reduceLT, reduceLE, reduceEq, zeros_len, hw]
  refine ⟨⟨_, rfl⟩, ?_⟩
  simp only [go_sem, reduceAdd, reduceSub, reduceMul, reduceLT, reduceLeDiff, ↓reduceIte, reduceCtorEq, reduceEqDiff, reduceToNat, Int.reduceLT, reduceLE, reduceEq, zeros_len, hw]
  exact ⟨_, _, rfl, deep_one .full .full ⟨8, v.self, pickI v.act [m.from_, m.n] d, false, m.n, m.of_ - 1, []⟩⟩
set_option maxRecDepth 8000 in
set_option maxHeartbeats 4000000 in
theorem ref27_shuffled (v : ViewR) (m : MsgM) (d : Int) (ha : v.act.length < 100000) (hp : v.pas.length < 100000) (hof : m.of_ ≤ 100000) (hpl : m.peers.length < 100000) : PSpec Tryz.prog CT 42 [viewD v, rawM .no .no m, .lit (.int .i64 d)] (· = .tup [viewD (shuffleV v m d).1, msgsD (shuffleV v m d).2]) := by
  refine PSpec.ofDeep (R := fun r _ => ∃ u L, r = .tup [viewD (shuffleV v m d).1, .lst 45 L u] ∧ deepL L = (shuffleV v m d).2.map (rawM .no .no)) ?_ ?_
  rotate_left
  · rintro r h' ⟨u, L, rfl, h5⟩
    have e : deep (.tup [viewD (shuffleV v m d).1, .lst 45 L u]) = .tup [viewD (shuffleV v m d).1, msgsD (shuffleV v m d).2] := by
      simp only [deep, deepL, deep_ints, h5]
    rw [e]
    exact ⟨⟨pure_view _, trivial, trivial⟩, rfl⟩
  refine ASpec.of hT Tryz.func42 rfl (by kernel_rfl) rfl rfl ?_
  simp only [Tryz.f42, go_sem, reduceAdd, reduceSub, reduceMul, reduceLT, reduceLeDiff, ↓reduceIte, reduceCtorEq, reduceEqDiff, reduceToNat, Int.reduceLT, reduceLE, reduceEq, noHeap, zeros_len]
  rw [shuffleV]
  by_cases h2 : 0 < m.of_
  rotate_left
  · have c2 : decide (0 < m.of_) = false := decide_eq_false h2
    have hT : shufT v m d = 0 := by rw [shufT, if_neg h2]
    rw [hT, if_neg (by simp)]
    simp only [go_sem, reduceAdd, reduceSub, reduceMul, reduceLT, reduceLeDiff, ↓reduceIte, reduceCtorEq, reduceEqDiff, reduceToNat, Int.reduceLT, reduceLE, reduceEq, zeros_len, c2]
    try simp only [go_sem, reduceAdd, reduceSub, reduceMul, reduceLT, reduceLeDiff, ↓reduceIte, reduceCtorEq, reduceEqDiff, reduceToNat, Int.reduceLT, reduceLE, reduceEq, zeros_len]
    refine callK_pure (ref25_sample v d (by omega) (by omega)) (by first | rfl | (simp only [go_sem]; done)) (by first | (simp only [go_sem]; done) | (simp [pureL, pureD]; done)) ?_
    simp only [go_sem, reduceAdd, reduceSub, reduceMul, reduceLT, reduceLeDiff, ↓reduceIte, reduceCtorEq, reduceEqDiff, reduceToNat, Int.reduceLT, reduceLE, reduceEq, zeros_len]
    refine callK_pure (ref27_known v m.peers d ha hp hpl) (by first | rfl | (simp only [go_sem]; done)) (by first | (simp only [go_sem]; done) | (simp [pureL, pureD]; done)) ?_
    generalize knownL v m.peers d = x at *
    simp only [go_sem, reduceAdd, reduceSub, reduceMul, reduceLT, reduceLeDiff, ↓reduceIte, reduceCtorEq, reduceEqDiff, reduceToNat, Int.reduceLT, reduceLE, reduceEq, zeros_len]
    by_cases h7 : m.n = x.self
    · have c7 : decide (m.n = x.self) = true := decide_eq_true h7
      rw [if_pos h7]
      simp only [go_sem, reduceAdd, reduceSub, reduceMul, reduceLT, reduceLeDiff, ↓reduceIte, reduceCtorEq, reduceEqDiff, reduceToNat, Int.reduceLT, reduceLE, reduceEq, zeros_len, c7]
      exact ⟨_, _, rfl, rfl⟩
    have c7 : decide (m.n = x.self) = false := decide_eq_false h7
    rw [if_neg h7]
    simp only [go_sem, reduceAdd, reduceSub, reduceMul, reduceLT, reduceLeDiff, ↓reduceIte, reduceCtorEq, reduceEqDiff, reduceToNat, Int.reduceLT, reduceLE, reduceEq, zeros_len, c7]
    refine .inr ?_
    apply drawN_stores (fun g => ∃ z, g = ⟨[(viewSh', viewD x), (msgSh, rawM .no .no m), (viewSh', z)], []⟩) _ [0, 1, 2, 3, 4, 5, 6, 7, 9] [8] (by kernel_rfl)
    · rintro g ⟨z, rfl⟩ Q' hQ
      simp only [go_sem, reduceAdd, reduceSub, reduceMul, reduceLT, reduceLeDiff, ↓reduceIte, reduceCtorEq, reduceEqDiff, reduceToNat, Int.reduceLT, reduceLE, reduceEq, zeros_len]
      exact hQ
    refine storesD_step (P := Tryz.prog) rfl rfl rfl ⟨_, rfl⟩ ?_
    simp only [go_sem, reduceAdd, reduceSub, reduceMul, reduceLT, reduceLeDiff, ↓reduceIte, reduceCtorEq, reduceEqDiff, reduceToNat, Int.reduceLT, reduceLE, reduceEq, zeros_len]
    refine ⟨⟨_, rfl⟩, ?_⟩
    simp only [go_sem, reduceAdd, reduceSub, reduceMul, reduceLT, reduceLeDiff, ↓reduceIte, reduceCtorEq, reduceEqDiff, reduceToNat, Int.reduceLT, reduceLE, reduceEq, zeros_len]
    exact ⟨_, _, rfl, deep_one .full .no ⟨13, x.self, m.n, false, 0, 0, sampleV v d⟩⟩
  have c2 : decide (0 < m.of_) = true := decide_eq_true h2
  have hT : shufT v m d = pickI v.act [m.from_, m.n] d := by rw [shufT, if_pos h2]
  have hw : IntKind.i64.wrap (m.of_ - 1) = m.of_ - 1 := by rw [wrap64] <;> omega
  rw [hT]
  simp only [go_sem, reduceAdd, reduceSub, reduceMul, reduceLT, reduceLeDiff, ↓reduceIte, reduceCtorEq, reduceEqDiff, reduceToNat, Int.reduceLT, reduceLE, reduceEq, zeros_len, c2]
  refine callK_pure (args' := [intsL v.act .no, intsL [m.from_, m.n] .no, .lit (.int .i64 d)]) (ref25_pick v.act [m.from_, m.n] d (by omega) (by simp)) (by first | rfl | (simp only [go_sem]; done)) (by first | (simp only [go_sem]; done) | (simp [pureL, pureD]; done)) ?_
  by_cases h6 : pickI v.act [m.from_, m.n] d = 0
  · rw [if_neg (by simpa using h6)]
    simp only [go_sem, reduceAdd, reduceSub, reduceMul, reduceLT, reduceLeDiff, ↓reduceIte, reduceCtorEq, reduceEqDiff, reduceToNat, Int.reduceLT, reduceLE, reduceEq, zeros_len, h6, decide_true, Bool.not_true]
    try simp only [go_sem, reduceAdd, reduceSub, reduceMul, reduceLT, reduceLeDiff, ↓reduceIte, reduceCtorEq, reduceEqDiff, reduceToNat, Int.reduceLT, reduceLE, reduceEq, zeros_len]
    refine callK_pure (ref25_sample v d (by omega) (by omega)) (by first | rfl | (simp only [go_sem]; done)) (by first | (simp only [go_sem]; done) | (simp [pureL, pureD]; done)) ?_
    simp only [go_sem, reduceAdd, reduceSub, reduceMul, reduceLT, reduceLeDiff, ↓reduceIte, reduceCtorEq, reduceEqDiff, reduceToNat, Int.reduceLT, reduceLE, reduceEq, zeros_len]
    refine callK_pure (ref27_known v m.peers d ha hp hpl) (by first | rfl | (simp only [go_sem]; done)) (by first | (simp only [go_sem]; done) | (simp [pureL, pureD]; done)) ?_
    generalize knownL v m.peers d = x at *
    simp only [go_sem, reduceAdd, reduceSub, reduceMul, reduceLT, reduceLeDiff, ↓reduceIte, reduceCtorEq, reduceEqDiff, reduceToNat, Int.reduceLT, reduceLE, reduceEq, zeros_len]
    by_cases h7 : m.n = x.self
    · have c7 : decide (m.n = x.self) = true := decide_eq_true h7
      rw [if_pos h7]
      simp only [go_sem, reduceAdd, reduceSub, reduceMul, reduceLT, reduceLeDiff, ↓reduceIte, reduceCtorEq, reduceEqDiff, reduceToNat, Int.reduceLT, reduceLE, reduceEq, zeros_len, c7]
      exact ⟨_, _, rfl, rfl⟩
    have c7 : decide (m.n = x.self) = false := decide_eq_false h7
    rw [if_neg h7]
    simp only [go_sem, reduceAdd, reduceSub, reduceMul, reduceLT, reduceLeDiff, ↓reduceIte, reduceCtorEq, reduceEqDiff, reduceToNat, Int.reduceLT, reduceLE, reduceEq, zeros_len, c7]
    refine .inr ?_
    apply drawN_stores (fun g => ∃ z, g = ⟨[(viewSh', viewD x), (msgSh, rawM .no .no m), (viewSh', z)], []⟩) _ [0, 1, 2, 3, 4, 5, 6, 7, 9] [8] (by kernel_rfl)
    · rintro g ⟨z, rfl⟩ Q' hQ
      simp only [go_sem, reduceAdd, reduceSub, reduceMul, reduceLT, reduceLeDiff, ↓reduceIte, reduceCtorEq, reduceEqDiff, reduceToNat, Int.reduceLT, reduceLE, reduceEq, zeros_len]
      exact hQ
    refine storesD_step (P := Tryz.prog) rfl rfl rfl ⟨_, rfl⟩ ?_
    simp only [go_sem, reduceAdd, reduceSub, reduceMul, reduceLT, reduceLeDiff, ↓reduceIte, reduceCtorEq, reduceEqDiff, reduceToNat, Int.reduceLT, reduceLE, reduceEq, zeros_len]
    refine ⟨⟨_, rfl⟩, ?_⟩
    simp only [go_sem, reduceAdd, reduceSub, reduceMul, reduceLT, reduceLeDiff, ↓reduceIte, reduceCtorEq, reduceEqDiff, reduceToNat, Int.reduceLT, reduceLE, reduceEq, zeros_len]
    exact ⟨_, _, rfl, deep_one .full .no ⟨13, x.self, m.n, false, 0, 0, sampleV v d⟩⟩
  have c6 : decide (pickI v.act [m.from_, m.n] d = 0) = false := decide_eq_false h6
  rw [if_pos (by simpa using h6)]
  simp only [go_sem, reduceAdd, reduceSub, reduceMul, reduceLT, reduceLeDiff, ↓reduceIte, reduceCtorEq, reduceEqDiff, reduceToNat, Int.reduceLT, reduceLE, reduceEq, zeros_len, c6, Bool.not_false]
  refine .inr ?_
  apply drawN_stores (fun g => ∃ z, g = ⟨[(viewSh', viewD v), (msgSh, rawM .no .no m), (viewSh', z)], []⟩) _ [0, 1, 2, 3, 4, 5, 6, 7, 8, 9, 10, 11, 12, 14] [13] (by kernel_rfl)
  · rintro g ⟨z, rfl⟩ Q' hQ
    simp only [go_sem, reduceAdd, reduceSub, reduceMul, reduceLT, reduceLeDiff, ↓reduceIte, reduceCtorEq, reduceEqDiff, reduceToNat, Int.reduceLT, reduceLE, reduceEq, zeros_len, hw]
    exact hQ
  refine storesD_step (P := Tryz.prog) rfl rfl rfl ⟨_, rfl⟩ ?_
  simp only [go_sem, reduceAdd, reduceSub, reduceMul, reduceLT, reduceLeDiff, ↓reduceIte, reduceCtorEq, reduceEqDiff, reduceToNat, Int.reduceLT, reduceLE, reduceEq, zeros_len, hw]
  refine ⟨⟨_, rfl⟩, ?_⟩
  simp only [go_sem, reduceAdd, reduceSub, reduceMul, reduceLT, reduceLeDiff, ↓reduceIte, reduceCtorEq, reduceEqDiff, reduceToNat, Int.reduceLT, reduceLE, reduceEq, zeros_len, hw]
  exact ⟨_, _, rfl, deep_one .full .no ⟨12, v.self, pickI v.act [m.from_, m.n] d, false, m.n, m.of_ - 1, m.peers⟩⟩
end Go.Ab
set_option linter.unusedSimpArgs false
namespace Go.Ab
open Go.Proofs

set_option maxRecDepth 8000 in
set_option maxHeartbeats 4000000 in
theorem ref27_takeM (v : ViewR) (m : MsgM) (d : Int) (hk : 7 ≤ m.kind ∧ m.kind ≤ 13) (hok : okG (gOf m) = true) (hpl : m.peers.length ≤ 40) (ha : v.act.length < 100000) (hp : v.pas.length < 100000) :
    PSpec Tryz.prog CT 14 [viewD v, rawM .no .no m, .lit (.int .i64 d)] (· = .tup [viewD (takeV v (gOf m) d).1, msgsD (takeV v (gOf m) d).2]) := by
  have hwk : WOk m := ⟨hok, hk, hpl⟩
  have hof : m.of_ ≤ 16 := by have := used_of hok; rw [usedM_gOf hok] at this; exact this
  refine PSpec.of hT Tryz.func14 rfl (by kernel_rfl) rfl rfl ?_
  simp only [Tryz.f14, go_sem, reduceAdd, reduceSub, reduceMul, reduceLT, reduceLeDiff, ↓reduceIte, reduceCtorEq, reduceEqDiff, reduceToNat, Int.reduceLT, reduceLE, reduceEq, zeros_len]
  refine callK_pure (ref25_check v (by omega) (by omega)) (by first | rfl | (simp only [go_sem]; done)) (by first | (simp only [go_sem]; done) | (simp [pureL, pureD]; done)) ?_
  cases h1 : checkV v with
  | false =>
    have e : takeV v (gOf m) d = (v, []) := by rw [takeV, h1]; rfl
    rw [e]
    simp only [go_sem, reduceAdd, reduceSub, reduceMul, reduceLT, reduceLeDiff, ↓reduceIte, reduceCtorEq, reduceEqDiff, reduceToNat, Int.reduceLT, reduceLE, reduceEq, Bool.not_false]
    rfl
  | true =>
  simp only [go_sem, reduceAdd, reduceSub, reduceMul, reduceLT, reduceLeDiff, ↓reduceIte, reduceCtorEq, reduceEqDiff, reduceToNat, Int.reduceLT, reduceLE, reduceEq, Bool.not_true, zeros_len]
  refine callK_pure (args' := [rawM .no .no m]) (check_way hwk) (by first | rfl | (simp only [go_sem, zeros_len]; done)) (by first | (simp only [go_sem, zeros_len]; done) | (simp [pureL, pureD]; done)) ?_
  by_cases h3 : m.to = v.self
  rotate_left
  · have c3 : decide (m.to = v.self) = false := decide_eq_false h3
    have e : takeV v (gOf m) d = (v, []) := by
      rw [takeV, if_neg]
      intro h
      simp only [Bool.and_eq_true, decide_eq_true_eq] at h
      exact h3 h.2.1.2
    rw [e]
    simp only [go_sem, reduceAdd, reduceSub, reduceMul, reduceLT, reduceLeDiff, ↓reduceIte, reduceCtorEq, reduceEqDiff, reduceToNat, Int.reduceLT, reduceLE, reduceEq, Bool.not_true, zeros_len, c3, Bool.not_false]
    rfl
  have c3 : decide (m.to = v.self) = true := decide_eq_true h3
  have hkg : kindG (gOf m) = true := by
    show (decide (7 ≤ m.kind) && decide (m.kind ≤ 13)) = true
    rw [decide_eq_true hk.1, decide_eq_true hk.2]; rfl
  have e : takeV v (gOf m) d = stepOf v m d := by
    rw [takeV, if_pos, usedM_gOf hok]
    rw [h1, hkg, hok, show decide ((gOf m).to = v.self) = true from c3]; rfl
  rw [e]
  simp only [go_sem, reduceAdd, reduceSub, reduceMul, reduceLT, reduceLeDiff, ↓reduceIte, reduceCtorEq, reduceEqDiff, reduceToNat, Int.reduceLT, reduceLE, reduceEq, Bool.not_true, zeros_len, c3, Bool.not_false]
  have hk' : m.kind = 7 ∨ m.kind = 8 ∨ m.kind = 9 ∨ m.kind = 10 ∨ m.kind = 11 ∨ m.kind = 12 ∨ m.kind = 13 := by omega
  rcases hk' with h | h | h | h | h | h | h
  · rw [show stepOf v m d = joinV v m d from by simp [stepOf, h]]
    simp only [go_sem, reduceAdd, reduceSub, reduceMul, reduceLT, reduceLeDiff, ↓reduceIte, reduceCtorEq, reduceEqDiff, reduceToNat, Int.reduceLT, reduceLE, reduceEq, zeros_len, h, Int.reduceEq, decide_true, decide_false]
    refine callK_pure (ref27_joined v m d ha hp) (by first | rfl | (simp only [go_sem]; done)) (by first | (simp only [go_sem]; done) | (simp [pureL, pureD]; done)) ?_
    simp only [go_sem, reduceAdd, reduceSub, reduceMul, reduceLT, reduceLeDiff, ↓reduceIte, reduceCtorEq, reduceEqDiff, reduceToNat, Int.reduceLT, reduceLE, reduceEq]
  · rw [show stepOf v m d = forwardV v m d from by simp [stepOf, h]]
    simp only [go_sem, reduceAdd, reduceSub, reduceMul, reduceLT, reduceLeDiff, ↓reduceIte, reduceCtorEq, reduceEqDiff, reduceToNat, Int.reduceLT, reduceLE, reduceEq, zeros_len, h, Int.reduceEq, decide_true, decide_false]
    refine callK_pure (args' := [viewD v, rawM .no .no m, .lit (.int .i64 d)]) (ref27_forwarded v m d ha hp (by omega)) (by rw [← h]; simp only [go_sem, reduceAdd, reduceSub, reduceMul, reduceLT, reduceLeDiff, ↓reduceIte, reduceCtorEq, reduceEqDiff, reduceToNat, Int.reduceLT, reduceLE, reduceEq, zeros_len]) (by simp only [go_sem, reduceAdd, reduceSub, reduceMul, reduceLT, reduceLeDiff, ↓reduceIte, reduceCtorEq, reduceEqDiff, reduceToNat, Int.reduceLT, reduceLE, reduceEq, zeros_len]) ?_
    simp only [go_sem, reduceAdd, reduceSub, reduceMul, reduceLT, reduceLeDiff, ↓reduceIte, reduceCtorEq, reduceEqDiff, reduceToNat, Int.reduceLT, reduceLE, reduceEq]
  · rw [show stepOf v m d = neighborV v m d from by simp [stepOf, h]]
    simp only [go_sem, reduceAdd, reduceSub, reduceMul, reduceLT, reduceLeDiff, ↓reduceIte, reduceCtorEq, reduceEqDiff, reduceToNat, Int.reduceLT, reduceLE, reduceEq, zeros_len, h, Int.reduceEq, decide_true, decide_false]
    refine callK_pure (args' := [viewD v, rawM .no .no m, .lit (.int .i64 d)]) (ref27_asked v m d ha hp) (by rw [← h]; simp only [go_sem, reduceAdd, reduceSub, reduceMul, reduceLT, reduceLeDiff, ↓reduceIte, reduceCtorEq, reduceEqDiff, reduceToNat, Int.reduceLT, reduceLE, reduceEq, zeros_len]) (by simp only [go_sem, reduceAdd, reduceSub, reduceMul, reduceLT, reduceLeDiff, ↓reduceIte, reduceCtorEq, reduceEqDiff, reduceToNat, Int.reduceLT, reduceLE, reduceEq, zeros_len]) ?_
    simp only [go_sem, reduceAdd, reduceSub, reduceMul, reduceLT, reduceLeDiff, ↓reduceIte, reduceCtorEq, reduceEqDiff, reduceToNat, Int.reduceLT, reduceLE, reduceEq]
  · rw [show stepOf v m d = replyV v m d from by simp [stepOf, h], replyV]
    simp only [go_sem, reduceAdd, reduceSub, reduceMul, reduceLT, reduceLeDiff, ↓reduceIte, reduceCtorEq, reduceEqDiff, reduceToNat, Int.reduceLT, reduceLE, reduceEq, zeros_len, h, Int.reduceEq, decide_true, decide_false]
    cases hf : m.flag with
    | true =>
      simp only [go_sem, reduceAdd, reduceSub, reduceMul, reduceLT, reduceLeDiff, ↓reduceIte, reduceCtorEq, reduceEqDiff, reduceToNat, Int.reduceLT, reduceLE, reduceEq, if_true]
      refine callK_a (FSpec.call_made (args := [viewD v, .lit (.int .i64 m.from_), .lit (.int .i64 d)]) (ref27_have v m.from_ d (by omega) (by omega)) _ _ (by first | rfl | (simp only [go_sem]; done)) (by first | (simp only [go_sem]; done) | (simp [pureL, pureD]; done))) ?_
      rintro r h' ⟨a, u, L, t, z, rfl, rfl, hlv, rfl, rfl, rfl⟩
      simp only [go_sem, reduceAdd, reduceSub, reduceMul, reduceLT, reduceLeDiff, ↓reduceIte, reduceCtorEq, reduceEqDiff, reduceToNat, Int.reduceLT, reduceLE, reduceEq]
    | false =>
      simp only [go_sem, reduceAdd, reduceSub, reduceMul, reduceLT, reduceLeDiff, ↓reduceIte, reduceCtorEq, reduceEqDiff, reduceToNat, Int.reduceLT, reduceLE, reduceEq, Bool.false_eq_true, if_false]
      rfl
  · rw [show stepOf v m d = leaveV v m d from by simp [stepOf, h], leaveV]
    simp only [go_sem, reduceAdd, reduceSub, reduceMul, reduceLT, reduceLeDiff, ↓reduceIte, reduceCtorEq, reduceEqDiff, reduceToNat, Int.reduceLT, reduceLE, reduceEq, zeros_len, h, Int.reduceEq, decide_true, decide_false]
    refine callK_pure (ref25_cool v m.from_ d (by omega) (by omega)) (by first | rfl | (simp only [go_sem]; done)) (by first | (simp only [go_sem]; done) | (simp [pureL, pureD]; done)) ?_
    simp only [go_sem, reduceAdd, reduceSub, reduceMul, reduceLT, reduceLeDiff, ↓reduceIte, reduceCtorEq, reduceEqDiff, reduceToNat, Int.reduceLT, reduceLE, reduceEq]
    rfl
  · rw [show stepOf v m d = shuffleV v m d from by simp [stepOf, h]]
    simp only [go_sem, reduceAdd, reduceSub, reduceMul, reduceLT, reduceLeDiff, ↓reduceIte, reduceCtorEq, reduceEqDiff, reduceToNat, Int.reduceLT, reduceLE, reduceEq, zeros_len, h, Int.reduceEq, decide_true, decide_false]
    refine callK_pure (args' := [viewD v, rawM .no .no m, .lit (.int .i64 d)]) (ref27_shuffled v m d ha hp (by omega) (by omega)) (by rw [← h]; simp only [go_sem, reduceAdd, reduceSub, reduceMul, reduceLT, reduceLeDiff, ↓reduceIte, reduceCtorEq, reduceEqDiff, reduceToNat, Int.reduceLT, reduceLE, reduceEq, zeros_len]) (by simp only [go_sem, reduceAdd, reduceSub, reduceMul, reduceLT, reduceLeDiff, ↓reduceIte, reduceCtorEq, reduceEqDiff, reduceToNat, Int.reduceLT, reduceLE, reduceEq, zeros_len]) ?_
    simp only [go_sem, reduceAdd, reduceSub, reduceMul, reduceLT, reduceLeDiff, ↓reduceIte, reduceCtorEq, reduceEqDiff, reduceToNat, Int.reduceLT, reduceLE, reduceEq]
  · rw [show stepOf v m d = backV v m d from by simp [stepOf, h], backV]
    simp only [go_sem, reduceAdd, reduceSub, reduceMul, reduceLT, reduceLeDiff, ↓reduceIte, reduceCtorEq, reduceEqDiff, reduceToNat, Int.reduceLT, reduceLE, reduceEq, zeros_len, h, Int.reduceEq, decide_true, decide_false]
    refine callK_pure (ref27_known v m.peers d ha hp (by omega)) (by first | rfl | (simp only [go_sem]; done)) (by first | (simp only [go_sem]; done) | (simp [pureL, pureD]; done)) ?_
    simp only [go_sem, reduceAdd, reduceSub, reduceMul, reduceLT, reduceLeDiff, ↓reduceIte, reduceCtorEq, reduceEqDiff, reduceToNat, Int.reduceLT, reduceLE, reduceEq]
    rfl
set_option maxRecDepth 8000 in
set_option maxHeartbeats 4000000 in
theorem ref27_take (v : ViewR) (y : GMsg) (d : Int) (hg : GOk y) (hpl : y.peers.length ≤ 40) (hol : y.tx.ops.length ≤ 40) (ha : v.act.length < 100000) (hp : v.pas.length < 100000) :
    PSpec Tryz.prog CT 14 [viewD v, rawG y, .lit (.int .i64 d)] (· = .tup [viewD (takeV v y d).1, msgsD (takeV v y d).2]) := by
  obtain ⟨d1, d2, d3, _⟩ := id hg
  by_cases hko : (kindG y && okG y) = true
  · simp only [Bool.and_eq_true] at hko
    obtain ⟨hk, ho⟩ := hko
    simp only [kindG, Bool.and_eq_true, decide_eq_true_eq] at hk
    have hy := gOf_used ho
    have := ref27_takeM v (usedM y) d hk (by rw [← hy]; exact ho) (by have := used_len y; omega) ha hp
    rw [← hy, ← raw_used ho] at this
    exact this
  have e : takeV v y d = (v, []) := by
    rw [takeV, if_neg]
    intro h
    simp only [Bool.and_eq_true] at h hko
    exact hko ⟨h.2.1.1, h.2.2⟩
  rw [e]
  refine PSpec.of hT Tryz.func14 rfl (by kernel_rfl) rfl rfl ?_
  simp only [Tryz.f14, go_sem, reduceAdd, reduceSub, reduceMul, reduceLT, reduceLeDiff, ↓reduceIte, reduceCtorEq, reduceEqDiff, reduceToNat, Int.reduceLT, reduceLE, reduceEq, zeros_len, d1, d2, d3, sh_tree, nrm_tree, true_and]
  refine callK_pure (ref25_check v (by omega) (by omega)) (by first | rfl | (simp only [go_sem]; done)) (by first | (simp only [go_sem]; done) | (simp [pureL, pureD]; done)) ?_
  cases h1 : checkV v with
  | false =>
    simp only [go_sem, reduceAdd, reduceSub, reduceMul, reduceLT, reduceLeDiff, ↓reduceIte, reduceCtorEq, reduceEqDiff, reduceToNat, Int.reduceLT, reduceLE, reduceEq, Bool.not_false]
    rfl
  | true =>
  simp only [go_sem, reduceAdd, reduceSub, reduceMul, reduceLT, reduceLeDiff, ↓reduceIte, reduceCtorEq, reduceEqDiff, reduceToNat, Int.reduceLT, reduceLE, reduceEq, Bool.not_true, zeros_len, d1, d2, d3, sh_tree, nrm_tree, true_and]
  cases hk : kindG y with
  | true =>
    have h2 : okG y = false := by rw [hk, Bool.true_and] at hko; simpa using hko
    simp only [kindG, Bool.and_eq_true, decide_eq_true_eq] at hk
    refine callK_pure (ref26_checkG y hg (by omega) hk.1 hk.2) (congrArg (fun z => [z]) (erase_rawG y)) (pure_rawG y) ?_
    simp only [go_sem, reduceAdd, reduceSub, reduceMul, reduceLT, reduceLeDiff, ↓reduceIte, reduceCtorEq, reduceEqDiff, reduceToNat, Int.reduceLT, reduceLE, reduceEq, h2, Bool.not_false]
    rfl
  | false =>
    have hk2 : ¬ (7 ≤ y.kind ∧ y.kind ≤ 13) := by
      rintro ⟨g1, g2⟩
      rw [kindG, decide_eq_true g1, decide_eq_true g2] at hk
      cases hk
    refine callK_rel (ref26_checkO y hg (by omega) hk2) (congrArg (fun z => [z]) (erase_rawG y)) (pure_rawG y) ?_
    rintro r ⟨b, rfl⟩
    cases b with
    | false =>
      simp only [go_sem, reduceAdd, reduceSub, reduceMul, reduceLT, reduceLeDiff, ↓reduceIte, reduceCtorEq, reduceEqDiff, reduceToNat, Int.reduceLT, reduceLE, reduceEq, Bool.not_false]
      rfl
    | true =>
    simp only [go_sem, reduceAdd, reduceSub, reduceMul, reduceLT, reduceLeDiff, ↓reduceIte, reduceCtorEq, reduceEqDiff, reduceToNat, Int.reduceLT, reduceLE, reduceEq, Bool.not_true, zeros_len, d1, d2, d3, sh_tree, nrm_tree, true_and]
    have k7 : decide (y.kind = 7) = false := decide_eq_false (by omega)
    have k8 : decide (y.kind = 8) = false := decide_eq_false (by omega)
    have k9 : decide (y.kind = 9) = false := decide_eq_false (by omega)
    have k10 : decide (y.kind = 10) = false := decide_eq_false (by omega)
    have k11 : decide (y.kind = 11) = false := decide_eq_false (by omega)
    have k12 : decide (y.kind = 12) = false := decide_eq_false (by omega)
    have k13 : decide (y.kind = 13) = false := decide_eq_false (by omega)
    refine condK_split (fun c => ?_) (fun c => ?_)
    · simp only [go_sem, reduceAdd, reduceSub, reduceMul, reduceLT, reduceLeDiff, ↓reduceIte, reduceCtorEq, reduceEqDiff, reduceToNat, Int.reduceLT, reduceLE, reduceEq]
      rfl
    · simp only [go_sem, reduceAdd, reduceSub, reduceMul, reduceLT, reduceLeDiff, ↓reduceIte, reduceCtorEq, reduceEqDiff, reduceToNat, Int.reduceLT, reduceLE, reduceEq, zeros_len, d1, d2, d3, sh_tree, nrm_tree, true_and, k7, k8, k9, k10, k11, k12, k13]
      rfl
end Go.Ab
set_option linter.unusedSimpArgs false
namespace Go.Ab
open Go.Proofs

def FineV (r : ViewR × List MsgM) : Prop := r.1.act.length ≤ 40 ∧ r.1.pas.length ≤ 40 ∧ r.2.length ≤ 6 ∧ ∀ m ∈ r.2, m.peers.length ≤ 40
theorem fine_good {r : ViewR × List MsgM} (h : GoodV r) : FineV r :=
  ⟨by have := h.1.la; omega, by have := h.1.lp; omega, h.2.1, fun m hm => (h.2.2 m hm).2.2.2⟩
theorem fine_nil {v : ViewR} (ha : v.act.length ≤ 40) (hp : v.pas.length ≤ 40) : FineV (v, []) := ⟨ha, hp, by simp, by simp⟩
set_option maxRecDepth 8000 in
set_option maxHeartbeats 4000000 in
theorem law_ovtells (v : ViewR) (y : GMsg) (p d : Int) (hg : GOk y) : PSpec Tryz.prog CT 4 [viewD v, rawG y, .lit (.int .i64 p), .lit (.int .i64 d)] (· = .bool true) := by
  obtain ⟨d1, d2, d3, _⟩ := id hg
  refine ASpec.of hT Tryz.func4 rfl (by kernel_rfl) rfl rfl ?_
  simp only [Tryz.f4, go_sem, reduceAdd, reduceSub, reduceMul, reduceLT, reduceLeDiff, ↓reduceIte, reduceCtorEq, reduceEqDiff, reduceToNat, Int.reduceLT, reduceLE, reduceEq, noHeap, zeros_len, d1, d2, d3, sh_tree, nrm_tree, true_and]
  refine callK_pure (ref25_few v) (by first | rfl | (simp only [go_sem]; done)) (by first | (simp only [go_sem]; done) | (simp [pureL, pureD]; done)) ?_
  cases h1 : (decide (v.act.length ≤ 40) && decide (v.pas.length ≤ 40)) with
  | false =>
    simp only [go_sem, reduceAdd, reduceSub, reduceMul, reduceLT, reduceLeDiff, ↓reduceIte, reduceCtorEq, reduceEqDiff, reduceToNat, Int.reduceLT, reduceLE, reduceEq, Bool.not_false]
    refine callK_pure (heads27) (by simp only [go_sem, h1]) (by simp only [go_sem, h1]) ?_; simp only [go_sem, reduceAdd, reduceSub, reduceMul, reduceLT, reduceLeDiff, ↓reduceIte, reduceCtorEq, reduceEqDiff, reduceToNat, Int.reduceLT, reduceLE, reduceEq, h1]
  | true =>
  simp only [Bool.and_eq_true, decide_eq_true_eq] at h1
  simp only [go_sem, reduceAdd, reduceSub, reduceMul, reduceLT, reduceLeDiff, ↓reduceIte, reduceCtorEq, reduceEqDiff, reduceToNat, Int.reduceLT, reduceLE, reduceEq, Bool.not_true, zeros_len, d1, d2, d3, sh_tree, nrm_tree, true_and]
  refine callK_rel (args' := [rawG y]) (ref26_few y hg) (congrArg (fun z => [z]) (erase_rawG y)) (pure_rawG y) ?_
  rintro r ⟨b, rfl, hb⟩
  cases b with
  | false =>
    simp only [go_sem, reduceAdd, reduceSub, reduceMul, reduceLT, reduceLeDiff, ↓reduceIte, reduceCtorEq, reduceEqDiff, reduceToNat, Int.reduceLT, reduceLE, reduceEq, Bool.not_false]
    refine callK_pure (heads27) (by simp only [go_sem, h1]) (by simp only [go_sem, h1]) ?_; simp only [go_sem, reduceAdd, reduceSub, reduceMul, reduceLT, reduceLeDiff, ↓reduceIte, reduceCtorEq, reduceEqDiff, reduceToNat, Int.reduceLT, reduceLE, reduceEq, h1]
  | true =>
  obtain ⟨f1, _, f3⟩ := hb rfl
  have n1 : FineV (takeV v y d) := by
    cases h : checkV v with
    | true => exact fine_good (take_good d ((checkV_iff v).1 h) f3)
    | false => rw [show takeV v y d = (v, []) from by rw [takeV, h]; rfl]; exact fine_nil h1.1 h1.2
  have n2 : FineV (meetV v p d) := by
    cases h : checkV v with
    | true => exact fine_good (meet_good p d ((checkV_iff v).1 h))
    | false => rw [show meetV v p d = (v, []) from by rw [meetV, h]; rfl]; exact fine_nil h1.1 h1.2
  have n3 : FineV (tickV v d) := by
    cases h : checkV v with
    | true => exact fine_good (tick_good d ((checkV_iff v).1 h))
    | false => rw [show tickV v d = (v, []) from by rw [tickV, h]; rfl]; exact fine_nil h1.1 h1.2
  have n4 : FineV (failV v p d) := by
    cases h : checkV v with
    | true => exact fine_good (fail_good p d ((checkV_iff v).1 h))
    | false => rw [show failV v p d = (v, []) from by rw [failV, h]; rfl]; exact fine_nil h1.1 h1.2
  have ⟨a1, a2, a3, _⟩ := n1
  have ⟨b1, b2, b3, _⟩ := n2
  have ⟨c1, c2, c3, _⟩ := n3
  have ⟨e1, e2, e3, _⟩ := n4
  simp only [go_sem, reduceAdd, reduceSub, reduceMul, reduceLT, reduceLeDiff, ↓reduceIte, reduceCtorEq, reduceEqDiff, reduceToNat, Int.reduceLT, reduceLE, reduceEq, Bool.not_true, zeros_len, d1, d2, d3, sh_tree, nrm_tree, true_and]
  refine callK_pure (args' := [viewD v, rawG y, .lit (.int .i64 d)]) (overlay_takeG v y d hg (by omega) (by omega) (by omega)) (congrArg (fun z => [viewD v, z, D.lit (.int .i64 d)]) (erase_rawG y)) ⟨pure_view v, (pure_rawG y).1, trivial, trivial⟩ ?_
  simp only [go_sem, reduceAdd, reduceSub, reduceMul, reduceLT, reduceLeDiff, ↓reduceIte, reduceCtorEq, reduceEqDiff, reduceToNat, Int.reduceLT, reduceLE, reduceEq, zeros_len, d1, d2, d3, sh_tree, nrm_tree, true_and]
  refine callK_pure (args' := [viewD v, rawG y, .lit (.int .i64 d)]) (ref27_take v y d hg f3 f1 (by omega) (by omega)) (congrArg (fun z => [viewD v, z, D.lit (.int .i64 d)]) (erase_rawG y)) ⟨pure_view v, (pure_rawG y).1, trivial, trivial⟩ ?_
  simp only [go_sem, reduceAdd, reduceSub, reduceMul, reduceLT, reduceLeDiff, ↓reduceIte, reduceCtorEq, reduceEqDiff, reduceToNat, Int.reduceLT, reduceLE, reduceEq, zeros_len, d1, d2, d3, sh_tree, nrm_tree, true_and]
  refine callK_pure (ref25_same (takeV v y d).1 (takeV v y d).1 (by omega) (by omega)) (by first | rfl | (simp only [go_sem]; done)) (by first | (simp only [go_sem]; done) | (simp [pureL, pureD]; done)) ?_
  rw [sameVw_refl]
  simp only [go_sem, reduceAdd, reduceSub, reduceMul, reduceLT, reduceLeDiff, ↓reduceIte, reduceCtorEq, reduceEqDiff, reduceToNat, Int.reduceLT, reduceLE, reduceEq, Bool.not_true, zeros_len, d1, d2, d3, sh_tree, nrm_tree, true_and]
  refine callK_pure (ref26_rows (takeV v y d).2 (by omega) (fun m hm => by have := n1.2.2.2 m hm; omega)) (by first | rfl | (simp only [go_sem]; done)) (by first | (simp only [go_sem]; done) | (simp [pureL, pureD]; done)) ?_
  simp only [go_sem, reduceAdd, reduceSub, reduceMul, reduceLT, reduceLeDiff, ↓reduceIte, reduceCtorEq, reduceEqDiff, reduceToNat, Int.reduceLT, reduceLE, reduceEq, Bool.not_true, zeros_len, d1, d2, d3, sh_tree, nrm_tree, true_and]
  refine callK_pure (overlay_meet v p d (by omega) (by omega)) (by first | rfl | (simp only [go_sem]; done)) (by first | (simp only [go_sem]; done) | (simp [pureL, pureD]; done)) ?_
  simp only [go_sem, reduceAdd, reduceSub, reduceMul, reduceLT, reduceLeDiff, ↓reduceIte, reduceCtorEq, reduceEqDiff, reduceToNat, Int.reduceLT, reduceLE, reduceEq, zeros_len, d1, d2, d3, sh_tree, nrm_tree, true_and]
  refine callK_pure (ref27_meet v p d (by omega) (by omega)) (by first | rfl | (simp only [go_sem]; done)) (by first | (simp only [go_sem]; done) | (simp [pureL, pureD]; done)) ?_
  simp only [go_sem, reduceAdd, reduceSub, reduceMul, reduceLT, reduceLeDiff, ↓reduceIte, reduceCtorEq, reduceEqDiff, reduceToNat, Int.reduceLT, reduceLE, reduceEq, zeros_len, d1, d2, d3, sh_tree, nrm_tree, true_and]
  refine callK_pure (ref25_same (meetV v p d).1 (meetV v p d).1 (by omega) (by omega)) (by first | rfl | (simp only [go_sem]; done)) (by first | (simp only [go_sem]; done) | (simp [pureL, pureD]; done)) ?_
  rw [sameVw_refl]
  simp only [go_sem, reduceAdd, reduceSub, reduceMul, reduceLT, reduceLeDiff, ↓reduceIte, reduceCtorEq, reduceEqDiff, reduceToNat, Int.reduceLT, reduceLE, reduceEq, Bool.not_true, zeros_len, d1, d2, d3, sh_tree, nrm_tree, true_and]
  refine callK_pure (ref26_rows (meetV v p d).2 (by omega) (fun m hm => by have := n2.2.2.2 m hm; omega)) (by first | rfl | (simp only [go_sem]; done)) (by first | (simp only [go_sem]; done) | (simp [pureL, pureD]; done)) ?_
  simp only [go_sem, reduceAdd, reduceSub, reduceMul, reduceLT, reduceLeDiff, ↓reduceIte, reduceCtorEq, reduceEqDiff, reduceToNat, Int.reduceLT, reduceLE, reduceEq, Bool.not_true, zeros_len, d1, d2, d3, sh_tree, nrm_tree, true_and]
  refine callK_pure (overlay_tick v d (by omega) (by omega)) (by first | rfl | (simp only [go_sem]; done)) (by first | (simp only [go_sem]; done) | (simp [pureL, pureD]; done)) ?_
  simp only [go_sem, reduceAdd, reduceSub, reduceMul, reduceLT, reduceLeDiff, ↓reduceIte, reduceCtorEq, reduceEqDiff, reduceToNat, Int.reduceLT, reduceLE, reduceEq, zeros_len, d1, d2, d3, sh_tree, nrm_tree, true_and]
  refine callK_pure (ref27_tick v d (by omega) (by omega)) (by first | rfl | (simp only [go_sem]; done)) (by first | (simp only [go_sem]; done) | (simp [pureL, pureD]; done)) ?_
  simp only [go_sem, reduceAdd, reduceSub, reduceMul, reduceLT, reduceLeDiff, ↓reduceIte, reduceCtorEq, reduceEqDiff, reduceToNat, Int.reduceLT, reduceLE, reduceEq, zeros_len, d1, d2, d3, sh_tree, nrm_tree, true_and]
  refine callK_pure (ref25_same (tickV v d).1 (tickV v d).1 (by omega) (by omega)) (by first | rfl | (simp only [go_sem]; done)) (by first | (simp only [go_sem]; done) | (simp [pureL, pureD]; done)) ?_
  rw [sameVw_refl]
  simp only [go_sem, reduceAdd, reduceSub, reduceMul, reduceLT, reduceLeDiff, ↓reduceIte, reduceCtorEq, reduceEqDiff, reduceToNat, Int.reduceLT, reduceLE, reduceEq, Bool.not_true, zeros_len, d1, d2, d3, sh_tree, nrm_tree, true_and]
  refine callK_pure (ref26_rows (tickV v d).2 (by omega) (fun m hm => by have := n3.2.2.2 m hm; omega)) (by first | rfl | (simp only [go_sem]; done)) (by first | (simp only [go_sem]; done) | (simp [pureL, pureD]; done)) ?_
  simp only [go_sem, reduceAdd, reduceSub, reduceMul, reduceLT, reduceLeDiff, ↓reduceIte, reduceCtorEq, reduceEqDiff, reduceToNat, Int.reduceLT, reduceLE, reduceEq, Bool.not_true, zeros_len, d1, d2, d3, sh_tree, nrm_tree, true_and]
  refine callK_pure (overlay_fail v p d (by omega) (by omega)) (by first | rfl | (simp only [go_sem]; done)) (by first | (simp only [go_sem]; done) | (simp [pureL, pureD]; done)) ?_
  simp only [go_sem, reduceAdd, reduceSub, reduceMul, reduceLT, reduceLeDiff, ↓reduceIte, reduceCtorEq, reduceEqDiff, reduceToNat, Int.reduceLT, reduceLE, reduceEq, zeros_len, d1, d2, d3, sh_tree, nrm_tree, true_and]
  refine callK_pure (ref27_fail v p d (by omega) (by omega)) (by first | rfl | (simp only [go_sem]; done)) (by first | (simp only [go_sem]; done) | (simp [pureL, pureD]; done)) ?_
  simp only [go_sem, reduceAdd, reduceSub, reduceMul, reduceLT, reduceLeDiff, ↓reduceIte, reduceCtorEq, reduceEqDiff, reduceToNat, Int.reduceLT, reduceLE, reduceEq, zeros_len, d1, d2, d3, sh_tree, nrm_tree, true_and]
  refine callK_pure (ref25_same (failV v p d).1 (failV v p d).1 (by omega) (by omega)) (by first | rfl | (simp only [go_sem]; done)) (by first | (simp only [go_sem]; done) | (simp [pureL, pureD]; done)) ?_
  rw [sameVw_refl]
  simp only [go_sem, reduceAdd, reduceSub, reduceMul, reduceLT, reduceLeDiff, ↓reduceIte, reduceCtorEq, reduceEqDiff, reduceToNat, Int.reduceLT, reduceLE, reduceEq, Bool.not_true, zeros_len, d1, d2, d3, sh_tree, nrm_tree, true_and]
  refine callK_pure (ref26_rows (failV v p d).2 (by omega) (fun m hm => by have := n4.2.2.2 m hm; omega)) (by first | rfl | (simp only [go_sem]; done)) (by first | (simp only [go_sem]; done) | (simp [pureL, pureD]; done)) ?_
  simp only [go_sem, reduceAdd, reduceSub, reduceMul, reduceLT, reduceLeDiff, ↓reduceIte, reduceCtorEq, reduceEqDiff, reduceToNat, Int.reduceLT, reduceLE, reduceEq, Bool.not_true, zeros_len, d1, d2, d3, sh_tree, nrm_tree, true_and]
  refine callK_pure heads27 (by first | rfl | (simp only [go_sem]; done)) (by first | (simp only [go_sem]; done) | (simp [pureL, pureD]; done)) ?_
  simp only [go_sem, reduceAdd, reduceSub, reduceMul, reduceLT, reduceLeDiff, ↓reduceIte, reduceCtorEq, reduceEqDiff, reduceToNat, Int.reduceLT, reduceLE, reduceEq]
end Go.Ab
