/- Who is whose neighbour: a message of any kind is taken. Conditions: none. -/
import Derived.Test.YtjafmlbcjhoflaaGreatOvT
import Derived.Test.YtjafmlbcjhoflaaGreatOvU
import Derived.Test.YtjafmlbcjhoflaaGreatOvL
open Nat (reduceAdd reduceSub reduceMul reduceLT reduceLeDiff reduceEqDiff)
open Int (reduceToNat reduceLE reduceEq)
set_option linter.unusedSimpArgs false
namespace Go.Ab
open Go.Proofs

def stepOf (v : ViewR) (m : MsgM) (d : Int) : ViewR × List MsgM :=
  if m.kind = 7 then joinV v m d else if m.kind = 8 then forwardV v m d else if m.kind = 9 then neighborV v m d else if m.kind = 10 then replyV v m d else if m.kind = 11 then leaveV v m d else if m.kind = 12 then shuffleV v m d else if m.kind = 13 then backV v m d else (v, [])
def kindG (y : GMsg) : Bool := decide (7 ≤ y.kind) && decide (y.kind ≤ 13)
def takeV (v : ViewR) (y : GMsg) (d : Int) : ViewR × List MsgM := if (checkV v && (kindG y && decide (y.to = v.self) && okG y)) = true then stepOf v (usedM y) d else (v, [])
theorem gOf_alike {m : MsgM} {y : GMsg} (h : alikeB m y = true) : y = gOf m := by
  obtain ⟨kind, from_, to, tx, vec, row, flag, num, wn, of_, data, id, ev, peers⟩ := y
  obtain ⟨peer, seq, deps, time, ops⟩ := tx
  obtain ⟨a, b⟩ := id
  obtain ⟨c, e⟩ := ev
  obtain ⟨k2, f2, t2, fl2, n2, o2, p2⟩ := m
  simp only [alikeB, tB, vB, nB, sB, bareT, TreeM.num, TreeM.kids, Bool.and_eq_true, decide_eq_true_eq, List.isEmpty_iff, beq_iff_eq] at h
  obtain ⟨⟨⟨⟨⟨⟨⟨⟨⟨rfl, rfl⟩, rfl⟩, rfl⟩, rfl⟩, ⟨rfl, rfl⟩, rfl⟩, ⟨⟨⟨⟨rfl, rfl⟩, rfl⟩, rfl⟩, rfl⟩, rfl⟩, ⟨s1, rfl⟩, s2, rfl⟩, rfl⟩, rfl⟩ := h
  obtain rfl := of_decide_eq_true s1
  obtain rfl := of_decide_eq_true s2
  rfl
theorem gOf_used {y : GMsg} (h : okG y = true) : y = gOf (usedM y) := by
  simp only [okG, Bool.and_eq_true] at h
  exact gOf_alike h.2
theorem raw_used {y : GMsg} (h : okG y = true) : rawG y = rawM .no .no (usedM y) := (congrArg rawG (gOf_used h)).trans (raw_gOf _)
theorem used_of {y : GMsg} (h : okG y = true) : (usedM y).of_ ≤ 16 := by
  show (if y.kind = 8 ∨ y.kind = 12 then y.of_ else 0) ≤ 16
  split
  · rename_i hk
    simp only [okG, okF, if_pos hk, walksB, Bool.and_eq_true, decide_eq_true_eq] at h
    exact h.1.2.1.2
  · omega
/-- What a kind's function does. -/
theorem step_fn (v : ViewR) (y : GMsg) (d : Int) (hy : okG y = true) (hk : kindG y = true) (hp : y.peers.length < 100000) (ha : v.act.length < 100000) (hpv : v.pas.length < 100000) :
    ∃ f, getA takesG y.kind = some f ∧ ∀ (bs : List (Sh × D)) (tk : List Bool) (b : Nat), bs[b]? = some (walkSh, walkD v d [] .full) →
      ASpec Tryz.prog CT f [.ptr b [], rawG y] ⟨bs, tk⟩ fun _ h' => StepR d b bs tk [] (stepOf v (usedM y) d).1 (stepOf v (usedM y) d).2 h' := by
  rw [raw_used hy]
  have hof := used_of hy
  have hpl : (usedM y).peers.length < 100000 := by have := used_len y; omega
  have hk' : y.kind = 7 ∨ y.kind = 8 ∨ y.kind = 9 ∨ y.kind = 10 ∨ y.kind = 11 ∨ y.kind = 12 ∨ y.kind = 13 := by
    simp only [kindG, Bool.and_eq_true, decide_eq_true_eq] at hk; omega
  have hm : (usedM y).kind = y.kind := rfl
  generalize usedM y = m at *
  rcases hk' with h | h | h | h | h | h | h <;> rw [h] at hm ⊢
  · refine ⟨_, rfl, fun bs tk b hb => ?_⟩
    rw [show stepOf v m d = joinV v m d from by simp [stepOf, hm]]
    have hs := walk_join v d [] .full m bs tk [] b hb ⟨trivial, trivial⟩ (by simp) ha hpv
    rw [List.append_nil] at hs; exact hs
  · refine ⟨_, rfl, fun bs tk b hb => ?_⟩
    rw [show stepOf v m d = forwardV v m d from by simp [stepOf, hm]]
    have hs := walk_forward v d [] .full bs tk [] b hb ⟨trivial, trivial⟩ (by simp) ha hpv m (by omega)
    rw [List.append_nil] at hs; exact hs
  · refine ⟨_, rfl, fun bs tk b hb => ?_⟩
    rw [show stepOf v m d = neighborV v m d from by simp [stepOf, hm]]
    have hs := walk_neighbor v d [] .full bs tk [] b hb ⟨trivial, trivial⟩ (by simp) ha hpv m
    rw [List.append_nil] at hs; exact hs
  · refine ⟨_, rfl, fun bs tk b hb => ?_⟩
    rw [show stepOf v m d = replyV v m d from by simp [stepOf, hm]]
    have hs := walk_reply v d [] .full bs tk [] b hb ⟨trivial, trivial⟩ (by simp) ha hpv m
    rw [List.append_nil] at hs; exact hs
  · refine ⟨_, rfl, fun bs tk b hb => ?_⟩
    rw [show stepOf v m d = leaveV v m d from by simp [stepOf, hm]]
    have hs := walk_leave v d [] .full bs tk [] b hb ⟨trivial, trivial⟩ (by simp) ha hpv m
    rw [List.append_nil] at hs; exact hs
  · refine ⟨_, rfl, fun bs tk b hb => ?_⟩
    rw [show stepOf v m d = shuffleV v m d from by simp [stepOf, hm]]
    have hs := walk_shuffle v d [] .full bs tk [] b hb ⟨trivial, trivial⟩ (by simp) ha hpv m (by omega) hpl
    rw [List.append_nil] at hs; exact hs
  · refine ⟨_, rfl, fun bs tk b hb => ?_⟩
    rw [show stepOf v m d = backV v m d from by simp [stepOf, hm]]
    have hs := walk_back v d [] .full bs tk [] b hb ⟨trivial, trivial⟩ (by simp) ha hpv m hpl
    rw [List.append_nil] at hs
    refine hs.mono fun r h' h => ?_
    obtain ⟨bs', rfl, q1, q2⟩ := h
    have := step_none (L := []) (tk := tk) (tk2 := []) q1 ⟨trivial, trivial⟩ q2
    rw [List.append_nil] at this
    exact this
theorem kind_fn (y : GMsg) (hk : kindG y = true) : ∃ f, getA takesG y.kind = some f := by
  have hk' : y.kind = 7 ∨ y.kind = 8 ∨ y.kind = 9 ∨ y.kind = 10 ∨ y.kind = 11 ∨ y.kind = 12 ∨ y.kind = 13 := by
    simp only [kindG, Bool.and_eq_true, decide_eq_true_eq] at hk; omega
  rcases hk' with h | h | h | h | h | h | h <;> rw [h] <;> exact ⟨_, rfl⟩
theorem kind_no (y : GMsg) (hk : kindG y = false) : getA takesG y.kind = none := by
  have hk' : ¬ y.kind = 7 ∧ ¬ y.kind = 8 ∧ ¬ y.kind = 9 ∧ ¬ y.kind = 10 ∧ ¬ y.kind = 11 ∧ ¬ y.kind = 12 ∧ ¬ y.kind = 13 := by
    simp only [kindG, Bool.and_eq_false_iff, decide_eq_false_iff_not] at hk; omega
  obtain ⟨a, b, c, e, f, g, h⟩ := hk'
  simp [takesG, getA, Ne.symm a, Ne.symm b, Ne.symm c, Ne.symm e, Ne.symm f, Ne.symm g, Ne.symm h]
set_option maxRecDepth 8000 in
set_option maxHeartbeats 4000000 in
theorem take1G (v : ViewR) (y : GMsg) (d : Int) (hg : GOk y) (hpp : y.peers.length < 100000) (hck : checkV v = true) (ha : v.act.length < 100000) (hp : v.pas.length < 100000) (bs : List (Sh × D)) (tk : List Bool) (b c : Nat) (hb : bs[b]? = some (walkSh, walkD v d [] .full)) (hc : bs[c]? = some (msgSh, rawG y)) :
    ASpec Tryz.prog CT 32 [.ptr b [], .ptr c []] ⟨bs, tk⟩ fun _ h' => StepR d b bs tk [] (takeV v y d).1 (takeV v y d).2 h' := by
  have hbl := (List.getElem?_eq_some_iff.1 hb).1
  have hcl := (List.getElem?_eq_some_iff.1 hc).1
  have g1 : ∀ y, (bs ++ [y])[b]? = some (walkSh, walkD v d [] .full) := fun y => by rw [List.getElem?_append_left hbl]; exact hb
  have gc : ∀ z, (bs ++ [z])[c]? = some (msgSh, rawG y) := fun z => by rw [List.getElem?_append_left hcl]; exact hc
  have g2 : ∀ y, (bs ++ [y])[bs.length]? = some y := fun y => by simp
  obtain ⟨d1, d2, d3, _⟩ := id hg
  have fin : (kindG y && decide (y.to = v.self) && okG y) = false → StepR d b bs tk [] (takeV v y d).1 (takeV v y d).2 ⟨bs ++ [(.obj 1, mapG numK fnK takesG 7)], tk⟩ := fun h => by
    have e : takeV v y d = (v, []) := by rw [takeV, h, Bool.and_false]; rfl
    rw [e]
    have := step_none (tk := tk) (tk2 := []) (g1 (.obj 1, mapG numK fnK takesG 7)) ⟨trivial, trivial⟩ (fr_more b bs _)
    rw [List.append_nil] at this
    exact this
  refine ASpec.of hT Tryz.func32 rfl (by kernel_rfl) rfl rfl ?_
  simp only [Tryz.f32, go_sem, reduceAdd, reduceSub, reduceMul, reduceLT, reduceLeDiff, ↓reduceIte, reduceCtorEq, reduceEqDiff, reduceToNat, Int.reduceLT, reduceLE, reduceEq, nil_ptrO, hb, hc]
  refine .inr (drawN_callsP [1, 2] [0] [3, 4, 5, 6, 7, 8] (by kernel_rfl) ?_)
  simp only [go_sem, reduceAdd, reduceSub, reduceMul, reduceLT, reduceLeDiff, ↓reduceIte, reduceCtorEq, reduceEqDiff, reduceToNat, Int.reduceLT, reduceLE, reduceEq, nil_ptrO, hb, hc]
  refine callsD_call (args' := []) rfl (by simp only [go_sem, reduceAdd, reduceSub, reduceMul, reduceLT, reduceLeDiff, ↓reduceIte, reduceCtorEq, reduceEqDiff, reduceToNat, Int.reduceLT, reduceLE, reduceEq]) (takes_spec bs tk) ?_
  rintro r h' ⟨rfl, rfl⟩
  refine ⟨Hle.of rfl, ?_⟩
  show aopsD _ _ _ _ _ _
  simp only [go_sem, reduceAdd, reduceSub, reduceMul, reduceLT, reduceLeDiff, ↓reduceIte, reduceCtorEq, reduceEqDiff, reduceToNat, Int.reduceLT, reduceLE, reduceEq]
  rw [lookup_g (keyNum) (t := 70) (e := 68) rfl (g2 _) true y.kind (x := .lit (.int .i64 y.kind)) rfl]
  cases hkd : kindG y with
  | false =>
    simp only [kind_no y hkd]
    simp only [go_sem, reduceAdd, reduceSub, reduceMul, reduceLT, reduceLeDiff, ↓reduceIte, reduceCtorEq, reduceEqDiff, reduceToNat, Int.reduceLT, reduceLE, reduceEq, packD, fnK, gc, g1, nil_ptrO]
    refine .inl ⟨by kernel_rfl, ?_⟩
    try simp only [go_sem, reduceAdd, reduceSub, reduceMul, reduceLT, reduceLeDiff, ↓reduceIte, reduceCtorEq, reduceEqDiff, reduceToNat, Int.reduceLT, reduceLE, reduceEq, gc, g1, nil_ptrO]
    exact fin (by rw [hkd, Bool.false_and, Bool.false_and])
  | true =>
  obtain ⟨f, hf⟩ := kind_fn y hkd
  simp only [hf]
  simp only [go_sem, reduceAdd, reduceSub, reduceMul, reduceLT, reduceLeDiff, ↓reduceIte, reduceCtorEq, reduceEqDiff, reduceToNat, Int.reduceLT, reduceLE, reduceEq, packD, fnK, gc, g1, nil_ptrO]
  refine .inl ⟨by kernel_rfl, ?_⟩
  try simp only [go_sem, reduceAdd, reduceSub, reduceMul, reduceLT, reduceLeDiff, ↓reduceIte, reduceCtorEq, reduceEqDiff, reduceToNat, Int.reduceLT, reduceLE, reduceEq, gc, g1, nil_ptrO]
  refine guardK_split (fun a1 => ?_) (fun a1 => ?_)
  · simp only [go_sem, reduceAdd, reduceSub, reduceMul, reduceLT, reduceLeDiff, ↓reduceIte, reduceCtorEq, reduceEqDiff, reduceToNat, Int.reduceLT, reduceLE, reduceEq, gc, g1, nil_ptrO, a1, nrm_tree]
    have k12 : 7 ≤ y.kind ∧ y.kind ≤ 13 := by simpa [kindG] using hkd
    refine callD_pure (msg_checkG y hg (by omega) k12.1 k12.2) (congrArg (fun z => [z]) (erase_rawG y)) (pure_rawG y) ?_
    cases a2 : okG y with
    | false =>
      simp only [go_sem, reduceAdd, reduceSub, reduceMul, reduceLT, reduceLeDiff, ↓reduceIte, reduceCtorEq, reduceEqDiff, reduceToNat, Int.reduceLT, reduceLE, reduceEq]
      exact fin (by rw [a2, Bool.and_false])
    | true =>
      have e : takeV v y d = stepOf v (usedM y) d := by rw [takeV, hck, hkd, a1, a2]; rfl
      obtain ⟨f', hf', hs⟩ := step_fn v y d a2 hkd hpp ha hp
      obtain rfl : f' = f := by rw [hf] at hf'; exact (Option.some.inj hf').symm
      simp only [go_sem, reduceAdd, reduceSub, reduceMul, reduceLT, reduceLeDiff, ↓reduceIte, reduceCtorEq, reduceEqDiff, reduceToNat, Int.reduceLT, reduceLE, reduceEq, gc, zeros_len, d1, d2, d3, sh_tree, nrm_tree, true_and]
      refine callT_lit (f := f') (by simp only [go_sem, reduceAdd, reduceSub, reduceMul, reduceLT, reduceLeDiff, ↓reduceIte, reduceCtorEq, reduceEqDiff, reduceToNat, Int.reduceLT, reduceLE, reduceEq]) ?_
      simp only [go_sem, reduceAdd, reduceSub, reduceMul, reduceLT, reduceLeDiff, ↓reduceIte, reduceCtorEq, reduceEqDiff, reduceToNat, Int.reduceLT, reduceLE, reduceEq, zeros_len, d1, d2, d3, sh_tree, nrm_tree, true_and]
      refine callK_a (hs (bs ++ [(.obj 1, mapG numK fnK takesG 7)]) tk b (g1 _)) ?_
      rintro r h' ⟨bs2, tk4, u2, L2, rfl, q2, q3, q4, q5⟩
      simp only [go_sem, reduceAdd, reduceSub, reduceMul, reduceLT, reduceLeDiff, ↓reduceIte, reduceCtorEq, reduceEqDiff, reduceToNat, Int.reduceLT, reduceLE, reduceEq]
      rw [e]
      exact ⟨bs2, tk4, u2, L2, rfl, q2, q3, fr_trans (fr_more b bs _) q4, q5⟩
  · simp only [go_sem, reduceAdd, reduceSub, reduceMul, reduceLT, reduceLeDiff, ↓reduceIte, reduceCtorEq, reduceEqDiff, reduceToNat, Int.reduceLT, reduceLE, reduceEq, a1]
    exact fin (by rw [a1, Bool.and_false, Bool.false_and])
set_option maxRecDepth 8000 in
set_option maxHeartbeats 4000000 in
theorem overlay_takeG (v : ViewR) (y : GMsg) (d : Int) (hg : GOk y) (hpp : y.peers.length < 100000) (ha : v.act.length < 100000) (hp : v.pas.length < 100000) :
    PSpec Tryz.prog CT 11 [viewD v, rawG y, .lit (.int .i64 d)] (· = .tup [viewD (takeV v y d).1, msgsD (takeV v y d).2]) := by
  obtain ⟨d1, d2, d3, _⟩ := id hg
  refine PSpec.ofDeep (R := fun r _ => ∃ u L, r = .tup [viewD (takeV v y d).1, .lst 45 L u] ∧ deepL L = (takeV v y d).2.map (rawM .no .no)) ?_ ?_
  · refine ASpec.of hT Tryz.func11 rfl (by kernel_rfl) rfl rfl ?_
    simp only [Tryz.f11, go_sem, reduceAdd, reduceSub, reduceMul, reduceLT, reduceLeDiff, ↓reduceIte, reduceCtorEq, reduceEqDiff, reduceToNat, Int.reduceLT, reduceLE, reduceEq, noHeap, zeros_len, d1, d2, d3, sh_tree, nrm_tree, true_and]
    have hs := begun_spec v d 32 [.ptr 1 []] [(viewSh', viewD v), (msgSh, rawG y), (viewSh', CT.zero 24)] [] (by omega) (by omega) (fun v' L => v' = (takeV v y d).1 ∧ deepL L = (takeV v y d).2.map (rawM .no .no)) (fun h => by
      have e : takeV v y d = (v, []) := by rw [takeV, h]; rfl
      rw [e]; exact ⟨rfl, rfl⟩) (fun hck ex b hbl hb => (take1G v y d hg hpp hck ha hp _ [] b 1 hb rfl).mono fun _ _ h => step_work h)
    rw [zero24] at hs
    refine callK_a hs ?_
    rintro r h' ⟨v', L, u, bs', tk3, rfl, rfl, ⟨rfl, h5⟩, h2⟩
    have h3 : bs'[2]? = _ := (h2 2 (by simp)).trans rfl
    have hl3 := (List.getElem?_eq_some_iff.1 h3).1
    have h4 : ∀ y, (bs'.set 2 y)[2]? = some y := fun y => List.getElem?_set_self hl3
    simp only [go_sem, reduceAdd, reduceSub, reduceMul, reduceLT, reduceLeDiff, ↓reduceIte, reduceCtorEq, reduceEqDiff, reduceToNat, Int.reduceLT, reduceLE, reduceEq, h3, h4]
    exact ⟨u, L, rfl, h5⟩
  · rintro r h' ⟨u, L, rfl, h5⟩
    have e : deep (.tup [viewD (takeV v y d).1, .lst 45 L u]) = .tup [viewD (takeV v y d).1, msgsD (takeV v y d).2] := by
      simp only [deep, deepL, deep_ints, h5]
    rw [e]
    exact ⟨⟨pure_view _, trivial, trivial⟩, rfl⟩
end Go.Ab
set_option linter.unusedSimpArgs false
namespace Go.Ab
open Go.Proofs

set_option maxRecDepth 8000 in
set_option maxHeartbeats 2000000 in
theorem size_any : ∀ (q : Nat) (t : TreeM), SizeOf.sizeOf t < q → treeOk t → ∀ most : Int, PSpec Tryz.prog CT 104 [treeD t, .lit (.int .i64 most)] (fun r => ∃ z : Int, r = .lit (.int .i64 z))
  | 0, _, h, _, _ => absurd h (Nat.not_lt_zero _)
  | q + 1, t, hq, hok, most => by
    obtain ⟨hkl, hko⟩ := treeOk_kids hok
    have hml : maxLen ≤ 9223372036854775807 := by decide +kernel
    have hkids : ∀ (j : Nat) (x : TreeM), t.kids[j]? = some x → SizeOf.sizeOf x < q := fun j x hx => by
      have h1 := List.sizeOf_lt_of_mem (List.mem_of_getElem? hx)
      cases t with
      | nd a ks => simp only [TreeM.kids] at h1; simp at hq; omega
    refine PSpec.of hT Tryz.func104 rfl (by kernel_rfl) rfl rfl ?_
    rw [treeD_eq]
    simp only [Tryz.f104, go_sem, reduceAdd, reduceSub, reduceMul, reduceLT, reduceLeDiff, ↓reduceIte, reduceCtorEq, reduceEqDiff, reduceToNat, Int.reduceLT, reduceLE, reduceEq]
    refine awp_loop (fun n s => ∃ (k : Nat) (z : Int) (g : Nat → D), s = ⟨[g 0, .lit (.int .i64 most), .ptr 0 [], g 3, g 4, .lit (.int .i64 z), .lit (.int .i64 k), g 7, g 8, g 9, g 10, g 11, g 12, g 13, g 14, g 15, g 16, g 17, g 18, g 19, g 20, g 21, g 22, g 23, g 24, g 25, g 26, g 27, g 28, g 29, g 30], ⟨[((.pair .leaf (.pair .leaf .unit)), .agg [.lit (.int .i64 t.num), .lst 41 (t.kids.map treeD) .no])], []⟩⟩ ∧ n = t.kids.length - k ∧ k ≤ t.kids.length) t.kids.length ⟨0, 1, reg_intro rfl rfl ⟨by simp, by omega⟩⟩ ?_
    rintro n st ⟨k, z, g, rfl, hn, hk⟩
    simp only [go_sem, reduceAdd, reduceSub, reduceMul, reduceLT, reduceLeDiff, ↓reduceIte, reduceCtorEq, reduceEqDiff, reduceToNat, Int.reduceLT, reduceLE, reduceEq, List.length_map]
    refine guardK_split (fun c1 => ?_) (fun c1 => ?_)
    · simp only [go_sem, reduceAdd, reduceSub, reduceMul, reduceLT, reduceLeDiff, ↓reduceIte, reduceCtorEq, reduceEqDiff, reduceToNat, Int.reduceLT, reduceLE, reduceEq, List.length_map, c1]
      refine condK_split (fun c2 => ?_) (fun c2 => ?_)
      · have hk' : k < t.kids.length := by have := of_decide_eq_true c1; omega
        have hx : t.kids[k]? = some t.kids[k] := List.getElem?_eq_getElem hk'
        have hxm : (t.kids.map treeD)[k]? = some (treeD t.kids[k]) := by rw [List.getElem?_map, hx]; rfl
        have hsz := hkids k _ hx
        have hxo := hko _ (List.mem_of_getElem? hx)
        generalize t.kids[k] = x at *
        simp only [go_sem, reduceAdd, reduceSub, reduceMul, reduceLT, reduceLeDiff, ↓reduceIte, reduceCtorEq, reduceEqDiff, reduceToNat, Int.reduceLT, reduceLE, reduceEq, List.length_map, hk', hxm, nrm_tree]
        refine callK_rel (size_any q x hsz hxo (IntKind.i64.wrap (most - z))) (by first | rfl | (simp only [go_sem, erase_tree, pure_tree]; done)) (by first | (simp only [go_sem, erase_tree, pure_tree]; done) | (simp [pureL, pureD]; done)) ?_
        rintro r ⟨z2, rfl⟩
        simp only [go_sem, reduceAdd, reduceSub, reduceMul, reduceLT, reduceLeDiff, ↓reduceIte, reduceCtorEq, reduceEqDiff, reduceToNat, Int.reduceLT, reduceLE, reduceEq]
        rw [wrap64 ((k : Int) + 1) (by omega) (by omega)]
        exact ⟨t.kids.length - (k + 1), by omega, k + 1, _, reg_intro rfl rfl ⟨rfl, by omega⟩⟩
      · simp only [go_sem, reduceAdd, reduceSub, reduceMul, reduceLT, reduceLeDiff, ↓reduceIte, reduceCtorEq, reduceEqDiff, reduceToNat, Int.reduceLT, reduceLE, reduceEq]
        exact ⟨_, rfl⟩
    · simp only [go_sem, reduceAdd, reduceSub, reduceMul, reduceLT, reduceLeDiff, ↓reduceIte, reduceCtorEq, reduceEqDiff, reduceToNat, Int.reduceLT, reduceLE, reduceEq, c1]
      exact ⟨_, rfl⟩
theorem ref04_few (t : TreeM) (h : treeOk t) : PSpec Tryz.prog CT 68 [treeD t] (fun r => ∃ b, r = .lit (.bool b)) := by
  refine PSpec.of hT Tryz.func68 rfl (by kernel_rfl) rfl rfl ?_
  simp only [Tryz.f68, go_sem, reduceAdd, reduceSub, reduceMul, reduceLT, reduceLeDiff, ↓reduceIte, reduceCtorEq, reduceEqDiff, reduceToNat, Int.reduceLT, reduceLE, reduceEq, sh_tree, nrm_tree, true_and]
  refine callK_rel (size_any _ t (Nat.lt_succ_self _) h 120) (by first | rfl | (simp only [go_sem, erase_tree, pure_tree]; done)) (by first | (simp only [go_sem, erase_tree, pure_tree]; done) | (simp [pureL, pureD]; done)) ?_
  rintro r ⟨z, rfl⟩
  simp only [go_sem, reduceAdd, reduceSub, reduceMul, reduceLT, reduceLeDiff, ↓reduceIte, reduceCtorEq, reduceEqDiff, reduceToNat, Int.reduceLT, reduceLE, reduceEq]
  exact ⟨_, rfl⟩
theorem ref06_few (a b : TreeM) (ha : treeOk a) (hb : treeOk b) : PSpec Tryz.prog CT 36 [.agg [treeD a, treeD b]] (fun r => ∃ b, r = .lit (.bool b)) := by
  refine PSpec.of hT Tryz.func36 rfl (by kernel_rfl) rfl rfl ?_
  simp only [Tryz.f36, go_sem, reduceAdd, reduceSub, reduceMul, reduceLT, reduceLeDiff, ↓reduceIte, reduceCtorEq, reduceEqDiff, reduceToNat, Int.reduceLT, reduceLE, reduceEq, sh_tree, nrm_tree, true_and, and_true]
  refine callK_rel (ref04_few a ha) (by first | rfl | (simp only [go_sem, erase_tree, pure_tree]; done)) (by first | (simp only [go_sem, erase_tree, pure_tree]; done) | (simp [pureL, pureD]; done)) ?_
  rintro r ⟨b1, rfl⟩
  cases b1 with
  | false => simp only [go_sem, reduceAdd, reduceSub, reduceMul, reduceLT, reduceLeDiff, ↓reduceIte, reduceCtorEq, reduceEqDiff, reduceToNat, Int.reduceLT, reduceLE, reduceEq]; exact ⟨_, rfl⟩
  | true =>
    simp only [go_sem, reduceAdd, reduceSub, reduceMul, reduceLT, reduceLeDiff, ↓reduceIte, reduceCtorEq, reduceEqDiff, reduceToNat, Int.reduceLT, reduceLE, reduceEq, nrm_tree]
    refine callK_rel (ref04_few b hb) (by first | rfl | (simp only [go_sem, erase_tree, pure_tree]; done)) (by first | (simp only [go_sem, erase_tree, pure_tree]; done) | (simp [pureL, pureD]; done)) ?_
    rintro r ⟨b2, rfl⟩
    simp only [go_sem, reduceAdd, reduceSub, reduceMul, reduceLT, reduceLeDiff, ↓reduceIte, reduceCtorEq, reduceEqDiff, reduceToNat, Int.reduceLT, reduceLE, reduceEq]
    exact ⟨_, rfl⟩
def fewG (y : GMsg) (b : Bool) : Prop := b = true → y.tx.ops.length ≤ 40 ∧ y.data.length ≤ 2000 ∧ y.peers.length ≤ 40
set_option maxRecDepth 8000 in
set_option maxHeartbeats 2000000 in
theorem ref26_few (y : GMsg) (hg : GOk y) : PSpec Tryz.prog CT 13 [rawG y] (fun r => ∃ b, r = .lit (.bool b) ∧ fewG y b) := by
  obtain ⟨d1, d2, d3, d4, d5, d6, d7, d8⟩ := id hg
  refine PSpec.of hT Tryz.func13 rfl (by kernel_rfl) rfl rfl ?_
  simp only [Tryz.f13, go_sem, reduceAdd, reduceSub, reduceMul, reduceLT, reduceLeDiff, ↓reduceIte, reduceCtorEq, reduceEqDiff, reduceToNat, Int.reduceLT, reduceLE, reduceEq, zeros_len, d1, d2, d3, sh_tree, nrm_tree, true_and]
  refine callK_pure (args' := [txD y.tx]) (ref_small y.tx d1) (congrArg (fun z => [z]) (erase_tx y.tx)) ⟨by simp [pureD, pureL, pureL_ints, pure_ops], trivial⟩ ?_
  cases k1 : smallTx y.tx with
  | false =>
    simp only [go_sem, reduceAdd, reduceSub, reduceMul, reduceLT, reduceLeDiff, ↓reduceIte, reduceCtorEq, reduceEqDiff, reduceToNat, Int.reduceLT, reduceLE, reduceEq]
    exact ⟨_, rfl, fun h => absurd h (by simp)⟩
  | true =>
  simp only [go_sem, reduceAdd, reduceSub, reduceMul, reduceLT, reduceLeDiff, ↓reduceIte, reduceCtorEq, reduceEqDiff, reduceToNat, Int.reduceLT, reduceLE, reduceEq, zeros_len, d1, d2, d3, List.length_map]
  refine guardK_split (fun k2 => ?_) (fun k2 => ?_)
  · simp only [go_sem, reduceAdd, reduceSub, reduceMul, reduceLT, reduceLeDiff, ↓reduceIte, reduceCtorEq, reduceEqDiff, reduceToNat, Int.reduceLT, reduceLE, reduceEq, zeros_len, d1, d2, d3, List.length_map, k2, sh_tree, nrm_tree, true_and, and_true]
    refine callK_rel (args' := [.agg [treeD y.id, treeD y.ev]]) (ref06_few y.id y.ev d7 d8) (by first | rfl | (simp only [go_sem, erase_tree, pure_tree]; done)) (by first | (simp only [go_sem, erase_tree, pure_tree]; done) | (simp [pureL, pureD]; done)) ?_
    rintro r ⟨b, rfl⟩
    cases b with
    | false =>
      simp only [go_sem, reduceAdd, reduceSub, reduceMul, reduceLT, reduceLeDiff, ↓reduceIte, reduceCtorEq, reduceEqDiff, reduceToNat, Int.reduceLT, reduceLE, reduceEq]
      exact ⟨_, rfl, fun h => absurd h (by simp)⟩
    | true =>
      simp only [go_sem, reduceAdd, reduceSub, reduceMul, reduceLT, reduceLeDiff, ↓reduceIte, reduceCtorEq, reduceEqDiff, reduceToNat, Int.reduceLT, reduceLE, reduceEq, zeros_len, d1, d2, d3, List.length_map]
      refine ⟨_, rfl, fun h => ⟨?_, ?_, ?_⟩⟩
      · simp only [smallTx, Bool.and_eq_true, decide_eq_true_eq] at k1; exact k1.1
      · have := of_decide_eq_true k2; omega
      · have := of_decide_eq_true h; omega
  · simp only [go_sem, reduceAdd, reduceSub, reduceMul, reduceLT, reduceLeDiff, ↓reduceIte, reduceCtorEq, reduceEqDiff, reduceToNat, Int.reduceLT, reduceLE, reduceEq, k2]
    exact ⟨_, rfl, fun h => absurd h (by simp)⟩
end Go.Ab
set_option linter.unusedSimpArgs false
namespace Go.Ab
open Go.Proofs

/-- A made message that may be, from here. -/
def MOk (v : ViewR) (m : MsgM) : Prop := okG (gOf m) = true ∧ (7 ≤ m.kind ∧ m.kind ≤ 13) ∧ m.from_ = v.self ∧ m.peers.length ≤ 40
def GoodV (r : ViewR × List MsgM) : Prop := VOk r.1 ∧ r.2.length ≤ 6 ∧ ∀ m ∈ r.2, MOk r.1 m
theorem alike_gOf (m : MsgM) : alikeB m (gOf m) = true := by
  simp [alikeB, tB, vB, nB, sB, gOf, bareT, TreeM.num, TreeM.kids, t0Z]
theorem okM {m : MsgM} (h1 : vpeer m.from_ = true) (h2 : vpeer m.to = true) (h3 : ¬ m.from_ = m.to) (h4 : okF (gOf m) = true) (h5 : usedM (gOf m) = m) : okG (gOf m) = true := by
  have h6 := alike_gOf m
  rw [okG, h5, h6, h4]
  show (vpeer m.from_ && vpeer m.to && !decide (m.from_ = m.to) && true && true) = true
  rw [h1, h2, decide_eq_false h3]; rfl
theorem okM_of {m : MsgM} (h : okG (gOf m) = true) : vpeer m.from_ = true ∧ vpeer m.to = true ∧ ¬ m.from_ = m.to ∧ okF (gOf m) = true := by
  simp only [okG, Bool.and_eq_true, Bool.not_eq_true', decide_eq_false_iff_not] at h
  exact ⟨h.1.1.1.1, h.1.1.1.2, h.1.1.2, h.1.2⟩
/-- A message that carries nothing. -/
theorem okBare {k f t : Int} {b : Bool} (h1 : vpeer f = true) (h2 : vpeer t = true) (h3 : ¬ f = t) (hk : k = 7 ∨ k = 11 ∧ b = false ∨ k = 9 ∨ k = 10) (hb : k = 7 → b = false) : okG (gOf ⟨k, f, t, b, 0, 0, []⟩) = true := by
  refine okM h1 h2 h3 ?_ ?_
  · rcases hk with rfl | ⟨rfl, rfl⟩ | rfl | rfl <;> simp [okF, gOf]
  · rcases hk with rfl | ⟨rfl, rfl⟩ | rfl | rfl <;> simp [usedM, gOf] <;> exact hb rfl
theorem pick_in {l n : List Int} {d : Int} (h : ¬ pickI l n d = 0) : pickI l n d ∈ l ∧ pickI l n d ∉ n := by
  unfold pickI at h ⊢
  split at h
  · exact absurd rfl h
  · rename_i hl
    rw [if_neg hl]
    refine mem_outL.1 ?_
    have hlt : (max d 0).toNat % (outL l n).length < (outL l n).length := Nat.mod_lt _ (by omega)
    rw [List.getD_eq_getElem?_getD, List.getElem?_eq_getElem hlt]
    exact List.getElem_mem hlt
theorem gone_ok {v : ViewR} (p d : Int) (h : VOk v) : ∀ m ∈ goneM v p d, MOk (addV v p d).1 m := by
  intro m hm
  have hv := addV_ok p d h
  unfold goneM at hm
  split at hm
  · simp at hm
  · rename_i h0
    obtain rfl := List.mem_singleton.1 hm
    have hin := (addV_gone (v := v) p d).resolve_left h0
    exact ⟨okBare hv.self (hv.p2 _ hin) (fun e => hv.sp (e ▸ hin)) (.inr (.inl ⟨rfl, rfl⟩)) (fun e => by simp at e), by simp, rfl, by simp⟩
theorem okF8 {k f t n o : Int} {ps : List Int} (hk : k = 8 ∨ k = 12) (hn : vpeer n = true) (h0 : 0 ≤ o) (h1 : o ≤ 16) (hp : k = 12 → rosterOk ps = true) : okF (gOf ⟨k, f, t, false, n, o, ps⟩) = true := by
  rcases hk with rfl | rfl
  · simp [okF, gOf, walksB, hn, h0, h1]
  · simp [okF, gOf, walksB, hn, h0, h1, hp rfl]
theorem tell_ok {x : ViewR} {p : Int} (h : VOk x) (hp : vpeer p = true) : ∀ m ∈ tellM x.self p x.act, MOk x m := by
  intro m hm
  obtain ⟨q, hq, rfl⟩ := List.mem_map.1 hm
  have hqa := (List.mem_filter.1 hq).1
  exact ⟨okM h.self (h.a2 q hqa) (fun e => h.sa (show x.self ∈ x.act from (show x.self = q from e) ▸ hqa)) (okF8 (.inl rfl) hp (by omega) (by omega) (fun e => by simp at e)) (by simp [usedM, gOf]), by simp, rfl, by simp⟩
theorem ask_ok {v : ViewR} (f : Bool) (d : Int) (h : VOk v) : ∀ m ∈ askV v f d, MOk v m := by
  intro m hm
  unfold askV at hm
  split at hm
  · simp at hm
  · rename_i h0
    obtain rfl := List.mem_singleton.1 hm
    have hin := (pick_in h0).1
    exact ⟨okBare h.self (h.p2 _ hin) (fun e => h.sp ((show v.self = pickI v.pas [] d from e) ▸ hin)) (.inr (.inr (.inl rfl))) (fun e => by simp at e), by simp, rfl, by simp⟩
theorem ask_len (v : ViewR) (f : Bool) (d : Int) : (askV v f d).length ≤ 1 := by unfold askV; split <;> simp
theorem sample_mem {all : List Int} {e : Nat} {self : Int} (ha : all.length ≠ 0) : ∀ k x, x ∈ sampleTo all e self k → x = self ∨ x ∈ all
  | 0, x, h => .inl (by simpa [sampleTo] using h)
  | k + 1, x, h => by
    rw [sampleTo_succ, stepS, mem_withL] at h
    rcases h with h | h
    · have hlt : (e % all.length + k) % all.length < all.length := Nat.mod_lt _ (by omega)
      rw [List.getD_eq_getElem?_getD, List.getElem?_eq_getElem hlt] at h
      exact .inr (h ▸ List.getElem_mem hlt)
    · exact sample_mem ha k x h
theorem sample_ok {v : ViewR} (d : Int) (h : VOk v) : rosterOk (sampleV v d) = true := by
  refine rosterOk_strict.2 ⟨?_, ?_⟩
  · unfold sampleV; split
    · exact sampleTo_strict _ _ _ _
    · simp
  · intro n hn
    unfold sampleV at hn
    rw [if_pos ((checkV_iff v).2 h)] at hn
    have hall : ∀ x, x ∈ sortI (v.act ++ v.pas) → vpeer x = true := fun x hx => by
      rw [all_eq h, mem_unionL] at hx
      rcases hx with hx | hx
      · exact h.a2 x hx
      · exact h.p2 x hx
    by_cases hz : (v.act ++ v.pas).length = 0
    · rw [hz] at hn
      have : n = v.self := by simpa [sampleTo] using hn
      rw [this]; exact h.self
    · have hz' : (sortI (v.act ++ v.pas)).length ≠ 0 := by
        intro e
        have e2 : sortI (v.act ++ v.pas) = [] := List.length_eq_zero_iff.1 e
        rw [all_eq h] at e2
        have hne : v.act ++ v.pas ≠ [] := fun e3 => hz (by rw [e3]; rfl)
        obtain ⟨x, hx⟩ := List.exists_mem_of_ne_nil _ hne
        have : x ∈ unionL v.act v.pas := mem_unionL v.pas |>.2 (List.mem_append.1 hx)
        rw [e2] at this
        simp at this
      rcases sample_mem hz' _ n hn with rfl | hx
      · exact h.self
      · exact hall n hx
theorem knownL_ok (d : Int) : ∀ (l : List Int) {v : ViewR}, VOk v → VOk (knownL v l d)
  | [], _, h => h
  | x :: r, _, h => knownL_ok d r (knowV_ok x d h)
theorem meet_good {v : ViewR} (p d : Int) (h : VOk v) : GoodV (meetV v p d) := by
  unfold meetV
  split
  · rename_i hc
    simp only [Bool.and_eq_true, otherV, Bool.not_eq_true', decide_eq_false_iff_not] at hc
    have hv := addV_ok p d h
    have hgl := gone_len v p d
    refine ⟨hv, by simp only [List.length_append, List.length_singleton]; omega, fun m hm => ?_⟩
    rcases List.mem_append.1 hm with hm | hm
    · exact gone_ok p d h m hm
    · obtain rfl := List.mem_singleton.1 hm
      refine ⟨okBare hv.self hc.2.1 (fun e => hc.2.2 ?_) (.inl rfl) (fun _ => rfl), by simp, rfl, by simp⟩
      rw [← add_self v p d]; exact e.symm
  · exact ⟨h, by simp, by simp⟩
theorem tick_good {v : ViewR} (d : Int) (h : VOk v) : GoodV (tickV v d) := by
  unfold tickV
  rw [if_pos ((checkV_iff v).2 h)]
  split
  · exact ⟨h, by have := ask_len v true d; simp only; omega, ask_ok true d h⟩
  · rename_i hz
    have hz' : v.act.length ≠ 0 := fun e => hz (by simp [zeroL, e])
    have hin := pick_mem d hz'
    refine ⟨h, by simp, fun m hm => ?_⟩
    obtain rfl := List.mem_singleton.1 hm
    have hsl := sampleV_len v d
    exact ⟨okM h.self (h.a2 _ hin) (fun e => h.sa ((show v.self = pickI v.act [] d from e) ▸ hin)) (okF8 (.inr rfl) h.self (by omega) (by omega) (fun _ => sample_ok d h)) (by simp [usedM, gOf]), by simp, rfl, by show (sampleV v d).length ≤ 40; omega⟩
theorem fail_good {v : ViewR} (p d : Int) (h : VOk v) : GoodV (failV v p d) := by
  unfold failV
  rw [if_pos ((checkV_iff v).2 h)]
  have hv := forgetV_ok p h
  refine ⟨hv, ?_, ?_⟩
  · show (if p ∈ v.act then askV (forgetV v p) (zeroL (forgetV v p)) d else []).length ≤ 6
    split
    · have := ask_len (forgetV v p) (zeroL (forgetV v p)) d; omega
    · simp
  · show ∀ m ∈ (if p ∈ v.act then askV (forgetV v p) (zeroL (forgetV v p)) d else []), MOk (forgetV v p) m
    split
    · exact ask_ok _ d hv
    · simp
theorem okF8_of {m : MsgM} (hk : m.kind = 8 ∨ m.kind = 12) (h : okF (gOf m) = true) : vpeer m.n = true ∧ 0 ≤ m.of_ ∧ m.of_ ≤ 16 := by
  have hk' : (gOf m).kind = 8 ∨ (gOf m).kind = 12 := hk
  simp only [okF, if_pos hk', walksB, Bool.and_eq_true, decide_eq_true_eq] at h
  exact ⟨h.1.1.1, h.1.1.2, h.1.2⟩
theorem okF12_of {m : MsgM} (hk : m.kind = 12 ∨ m.kind = 13) (h : okF (gOf m) = true) : rosterOk m.peers = true := by
  have hk' : (gOf m).kind = 12 ∨ (gOf m).kind = 13 := hk
  simp only [okF, if_pos hk', Bool.and_eq_true] at h
  exact h.2
theorem join_good {v : ViewR} {m : MsgM} (d : Int) (h : VOk v) (hf : vpeer m.from_ = true) : GoodV (joinV v m d) := by
  have hv := addV_ok m.from_ d h
  have h1 := gone_len v m.from_ d
  have h2 := tell_len (addV v m.from_ d).1.self m.from_ (addV v m.from_ d).1.act
  have h3 := hv.la
  refine ⟨hv, by simp only [joinV, List.length_append]; omega, fun x hx => ?_⟩
  rcases List.mem_append.1 hx with hx | hx
  · exact gone_ok m.from_ d h x hx
  · exact tell_ok hv hf x hx
theorem forward_good {v : ViewR} {m : MsgM} (d : Int) (h : VOk v) (hn : vpeer m.n = true) (h1 : m.of_ ≤ 16) : GoodV (forwardV v m d) := by
  have hw : VOk (fwdV v m d) := by
    unfold fwdV; split
    · exact knowV_ok _ d h
    · exact h
  have hself : (fwdV v m d).self = v.self := by
    unfold fwdV; split
    · exact (know_len v m.n d).2.2
    · rfl
  unfold forwardV
  split
  · exact ⟨h, by simp, by simp⟩
  rename_i hns
  split
  · rename_i ht
    have hc : fwdC v m = true := by
      cases hc : fwdC v m with
      | true => rfl
      | false => exact absurd (by simp [fwdT, hc]) ht
    have ho : 0 < m.of_ := by simp only [fwdC, Bool.and_eq_true, decide_eq_true_eq] at hc; exact hc.1
    have hte : fwdT v m d = pickI (fwdV v m d).act [m.from_, m.n] d := by rw [fwdT, if_pos hc]
    rw [hte] at ht ⊢
    have hin := (pick_in ht).1
    refine ⟨hw, by simp, fun x hx => ?_⟩
    obtain rfl := List.mem_singleton.1 hx
    exact ⟨okM hw.self (hw.a2 _ hin) (fun e => hw.sa ((show (fwdV v m d).self = pickI (fwdV v m d).act [m.from_, m.n] d from e) ▸ hin)) (okF8 (.inl rfl) hn (by omega) (by omega) (fun e => by simp at e)) (by simp [usedM, gOf]), by simp, rfl, by simp⟩
  · split
    · exact ⟨hw, by simp, by simp⟩
    · have hv := addV_ok m.n d hw
      have hgl := gone_len (fwdV v m d) m.n d
      refine ⟨hv, by simp only [List.length_append, List.length_singleton]; omega, fun x hx => ?_⟩
      rcases List.mem_append.1 hx with hx | hx
      · exact gone_ok m.n d hw x hx
      · obtain rfl := List.mem_singleton.1 hx
        refine ⟨okBare hv.self hn (fun e => hns ?_) (.inr (.inr (.inl rfl))) (fun e => by simp at e), by simp, rfl, by simp⟩
        rw [← hself, ← add_self (fwdV v m d) m.n d]; exact e.symm
theorem neighbor_good {v : ViewR} {m : MsgM} (d : Int) (h : VOk v) (hf : vpeer m.from_ = true) (hs : ¬ m.from_ = v.self) : GoodV (neighborV v m d) := by
  unfold neighborV
  split
  · have hv := addV_ok m.from_ d h
    have hgl := gone_len v m.from_ d
    refine ⟨hv, by simp only [List.length_append, List.length_singleton]; omega, fun x hx => ?_⟩
    rcases List.mem_append.1 hx with hx | hx
    · exact gone_ok m.from_ d h x hx
    · obtain rfl := List.mem_singleton.1 hx
      refine ⟨okBare hv.self hf (fun e => hs ?_) (.inr (.inr (.inr rfl))) (fun e => by simp at e), by simp, rfl, by simp⟩
      rw [← add_self v m.from_ d]; exact e.symm
  · refine ⟨h, by simp, fun x hx => ?_⟩
    obtain rfl := List.mem_singleton.1 hx
    exact ⟨okBare h.self hf (fun e => hs e.symm) (.inr (.inr (.inr rfl))) (fun e => by simp at e), by simp, rfl, by simp⟩
theorem shuffle_good {v : ViewR} {m : MsgM} (d : Int) (h : VOk v) (hn : vpeer m.n = true) (h1 : m.of_ ≤ 16) (hr : rosterOk m.peers = true) (hl : m.peers.length ≤ 40) : GoodV (shuffleV v m d) := by
  have hk := knownL_ok d m.peers h
  unfold shuffleV
  split
  · rename_i ht
    have ho : 0 < m.of_ := by
      by_cases ho : 0 < m.of_
      · exact ho
      · exact absurd (by rw [shufT, if_neg ho]) ht
    have hte : shufT v m d = pickI v.act [m.from_, m.n] d := by rw [shufT, if_pos ho]
    rw [hte] at ht ⊢
    have hin := (pick_in ht).1
    refine ⟨h, by simp, fun x hx => ?_⟩
    obtain rfl := List.mem_singleton.1 hx
    exact ⟨okM h.self (h.a2 _ hin) (fun e => h.sa ((show v.self = pickI v.act [m.from_, m.n] d from e) ▸ hin)) (okF8 (.inr rfl) hn (by omega) (by omega) (fun _ => hr)) (by simp [usedM, gOf]), by simp, rfl, hl⟩
  · split
    · exact ⟨hk, by simp, by simp⟩
    · rename_i hs
      refine ⟨hk, by simp, fun x hx => ?_⟩
      obtain rfl := List.mem_singleton.1 hx
      have hsl := sampleV_len v d
      exact ⟨okM hk.self hn (fun e => hs e.symm) (by simp [okF, gOf, sample_ok d h]) (by simp [usedM, gOf]), by simp, rfl, by show (sampleV v d).length ≤ 40; omega⟩
theorem step_good {v : ViewR} {m : MsgM} (d : Int) (h : VOk v) (hm : okG (gOf m) = true) (ht : m.to = v.self) (hl : m.peers.length ≤ 40) : GoodV (stepOf v m d) := by
  obtain ⟨h1, h2, h3, h4⟩ := okM_of hm
  rw [ht] at h3
  unfold stepOf
  split
  · exact join_good d h h1
  split
  · rename_i hk; obtain ⟨a1, a2, a3⟩ := okF8_of (.inl hk) h4; exact forward_good d h a1 a3
  split
  · exact neighbor_good d h h1 h3
  split
  · unfold replyV; split
    · have hgl := gone_len v m.from_ d
      exact ⟨addV_ok _ d h, by simp only; omega, gone_ok m.from_ d h⟩
    · exact ⟨h, by simp, by simp⟩
  split
  · exact ⟨coolV_ok _ d h, by simp [leaveV], by simp [leaveV]⟩
  split
  · rename_i hk; obtain ⟨a1, a2, a3⟩ := okF8_of (.inr hk) h4; exact shuffle_good d h a1 a3 (okF12_of (.inl hk) h4) hl
  split
  · exact ⟨knownL_ok d m.peers h, by simp [backV], by simp [backV]⟩
  · exact ⟨h, by simp, by simp⟩
theorem take_good {v : ViewR} {y : GMsg} (d : Int) (h : VOk v) (hl : y.peers.length ≤ 40) : GoodV (takeV v y d) := by
  unfold takeV
  split
  · rename_i hc
    simp only [Bool.and_eq_true, decide_eq_true_eq] at hc
    have hg := gOf_used hc.2.2
    exact step_good d h (by rw [← hg]; exact hc.2.2) hc.2.1.2 (by have := used_len y; omega)
  · exact ⟨h, by simp, by simp⟩
end Go.Ab
set_option linter.unusedSimpArgs false
namespace Go.Ab
open Go.Proofs

theorem treeOk_nil : treeOk (.nd 0 []) := by
  rw [treeOk]
  exact ⟨by simp, by rw [treesOk]; trivial⟩
theorem gok_gOf {m : MsgM} (h : m.peers.length ≤ 40) : GOk (gOf m) := by
  have hml : 40 ≤ maxLen := by decide +kernel
  refine ⟨by simp [gOf, t0Z, zeros], by simp [gOf, zeros], by simp [gOf, zeros], by simp [gOf, t0Z], by simp [gOf], by show m.peers.length ≤ maxLen; omega, treeOk_nil, treeOk_nil⟩
end Go.Ab
