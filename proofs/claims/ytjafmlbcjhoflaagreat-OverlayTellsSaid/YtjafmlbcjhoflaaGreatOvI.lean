/- Who is whose neighbour: what kinds of messages come to. Conditions: none. -/
import Derived.Test.YtjafmlbcjhoflaaGreatOvG
open Nat (reduceAdd reduceSub reduceMul reduceLT reduceLeDiff reduceEqDiff)
open Int (reduceToNat reduceLE reduceEq)
set_option linter.unusedSimpArgs false
namespace Go.Ab
open Go.Proofs

def fnK (f : Nat) : D := .lit (.func (.func f) #[] #[])
def numK (n : Int) : D := .lit (.int .i64 n)
theorem keyNum : KeyEnc CT 3 numK := keyInt rfl
def takesG : List (Int × Nat) := [(7, 58), (8, 59), (9, 60), (10, 61), (11, 62), (12, 63), (13, 64)]
set_option maxRecDepth 8000 in
set_option maxHeartbeats 1000000 in
theorem takes_spec (bs : List (Sh × D)) (tk : List Bool) : ASpec Tryz.prog CT 33 [] ⟨bs, tk⟩ fun r h' => r = .mref bs.length ∧ h' = ⟨bs ++ [(.obj 1, mapG numK fnK takesG 7)], tk⟩ := by
  have g2 : ∀ y, (bs ++ [y])[bs.length]? = some y := fun y => by simp
  have g3 : ∀ y z, (bs ++ [y]).set bs.length z = bs ++ [z] := fun y z => by simp
  refine ASpec.of hT Tryz.func33 rfl (by kernel_rfl) rfl rfl ?_
  simp only [Tryz.f33, go_sem, reduceAdd, reduceSub, reduceMul, reduceLT, reduceLeDiff, ↓reduceIte, reduceCtorEq, reduceEqDiff, reduceToNat, Int.reduceLT, reduceLE, reduceEq]
  refine ⟨isMap_ok rfl, ?_⟩
  have e0 : D.mp [] [] 0 = mapG numK fnK ([] : List (Int × Nat)) 0 := rfl
  rw [e0]
  have hk := keyNum
  refine mapUpd_g hk (e := 68) rfl (g2 _) 7 58 rfl rfl ?_
  rw [g3]
  simp only [go_sem, reduceAdd, reduceSub, reduceMul, reduceLT, reduceLeDiff, ↓reduceIte, reduceCtorEq, reduceEqDiff, reduceToNat, Int.reduceLT, reduceLE, reduceEq]
  refine mapUpd_g hk (e := 68) rfl (g2 _) 8 59 rfl rfl ?_
  rw [g3]
  simp only [go_sem, reduceAdd, reduceSub, reduceMul, reduceLT, reduceLeDiff, ↓reduceIte, reduceCtorEq, reduceEqDiff, reduceToNat, Int.reduceLT, reduceLE, reduceEq]
  refine mapUpd_g hk (e := 68) rfl (g2 _) 9 60 rfl rfl ?_
  rw [g3]
  simp only [go_sem, reduceAdd, reduceSub, reduceMul, reduceLT, reduceLeDiff, ↓reduceIte, reduceCtorEq, reduceEqDiff, reduceToNat, Int.reduceLT, reduceLE, reduceEq]
  refine mapUpd_g hk (e := 68) rfl (g2 _) 10 61 rfl rfl ?_
  rw [g3]
  simp only [go_sem, reduceAdd, reduceSub, reduceMul, reduceLT, reduceLeDiff, ↓reduceIte, reduceCtorEq, reduceEqDiff, reduceToNat, Int.reduceLT, reduceLE, reduceEq]
  refine mapUpd_g hk (e := 68) rfl (g2 _) 11 62 rfl rfl ?_
  rw [g3]
  simp only [go_sem, reduceAdd, reduceSub, reduceMul, reduceLT, reduceLeDiff, ↓reduceIte, reduceCtorEq, reduceEqDiff, reduceToNat, Int.reduceLT, reduceLE, reduceEq]
  refine mapUpd_g hk (e := 68) rfl (g2 _) 12 63 rfl rfl ?_
  rw [g3]
  simp only [go_sem, reduceAdd, reduceSub, reduceMul, reduceLT, reduceLeDiff, ↓reduceIte, reduceCtorEq, reduceEqDiff, reduceToNat, Int.reduceLT, reduceLE, reduceEq]
  refine mapUpd_g hk (e := 68) rfl (g2 _) 13 64 rfl rfl ?_
  rw [g3]
  simp only [go_sem, reduceAdd, reduceSub, reduceMul, reduceLT, reduceLeDiff, ↓reduceIte, reduceCtorEq, reduceEqDiff, reduceToNat, Int.reduceLT, reduceLE, reduceEq]
  kernel_rfl
/-- A call of a function that a slot holds as it is. -/
theorem callT_lit {P : Program} {C : Tab} {f : FuncId} {args : Array Operand} {at_ : Array TypeId} {K : St → Prop} {dst : Option Tmp} {ty : TypeId} {pos : String} {after : Array Edge} {g : Option (Nat × Bool)} {ts : List D} {h : Heap} {t : Tmp} {ar : List D}
    (ht : ts.getD t (.lit undef) = .lit (.func (.func f) #[] #[])) (hk : callK P C f (argsD C (St.ev ⟨ts, h⟩) args.toList at_.toList) K dst ts h) :
    callT P C (.lit (.func (.func f) #[] #[])) ar ⟨dst, .call { callee := .value (.tmp t), args := args, argTypes := at_ }, ty, pos, after, g⟩ K dst ts h := by
  show aop P C _ K ⟨ts, h⟩
  have hc : calleeOf C ⟨dst, .call { callee := .value (.tmp t), args := args, argTypes := at_ }, ty, pos, after, g⟩ ⟨ts, h⟩ = some (f, argsD C (St.ev ⟨ts, h⟩) args.toList at_.toList) := by
    have he : St.ev ⟨ts, h⟩ (.tmp t) = .lit (.func (.func f) #[] #[]) := ht
    simp only [calleeOf, he]; rfl
  rw [callK_eq] at hk
  simp only [aop, hc]; exact hk
def msgOk7 (m : MsgM) : Bool := vpeer m.from_ && vpeer m.to && !decide (m.from_ = m.to)
def take7 (v : ViewR) (m : MsgM) (d : Int) : ViewR × List MsgM := if (checkV v && decide (m.to = v.self) && msgOk7 m) = true then joinV v m d else (v, [])
set_option maxRecDepth 8000 in
set_option maxHeartbeats 2000000 in
theorem take1_join (v : ViewR) (m : MsgM) (d : Int) (hm : m.kind = 7) (hmc : PSpec Tryz.prog CT 34 [rawM .no .no m] (· = .bool (msgOk7 m))) (hck : checkV v = true) (ha : v.act.length < 100000) (hp : v.pas.length < 100000) (bs : List (Sh × D)) (tk : List Bool) (b c : Nat) (hb : bs[b]? = some (walkSh, walkD v d [] .full)) (hc : bs[c]? = some (msgSh, rawM .no .no m)) :
    ASpec Tryz.prog CT 32 [.ptr b [], .ptr c []] ⟨bs, tk⟩ fun _ h' => WorkR d b bs tk (fun v' L => v' = (take7 v m d).1 ∧ deepL L = (take7 v m d).2.map (rawM .no .no)) h' := by
  refine (?_ : ASpec Tryz.prog CT 32 [.ptr b [], .ptr c []] ⟨bs, tk⟩ fun _ h' => StepR d b bs tk [] (take7 v m d).1 (take7 v m d).2 h').mono fun _ _ h => step_work h
  have hbl := (List.getElem?_eq_some_iff.1 hb).1
  have hcl := (List.getElem?_eq_some_iff.1 hc).1
  have g1 : ∀ y, (bs ++ [y])[b]? = some (walkSh, walkD v d [] .full) := fun y => by rw [List.getElem?_append_left hbl]; exact hb
  have gc : ∀ y, (bs ++ [y])[c]? = some (msgSh, rawM .no .no m) := fun y => by rw [List.getElem?_append_left hcl]; exact hc
  have g2 : ∀ y, (bs ++ [y])[bs.length]? = some y := fun y => by simp
  refine ASpec.of hT Tryz.func32 rfl (by kernel_rfl) rfl rfl ?_
  simp only [Tryz.f32, go_sem, reduceAdd, reduceSub, reduceMul, reduceLT, reduceLeDiff, ↓reduceIte, reduceCtorEq, reduceEqDiff, reduceToNat, Int.reduceLT, reduceLE, reduceEq, nil_ptrO, hb, hc]
  refine .inr (drawN_callsP [1, 2] [0] [3, 4, 5, 6, 7, 8] (by kernel_rfl) ?_)
  simp only [go_sem, reduceAdd, reduceSub, reduceMul, reduceLT, reduceLeDiff, ↓reduceIte, reduceCtorEq, reduceEqDiff, reduceToNat, Int.reduceLT, reduceLE, reduceEq, nil_ptrO, hb, hc]
  refine callsD_call (args' := []) rfl (by simp only [go_sem, reduceAdd, reduceSub, reduceMul, reduceLT, reduceLeDiff, ↓reduceIte, reduceCtorEq, reduceEqDiff, reduceToNat, Int.reduceLT, reduceLE, reduceEq]) (takes_spec bs tk) ?_
  rintro r h' ⟨rfl, rfl⟩
  refine ⟨Hle.of rfl, ?_⟩
  show aopsD _ _ _ _ _ _
  simp only [go_sem, reduceAdd, reduceSub, reduceMul, reduceLT, reduceLeDiff, ↓reduceIte, reduceCtorEq, reduceEqDiff, reduceToNat, Int.reduceLT, reduceLE, reduceEq]
  rw [lookup_g (keyNum) (t := 70) (e := 68) rfl (g2 _) true m.kind (x := .lit (.int .i64 m.kind)) rfl]
  have hget : getA takesG m.kind = some 58 := by rw [hm]; rfl
  simp only [hget]
  simp only [go_sem, reduceAdd, reduceSub, reduceMul, reduceLT, reduceLeDiff, ↓reduceIte, reduceCtorEq, reduceEqDiff, reduceToNat, Int.reduceLT, reduceLE, reduceEq, packD, fnK, gc, g1, nil_ptrO]
  refine .inl ⟨by kernel_rfl, ?_⟩
  try simp only [go_sem, reduceAdd, reduceSub, reduceMul, reduceLT, reduceLeDiff, ↓reduceIte, reduceCtorEq, reduceEqDiff, reduceToNat, Int.reduceLT, reduceLE, reduceEq, gc, g1, nil_ptrO]
  have fin : (decide (m.to = v.self) && msgOk7 m) = false → StepR d b bs tk [] (take7 v m d).1 (take7 v m d).2 ⟨bs ++ [(.obj 1, mapG numK fnK takesG 7)], tk⟩ := fun h => by
    have e : take7 v m d = (v, []) := by rw [take7, hck, Bool.true_and, h]; rfl
    rw [e]
    have := step_none (tk := tk) (tk2 := []) (g1 (.obj 1, mapG numK fnK takesG 7)) ⟨trivial, trivial⟩ (fr_more b bs _)
    rw [List.append_nil] at this
    exact this
  refine guardK_split (fun a1 => ?_) (fun a1 => ?_)
  · simp only [go_sem, reduceAdd, reduceSub, reduceMul, reduceLT, reduceLeDiff, ↓reduceIte, reduceCtorEq, reduceEqDiff, reduceToNat, Int.reduceLT, reduceLE, reduceEq, gc, g1, nil_ptrO, a1]
    refine callD_pure (args' := [rawM .no .no m]) hmc (by first | rfl | (simp only [go_sem, zeros_len]; done)) (by first | (simp only [go_sem, zeros_len]; done) | (simp [pureL, pureD]; done)) ?_
    cases a2 : msgOk7 m with
    | false =>
      simp only [go_sem, reduceAdd, reduceSub, reduceMul, reduceLT, reduceLeDiff, ↓reduceIte, reduceCtorEq, reduceEqDiff, reduceToNat, Int.reduceLT, reduceLE, reduceEq]
      exact fin (by rw [a2, Bool.and_false])
    | true =>
      have e : take7 v m d = joinV v m d := by rw [take7, hck, a1, a2]; rfl
      simp only [go_sem, reduceAdd, reduceSub, reduceMul, reduceLT, reduceLeDiff, ↓reduceIte, reduceCtorEq, reduceEqDiff, reduceToNat, Int.reduceLT, reduceLE, reduceEq, gc, zeros_len]
      refine callT_lit (f := 58) (by simp only [go_sem, reduceAdd, reduceSub, reduceMul, reduceLT, reduceLeDiff, ↓reduceIte, reduceCtorEq, reduceEqDiff, reduceToNat, Int.reduceLT, reduceLE, reduceEq]) ?_
      simp only [go_sem, reduceAdd, reduceSub, reduceMul, reduceLT, reduceLeDiff, ↓reduceIte, reduceCtorEq, reduceEqDiff, reduceToNat, Int.reduceLT, reduceLE, reduceEq, zeros_len]
      have hs := walk_join v d [] .full m (bs ++ [(.obj 1, mapG numK fnK takesG 7)]) tk [] b (g1 _) ⟨trivial, trivial⟩ (by simp) ha hp
      rw [List.append_nil] at hs
      refine callK_a hs ?_
      rintro r h' ⟨bs2, tk4, u2, L2, rfl, q2, q3, q4, q5⟩
      simp only [go_sem, reduceAdd, reduceSub, reduceMul, reduceLT, reduceLeDiff, ↓reduceIte, reduceCtorEq, reduceEqDiff, reduceToNat, Int.reduceLT, reduceLE, reduceEq]
      rw [e]
      exact ⟨bs2, tk4, u2, L2, rfl, q2, q3, fr_trans (fr_more b bs _) q4, q5⟩
  · simp only [go_sem, reduceAdd, reduceSub, reduceMul, reduceLT, reduceLeDiff, ↓reduceIte, reduceCtorEq, reduceEqDiff, reduceToNat, Int.reduceLT, reduceLE, reduceEq, a1]
    exact fin (by rw [a1, Bool.false_and])
end Go.Ab
set_option linter.unusedSimpArgs false
namespace Go.Ab
open Go.Proofs

theorem msg_peer (p : Int) : PSpec Tryz.prog CT 65 [.lit (.int .i64 p)] (· = .bool (vpeer p)) := by
  refine PSpec.of hT Tryz.func65 rfl (by kernel_rfl) rfl rfl ?_
  simp only [Tryz.f65, go_sem, reduceAdd, reduceSub, reduceMul, reduceLT, reduceLeDiff, ↓reduceIte, reduceCtorEq, reduceEqDiff, reduceToNat, Int.reduceLT, reduceLE, reduceEq]
  (repeat' (first | ((refine guardK_split (fun hg => ?_) (fun hg => ?_)) <;> (try simp only [go_sem, reduceAdd, reduceSub, reduceMul, reduceLT, reduceLeDiff, ↓reduceIte, reduceCtorEq, reduceEqDiff, reduceToNat, Int.reduceLT, reduceLE, reduceEq, hg, vpeer, Bool.true_and, Bool.false_and])) | ((refine condK_split (fun hg => ?_) (fun hg => ?_)) <;> (try simp only [go_sem, reduceAdd, reduceSub, reduceMul, reduceLT, reduceLeDiff, ↓reduceIte, reduceCtorEq, reduceEqDiff, reduceToNat, Int.reduceLT, reduceLE, reduceEq, hg, vpeer, Bool.true_and, Bool.false_and])) | ((refine Or.inl ⟨by kernel_rfl, ?_⟩) <;> (try simp only [go_sem, reduceAdd, reduceSub, reduceMul, reduceLT, reduceLeDiff, ↓reduceIte, reduceCtorEq, reduceEqDiff, reduceToNat, Int.reduceLT, reduceLE, reduceEq, vpeer, Bool.true_and, Bool.false_and])))) <;> (first | done | skip)
theorem equal_ops : PSpec Tryz.prog CT 100 [.lst 89 [] .no, .lst 89 [] .no] (· = .bool true) := by
  refine PSpec.of hT Tryz.func100 rfl (by kernel_rfl) rfl rfl ?_
  simp only [Tryz.f100, go_sem, reduceAdd, reduceSub, reduceMul, reduceLT, reduceLeDiff, ↓reduceIte, reduceCtorEq, reduceEqDiff, reduceToNat, Int.reduceLT, reduceLE, reduceEq, List.length_nil, Int.natCast_zero, Int.cast_ofNat_Int, decide_true, Bool.not_true]
  refine awp_loop (fun n s => ∃  (g : Nat → D), s = ⟨[g 0, g 1, g 2, g 3, g 4, g 5, g 6, g 7, g 8, g 9, g 10, g 11, .lit (.int .i64 0), .lit (.int .i64 0), g 14, g 15, g 16, g 17, g 18, g 19, g 20, g 21, g 22, g 23, g 24, g 25], ⟨[], []⟩⟩ ∧ n = 0) 0 (reg_intro rfl rfl (rfl)) ?_
  rintro n st ⟨g, rfl, hn⟩
  simp only [go_sem, reduceAdd, reduceSub, reduceMul, reduceLT, reduceLeDiff, ↓reduceIte, reduceCtorEq, reduceEqDiff, reduceToNat, Int.reduceLT, reduceLE, reduceEq, Int.reduceLT, decide_false]
theorem equal_bytes : PSpec Tryz.prog CT 102 [.lst 5 [] .no, .lst 5 [] .no] (· = .bool true) := by
  refine PSpec.of hT Tryz.func102 rfl (by kernel_rfl) rfl rfl ?_
  simp only [Tryz.f102, go_sem, reduceAdd, reduceSub, reduceMul, reduceLT, reduceLeDiff, ↓reduceIte, reduceCtorEq, reduceEqDiff, reduceToNat, Int.reduceLT, reduceLE, reduceEq, List.length_nil, Int.natCast_zero, Int.cast_ofNat_Int, decide_true, Bool.not_true]
  refine awp_loop (fun n s => ∃  (g : Nat → D), s = ⟨[g 0, g 1, g 2, g 3, g 4, g 5, g 6, g 7, g 8, g 9, g 10, g 11, .lit (.int .i64 0), .lit (.int .i64 0), g 14, g 15, g 16, g 17, g 18, g 19, g 20, g 21, g 22, g 23, g 24, g 25], ⟨[], []⟩⟩ ∧ n = 0) 0 (reg_intro rfl rfl (rfl)) ?_
  rintro n st ⟨g, rfl, hn⟩
  simp only [go_sem, reduceAdd, reduceSub, reduceMul, reduceLT, reduceLeDiff, ↓reduceIte, reduceCtorEq, reduceEqDiff, reduceToNat, Int.reduceLT, reduceLE, reduceEq, Int.reduceLT, decide_false]
theorem equal_ints (l : List Int) (hl : l.length < 1000000000) : PSpec Tryz.prog CT 103 [intsL l .no, intsL l .no] (· = .bool true) := by
  refine PSpec.of hT Tryz.func103 rfl (by kernel_rfl) rfl rfl ?_
  simp only [Tryz.f103, go_sem, reduceAdd, reduceSub, reduceMul, reduceLT, reduceLeDiff, ↓reduceIte, reduceCtorEq, reduceEqDiff, reduceToNat, Int.reduceLT, reduceLE, reduceEq, decide_true, Bool.not_true]
  refine awp_loop (fun n s => ∃ (k : Nat) (g : Nat → D), s = ⟨[intsL l .no, intsL l .no, g 2, g 3, g 4, g 5, g 6, g 7, g 8, g 9, g 10, g 11, .lit (.int .i64 l.length), .lit (.int .i64 k), g 14, g 15, g 16, g 17, g 18, g 19, g 20, g 21, g 22, g 23, g 24, g 25], ⟨[], []⟩⟩ ∧ n = l.length - k ∧ k ≤ l.length) l.length ⟨0, reg_intro rfl rfl ⟨by simp, by omega⟩⟩ ?_
  rintro n st ⟨k, g, rfl, hn, hk⟩
  simp only [go_sem, reduceAdd, reduceSub, reduceMul, reduceLT, reduceLeDiff, ↓reduceIte, reduceCtorEq, reduceEqDiff, reduceToNat, Int.reduceLT, reduceLE, reduceEq]
  refine condK_split (fun hc => ?_) (fun hc => ?_)
  · have hk' : k < l.length := by have := of_decide_eq_true hc; omega
    simp only [go_sem, reduceAdd, reduceSub, reduceMul, reduceLT, reduceLeDiff, ↓reduceIte, reduceCtorEq, reduceEqDiff, reduceToNat, Int.reduceLT, reduceLE, reduceEq, hk']
    refine .inl ⟨by kernel_rfl, ?_⟩
    simp only [go_sem, reduceAdd, reduceSub, reduceMul, reduceLT, reduceLeDiff, ↓reduceIte, reduceCtorEq, reduceEqDiff, reduceToNat, Int.reduceLT, reduceLE, reduceEq, hk', decide_true, Bool.not_true, wrapNat k (by omega)]
    exact ⟨l.length - (k + 1), by omega, k + 1, reg_intro rfl rfl ⟨rfl, by omega⟩⟩
  · simp only [go_sem, reduceAdd, reduceSub, reduceMul, reduceLT, reduceLeDiff, ↓reduceIte, reduceCtorEq, reduceEqDiff, reduceToNat, Int.reduceLT, reduceLE, reduceEq]
theorem equal_trees : PSpec Tryz.prog CT 122 [.lst 41 [] .no, .lst 41 [] .no, .lit (.func (.func 101) #[] #[])] (· = .bool true) := by
  refine PSpec.of hT Tryz.func122 rfl (by kernel_rfl) rfl rfl ?_
  simp only [Tryz.f122, go_sem, reduceAdd, reduceSub, reduceMul, reduceLT, reduceLeDiff, ↓reduceIte, reduceCtorEq, reduceEqDiff, reduceToNat, Int.reduceLT, reduceLE, reduceEq, List.length_nil, Int.natCast_zero, Int.cast_ofNat_Int, decide_true, Bool.not_true]
  refine awp_loop (fun n s => ∃  (g : Nat → D), s = ⟨[g 0, g 1, g 2, g 3, g 4, g 5, g 6, g 7, g 8, g 9, g 10, g 11, g 12, g 13, g 14, g 15, .lit (.int .i64 0), .lit (.int .i64 0), g 18, g 19, g 20, g 21, g 22, g 23, g 24, g 25, g 26, g 27, g 28, g 29, g 30, g 31], ⟨[], []⟩⟩ ∧ n = 0) 0 (reg_intro rfl rfl (rfl)) ?_
  rintro n st ⟨g, rfl, hn⟩
  simp only [go_sem, reduceAdd, reduceSub, reduceMul, reduceLT, reduceLeDiff, ↓reduceIte, reduceCtorEq, reduceEqDiff, reduceToNat, Int.reduceLT, reduceLE, reduceEq, Int.reduceLT, decide_false]
theorem msg_same : PSpec Tryz.prog CT 101 [zTree .no, zTree .no] (· = .bool true) := by
  refine PSpec.of hT Tryz.func101 rfl (by kernel_rfl) rfl rfl ?_
  simp only [Tryz.f101, go_sem, reduceAdd, reduceSub, reduceMul, reduceLT, reduceLeDiff, ↓reduceIte, reduceCtorEq, reduceEqDiff, reduceToNat, Int.reduceLT, reduceLE, reduceEq, decide_true]
  refine callK_pure equal_trees (by first | rfl | (simp only [go_sem]; done)) (by first | (simp only [go_sem]; done) | (simp [pureL, pureD]; done)) ?_
  simp only [go_sem, reduceAdd, reduceSub, reduceMul, reduceLT, reduceLeDiff, ↓reduceIte, reduceCtorEq, reduceEqDiff, reduceToNat, Int.reduceLT, reduceLE, reduceEq]
def joinM (f t : Int) : MsgM := ⟨7, f, t, false, 0, 0, []⟩
set_option maxRecDepth 8000 in
set_option maxHeartbeats 2000000 in
theorem msg_alike (m : MsgM) (hp : m.peers.length < 1000000) : PSpec Tryz.prog CT 67 [rawM .no .no m, rawM .no .no m] (· = .bool true) := by
  refine PSpec.of hT Tryz.func67 rfl (by kernel_rfl) rfl rfl ?_
  simp only [Tryz.f67, go_sem, reduceAdd, reduceSub, reduceMul, reduceLT, reduceLeDiff, ↓reduceIte, reduceCtorEq, reduceEqDiff, reduceToNat, Int.reduceLT, reduceLE, reduceEq, zeros_len, eqB_cons, eqB_nil, eqB_int, Bool.and_true, decide_true, beq_self_eq_true]
  refine callK_pure equal_ops (by first | rfl | (simp only [go_sem]; done)) (by first | (simp only [go_sem]; done) | (simp [pureL, pureD]; done)) ?_
  simp only [go_sem, reduceAdd, reduceSub, reduceMul, reduceLT, reduceLeDiff, ↓reduceIte, reduceCtorEq, reduceEqDiff, reduceToNat, Int.reduceLT, reduceLE, reduceEq, zeros_len, eqB_cons, eqB_nil, eqB_int, Bool.and_true, decide_true, beq_self_eq_true]
  refine callK_pure msg_same (by first | rfl | (simp only [go_sem]; done)) (by first | (simp only [go_sem]; done) | (simp [pureL, pureD]; done)) ?_
  simp only [go_sem, reduceAdd, reduceSub, reduceMul, reduceLT, reduceLeDiff, ↓reduceIte, reduceCtorEq, reduceEqDiff, reduceToNat, Int.reduceLT, reduceLE, reduceEq, zeros_len, eqB_cons, eqB_nil, eqB_int, Bool.and_true, decide_true, beq_self_eq_true]
  refine callK_pure msg_same (by first | rfl | (simp only [go_sem]; done)) (by first | (simp only [go_sem]; done) | (simp [pureL, pureD]; done)) ?_
  simp only [go_sem, reduceAdd, reduceSub, reduceMul, reduceLT, reduceLeDiff, ↓reduceIte, reduceCtorEq, reduceEqDiff, reduceToNat, Int.reduceLT, reduceLE, reduceEq, zeros_len, eqB_cons, eqB_nil, eqB_int, Bool.and_true, decide_true, beq_self_eq_true]
  refine callK_pure equal_bytes (by first | rfl | (simp only [go_sem]; done)) (by first | (simp only [go_sem]; done) | (simp [pureL, pureD]; done)) ?_
  simp only [go_sem, reduceAdd, reduceSub, reduceMul, reduceLT, reduceLeDiff, ↓reduceIte, reduceCtorEq, reduceEqDiff, reduceToNat, Int.reduceLT, reduceLE, reduceEq, zeros_len, eqB_cons, eqB_nil, eqB_int, Bool.and_true, decide_true, beq_self_eq_true]
  refine callK_pure (equal_ints m.peers (by omega)) (by first | rfl | (simp only [go_sem]; done)) (by first | (simp only [go_sem]; done) | (simp [pureL, pureD]; done)) ?_
  simp only [go_sem, reduceAdd, reduceSub, reduceMul, reduceLT, reduceLeDiff, ↓reduceIte, reduceCtorEq, reduceEqDiff, reduceToNat, Int.reduceLT, reduceLE, reduceEq, zeros_len, eqB_cons, eqB_nil, eqB_int, Bool.and_true, decide_true, beq_self_eq_true]
set_option maxRecDepth 8000 in
set_option maxHeartbeats 2000000 in
theorem msg_used (f t : Int) : PSpec Tryz.prog CT 66 [rawM .no .no (joinM f t)] (· = .tup [rawM .no .no (joinM f t), .bool true]) := by
  refine PSpec.of hT Tryz.func66 rfl (by kernel_rfl) rfl rfl ?_
  simp only [Tryz.f66, go_sem, reduceAdd, reduceSub, reduceMul, reduceLT, reduceLeDiff, ↓reduceIte, reduceCtorEq, reduceEqDiff, reduceToNat, Int.reduceLT, reduceLE, reduceEq, zeros_len, joinM, Int.reduceEq, decide_true, decide_false]
  rfl
set_option maxRecDepth 8000 in
set_option maxHeartbeats 2000000 in
theorem msg_check (f t : Int) : PSpec Tryz.prog CT 34 [rawM .no .no (joinM f t)] (· = .bool (msgOk7 (joinM f t))) := by
  refine PSpec.of hT Tryz.func34 rfl (by kernel_rfl) rfl rfl ?_
  have e : msgOk7 (joinM f t) = (vpeer f && vpeer t && !decide (f = t)) := rfl
  rw [e]
  simp only [Tryz.f34, go_sem, reduceAdd, reduceSub, reduceMul, reduceLT, reduceLeDiff, ↓reduceIte, reduceCtorEq, reduceEqDiff, reduceToNat, Int.reduceLT, reduceLE, reduceEq, zeros_len, joinM]
  refine callK_pure (msg_peer f) (by first | rfl | (simp only [go_sem]; done)) (by first | (simp only [go_sem]; done) | (simp [pureL, pureD]; done)) ?_
  cases h1 : vpeer f with
  | false => simp only [go_sem, reduceAdd, reduceSub, reduceMul, reduceLT, reduceLeDiff, ↓reduceIte, reduceCtorEq, reduceEqDiff, reduceToNat, Int.reduceLT, reduceLE, reduceEq, Bool.not_false, Bool.false_and]
  | true =>
  simp only [go_sem, reduceAdd, reduceSub, reduceMul, reduceLT, reduceLeDiff, ↓reduceIte, reduceCtorEq, reduceEqDiff, reduceToNat, Int.reduceLT, reduceLE, reduceEq, zeros_len, Bool.not_true, Bool.true_and]
  refine callK_pure (msg_peer t) (by first | rfl | (simp only [go_sem]; done)) (by first | (simp only [go_sem]; done) | (simp [pureL, pureD]; done)) ?_
  cases h2 : vpeer t with
  | false => simp only [go_sem, reduceAdd, reduceSub, reduceMul, reduceLT, reduceLeDiff, ↓reduceIte, reduceCtorEq, reduceEqDiff, reduceToNat, Int.reduceLT, reduceLE, reduceEq, Bool.not_false, Bool.false_and]
  | true =>
  simp only [go_sem, reduceAdd, reduceSub, reduceMul, reduceLT, reduceLeDiff, ↓reduceIte, reduceCtorEq, reduceEqDiff, reduceToNat, Int.reduceLT, reduceLE, reduceEq, zeros_len, Bool.not_true, Bool.true_and]
  refine condK_split (fun h3 => ?_) (fun h3 => ?_)
  · simp only [go_sem, reduceAdd, reduceSub, reduceMul, reduceLT, reduceLeDiff, ↓reduceIte, reduceCtorEq, reduceEqDiff, reduceToNat, Int.reduceLT, reduceLE, reduceEq, h3, Bool.not_true]
  simp only [go_sem, reduceAdd, reduceSub, reduceMul, reduceLT, reduceLeDiff, ↓reduceIte, reduceCtorEq, reduceEqDiff, reduceToNat, Int.reduceLT, reduceLE, reduceEq, zeros_len, h3, Bool.not_false]
  refine callK_pure (args' := [rawM .no .no (joinM f t)]) (msg_used f t) (by first | rfl | (simp only [go_sem, zeros_len, joinM]; done)) (by first | (simp only [go_sem, zeros_len, joinM]; done) | (simp [pureL, pureD]; done)) ?_
  simp only [go_sem, reduceAdd, reduceSub, reduceMul, reduceLT, reduceLeDiff, ↓reduceIte, reduceCtorEq, reduceEqDiff, reduceToNat, Int.reduceLT, reduceLE, reduceEq, zeros_len, joinM]
  refine callK_pure (args' := [rawM .no .no (joinM f t), rawM .no .no (joinM f t)]) (msg_alike (joinM f t) (by simp [joinM])) (by first | rfl | (simp only [go_sem, zeros_len, joinM]; done)) (by first | (simp only [go_sem, zeros_len, joinM]; done) | (simp [pureL, pureD]; done)) ?_
  simp only [go_sem, reduceAdd, reduceSub, reduceMul, reduceLT, reduceLeDiff, ↓reduceIte, reduceCtorEq, reduceEqDiff, reduceToNat, Int.reduceLT, reduceLE, reduceEq, zeros_len]
end Go.Ab
set_option linter.unusedSimpArgs false
namespace Go.Ab
open Go.Proofs

set_option maxRecDepth 8000 in
set_option maxHeartbeats 2000000 in
theorem overlay_take7 (v : ViewR) (f t d : Int) (ha : v.act.length < 100000) (hp : v.pas.length < 100000) :
    PSpec Tryz.prog CT 11 [viewD v, rawM .no .no (joinM f t), .lit (.int .i64 d)] (· = .tup [viewD (take7 v (joinM f t) d).1, msgsD (take7 v (joinM f t) d).2]) := by
  refine PSpec.ofDeep (R := fun r _ => ∃ u L, r = .tup [viewD (take7 v (joinM f t) d).1, .lst 45 L u] ∧ deepL L = (take7 v (joinM f t) d).2.map (rawM .no .no)) ?_ ?_
  · refine ASpec.of hT Tryz.func11 rfl (by kernel_rfl) rfl rfl ?_
    simp only [Tryz.f11, go_sem, reduceAdd, reduceSub, reduceMul, reduceLT, reduceLeDiff, ↓reduceIte, reduceCtorEq, reduceEqDiff, reduceToNat, Int.reduceLT, reduceLE, reduceEq, noHeap, zeros_len]
    have hs := begun_spec v d 32 [.ptr 1 []] [(viewSh', viewD v), (msgSh, rawM .no .no (joinM f t)), (viewSh', CT.zero 24)] [] (by omega) (by omega) (fun v' L => v' = (take7 v (joinM f t) d).1 ∧ deepL L = (take7 v (joinM f t) d).2.map (rawM .no .no)) (fun h => by
      have e : take7 v (joinM f t) d = (v, []) := by rw [take7, h]; rfl
      rw [e]; exact ⟨rfl, rfl⟩) (fun hck ex b hbl hb => take1_join v (joinM f t) d rfl (msg_check f t) hck ha hp _ [] b 1 hb rfl)
    rw [zero24] at hs
    refine callK_a hs ?_
    rintro r h' ⟨v', L, u, bs', tk3, rfl, rfl, ⟨rfl, h5⟩, h2⟩
    have h3 : bs'[2]? = _ := (h2 2 (by simp)).trans rfl
    have hl3 := (List.getElem?_eq_some_iff.1 h3).1
    have h4 : ∀ y, (bs'.set 2 y)[2]? = some y := fun y => List.getElem?_set_self hl3
    simp only [go_sem, reduceAdd, reduceSub, reduceMul, reduceLT, reduceLeDiff, ↓reduceIte, reduceCtorEq, reduceEqDiff, reduceToNat, Int.reduceLT, reduceLE, reduceEq, h3, h4]
    exact ⟨u, L, rfl, h5⟩
  · rintro r h' ⟨u, L, rfl, h5⟩
    have e : deep (.tup [viewD (take7 v (joinM f t) d).1, .lst 45 L u]) = .tup [viewD (take7 v (joinM f t) d).1, msgsD (take7 v (joinM f t) d).2] := by
      simp only [deep, deepL, deep_ints, h5]
    rw [e]
    exact ⟨⟨pure_view _, trivial, trivial⟩, rfl⟩
set_option maxRecDepth 8000 in
set_option maxHeartbeats 2000000 in
theorem overlay_tick (v : ViewR) (d : Int) (ha : v.act.length < 100000) (hp : v.pas.length < 100000) :
    PSpec Tryz.prog CT 18 [viewD v, .lit (.int .i64 d)] (· = .tup [viewD (tickV v d).1, msgsD (tickV v d).2]) := by
  refine PSpec.ofDeep (R := fun r _ => ∃ u L, r = .tup [viewD (tickV v d).1, .lst 45 L u] ∧ deepL L = (tickV v d).2.map (rawM .no .no)) ?_ ?_
  · refine ASpec.of hT Tryz.func18 rfl (by kernel_rfl) rfl rfl ?_
    simp only [Tryz.f18, go_sem, reduceAdd, reduceSub, reduceMul, reduceLT, reduceLeDiff, ↓reduceIte, reduceCtorEq, reduceEqDiff, reduceToNat, Int.reduceLT, reduceLE, reduceEq, noHeap]
    have hs := begun_spec v d 45 [.ptr 1 []] [(viewSh', viewD v), (.leaf, .lit (.int .i64 d)), (viewSh', CT.zero 24)] [] (by omega) (by omega) (fun v' L => v' = (tickV v d).1 ∧ deepL L = (tickV v d).2.map (rawM .no .no)) (fun h => by
      have e : tickV v d = (v, []) := by rw [tickV, h]; rfl
      rw [e]; exact ⟨rfl, rfl⟩) (fun hck ex b hbl hb => tick1 v d hck ha hp _ [] b 1 hb rfl)
    rw [zero24] at hs
    refine callK_a hs ?_
    rintro r h' ⟨v', L, u, bs', tk3, rfl, rfl, ⟨rfl, h5⟩, h2⟩
    have h3 : bs'[2]? = _ := (h2 2 (by simp)).trans rfl
    have hl3 := (List.getElem?_eq_some_iff.1 h3).1
    have h4 : ∀ y, (bs'.set 2 y)[2]? = some y := fun y => List.getElem?_set_self hl3
    simp only [go_sem, reduceAdd, reduceSub, reduceMul, reduceLT, reduceLeDiff, ↓reduceIte, reduceCtorEq, reduceEqDiff, reduceToNat, Int.reduceLT, reduceLE, reduceEq, h3, h4]
    exact ⟨u, L, rfl, h5⟩
  · rintro r h' ⟨u, L, rfl, h5⟩
    have e : deep (.tup [viewD (tickV v d).1, .lst 45 L u]) = .tup [viewD (tickV v d).1, msgsD (tickV v d).2] := by
      simp only [deep, deepL, deep_ints, h5]
    rw [e]
    exact ⟨⟨pure_view _, trivial, trivial⟩, rfl⟩
set_option maxRecDepth 8000 in
set_option maxHeartbeats 2000000 in
theorem overlay_fail (v : ViewR) (p d : Int) (ha : v.act.length < 100000) (hp : v.pas.length < 100000) :
    PSpec Tryz.prog CT 20 [viewD v, .lit (.int .i64 p), .lit (.int .i64 d)] (· = .tup [viewD (failV v p d).1, msgsD (failV v p d).2]) := by
  refine PSpec.ofDeep (R := fun r _ => ∃ u L, r = .tup [viewD (failV v p d).1, .lst 45 L u] ∧ deepL L = (failV v p d).2.map (rawM .no .no)) ?_ ?_
  · refine ASpec.of hT Tryz.func20 rfl (by kernel_rfl) rfl rfl ?_
    simp only [Tryz.f20, go_sem, reduceAdd, reduceSub, reduceMul, reduceLT, reduceLeDiff, ↓reduceIte, reduceCtorEq, reduceEqDiff, reduceToNat, Int.reduceLT, reduceLE, reduceEq, noHeap]
    have hs := begun_spec v d 51 [.ptr 1 []] [(viewSh', viewD v), (.leaf, .lit (.int .i64 p)), (viewSh', CT.zero 24)] [] (by omega) (by omega) (fun v' L => v' = (failV v p d).1 ∧ deepL L = (failV v p d).2.map (rawM .no .no)) (fun h => by
      have e : failV v p d = (v, []) := by rw [failV, h]; rfl
      rw [e]; exact ⟨rfl, rfl⟩) (fun hck ex b hbl hb => fail1 v p d hck ha hp _ [] b 1 hb rfl (by simp at hbl; omega))
    rw [zero24] at hs
    refine callK_a hs ?_
    rintro r h' ⟨v', L, u, bs', tk3, rfl, rfl, ⟨rfl, h5⟩, h2⟩
    have h3 : bs'[2]? = _ := (h2 2 (by simp)).trans rfl
    have hl3 := (List.getElem?_eq_some_iff.1 h3).1
    have h4 : ∀ y, (bs'.set 2 y)[2]? = some y := fun y => List.getElem?_set_self hl3
    simp only [go_sem, reduceAdd, reduceSub, reduceMul, reduceLT, reduceLeDiff, ↓reduceIte, reduceCtorEq, reduceEqDiff, reduceToNat, Int.reduceLT, reduceLE, reduceEq, h3, h4]
    exact ⟨u, L, rfl, h5⟩
  · rintro r h' ⟨u, L, rfl, h5⟩
    have e : deep (.tup [viewD (failV v p d).1, .lst 45 L u]) = .tup [viewD (failV v p d).1, msgsD (failV v p d).2] := by
      simp only [deep, deepL, deep_ints, h5]
    rw [e]
    exact ⟨⟨pure_view _, trivial, trivial⟩, rfl⟩
end Go.Ab
