/- The law of suffixes. Conditions: none. -/
import Derived.Test.YtebfpijbnklaiaaDiG
import Derived.Test.YtebfpijbnklaiaaTxJ
set_option linter.unusedSimpArgs false
namespace Go.Ab
open Go.Proofs

/-- A loop that is left one way: what holds then. -/
def exitJ (i : Nat) (J : St → Prop) : AExit → St → Prop := fun e s => match e with | .exit k => k = i ∧ J s | _ => False
theorem exitJ_same (i : Nat) (J : St → Prop) (ts : List D) (h : Heap) : exitJ i J (.exit i) ⟨ts, h⟩ = J ⟨ts, h⟩ := by simp [exitJ]
attribute [go_sem] exitJ_same
theorem awp_loopJ {P : Program} {C : Tab} {c : Code} {Q : AExit → St → Prop} {s : St} (i : Nat) (J : St → Prop) (I : Nat → St → Prop) (n : Nat) (h0 : I n s) (hr : ∀ n s, I n s → awp P C c (AExit.then (fun s' => ∃ m, m < n ∧ I m s') (exitJ i J)) s) (hj : ∀ s, J s → Q (.exit i) s) : awp P C (.loop c) Q s :=
  awp_loop I n h0 fun n s hI => awp_mono (fun e s h => by
    cases e with
    | normal => exact h
    | exit k => obtain ⟨rfl, h⟩ := h; exact hj s h
    | ret => exact h.elim) (hr n s hI)
theorem tmod1000 (x : Int) (h : 0 ≤ x) : x.tmod 1000 = ((x.toNat % 1000 : Nat) : Int) := by
  obtain ⟨n, rfl⟩ := Int.eq_ofNat_of_zero_le h
  exact tmodNat n 1000
theorem map_takeT (o : List TxR) (k : Nat) : (o.map txD).take k = (o.take k).map txD := by simp
theorem map_dropT (o : List TxR) (k : Nat) : (o.map txD).drop k = (o.drop k).map txD := by simp
set_option maxRecDepth 16000 in
set_option maxHeartbeats 1000000 in
theorem law_dsuffix (l : List TxR) (a b c d e : Int) (ho : TxsOk l) :
    PSpec Try.prog CT 5 [txsD l, .lit (.int .i64 a), .lit (.int .i64 b), .lit (.int .i64 c), .lit (.int .i64 d), .lit (.int .i64 e)] (· = .bool true) := by
  refine PSpec.of hT Try.func5 rfl (by kernel_rfl) rfl rfl ?_
  simp only [Try.f5, go_sem, Nat.reduceAdd, Nat.reduceSub, Nat.reduceMul, Nat.reduceLT, Nat.reduceLeDiff, ↓reduceIte, reduceCtorEq, Nat.reduceEqDiff, Int.reduceToNat, Int.reduceLT, Int.reduceLE, Int.reduceEq, beq_self_eq_true]
  refine callK_pure (ref_few l ho) (by simp only [go_sem, Nat.reduceAdd, Nat.reduceSub, Nat.reduceMul, Nat.reduceLT, Nat.reduceLeDiff, ↓reduceIte, reduceCtorEq, Nat.reduceEqDiff, Int.reduceToNat, Int.reduceLT, Int.reduceLE, Int.reduceEq, beq_self_eq_true, pureL_txs]) (by simp only [go_sem, Nat.reduceAdd, Nat.reduceSub, Nat.reduceMul, Nat.reduceLT, Nat.reduceLeDiff, ↓reduceIte, reduceCtorEq, Nat.reduceEqDiff, Int.reduceToNat, Int.reduceLT, Int.reduceLE, Int.reduceEq, beq_self_eq_true, pureL_txs]) ?_; simp only [go_sem, Nat.reduceAdd, Nat.reduceSub, Nat.reduceMul, Nat.reduceLT, Nat.reduceLeDiff, ↓reduceIte, reduceCtorEq, Nat.reduceEqDiff, Int.reduceToNat, Int.reduceLT, Int.reduceLE, Int.reduceEq, beq_self_eq_true, pureL_txs]
  (repeat' (first | ((refine guardK_split (fun hg => ?_) (fun hg => ?_)) <;> (try simp only [go_sem, Nat.reduceAdd, Nat.reduceSub, Nat.reduceMul, Nat.reduceLT, Nat.reduceLeDiff, ↓reduceIte, reduceCtorEq, Nat.reduceEqDiff, Int.reduceToNat, Int.reduceLT, Int.reduceLE, Int.reduceEq, beq_self_eq_true, hg])) | ((refine condK_split (fun hg => ?_) (fun hg => ?_)) <;> (try simp only [go_sem, Nat.reduceAdd, Nat.reduceSub, Nat.reduceMul, Nat.reduceLT, Nat.reduceLeDiff, ↓reduceIte, reduceCtorEq, Nat.reduceEqDiff, Int.reduceToNat, Int.reduceLT, Int.reduceLE, Int.reduceEq, beq_self_eq_true, hg])) | (refine callK_pure (heads28) ?_ ?_ ?_; (focus (first | rfl | (simp only [go_sem, Nat.reduceAdd, Nat.reduceSub, Nat.reduceMul, Nat.reduceLT, Nat.reduceLeDiff, ↓reduceIte, reduceCtorEq, Nat.reduceEqDiff, Int.reduceToNat, Int.reduceLT, Int.reduceLE, Int.reduceEq, beq_self_eq_true]; done))); (focus (simp only [go_sem, Nat.reduceAdd, Nat.reduceSub, Nat.reduceMul, Nat.reduceLT, Nat.reduceLeDiff, ↓reduceIte, reduceCtorEq, Nat.reduceEqDiff, Int.reduceToNat, Int.reduceLT, Int.reduceLE, Int.reduceEq, beq_self_eq_true]; done)); try simp only [go_sem, Nat.reduceAdd, Nat.reduceSub, Nat.reduceMul, Nat.reduceLT, Nat.reduceLeDiff, ↓reduceIte, reduceCtorEq, Nat.reduceEqDiff, Int.reduceToNat, Int.reduceLT, Int.reduceLE, Int.reduceEq, beq_self_eq_true]) | (refine callD_pure (heads28) ?_ ?_ ?_; (focus (first | rfl | (simp only [go_sem, Nat.reduceAdd, Nat.reduceSub, Nat.reduceMul, Nat.reduceLT, Nat.reduceLeDiff, ↓reduceIte, reduceCtorEq, Nat.reduceEqDiff, Int.reduceToNat, Int.reduceLT, Int.reduceLE, Int.reduceEq, beq_self_eq_true]; done))); (focus (simp only [go_sem, Nat.reduceAdd, Nat.reduceSub, Nat.reduceMul, Nat.reduceLT, Nat.reduceLeDiff, ↓reduceIte, reduceCtorEq, Nat.reduceEqDiff, Int.reduceToNat, Int.reduceLT, Int.reduceLE, Int.reduceEq, beq_self_eq_true]; done)); try simp only [go_sem, Nat.reduceAdd, Nat.reduceSub, Nat.reduceMul, Nat.reduceLT, Nat.reduceLeDiff, ↓reduceIte, reduceCtorEq, Nat.reduceEqDiff, Int.reduceToNat, Int.reduceLT, Int.reduceLE, Int.reduceEq, beq_self_eq_true]) | ((refine Or.inl ⟨by kernel_rfl, ?_⟩) <;> (try simp only [go_sem, Nat.reduceAdd, Nat.reduceSub, Nat.reduceMul, Nat.reduceLT, Nat.reduceLeDiff, ↓reduceIte, reduceCtorEq, Nat.reduceEqDiff, Int.reduceToNat, Int.reduceLT, Int.reduceLE, Int.reduceEq, beq_self_eq_true])))) <;> (first | done | skip)
  rename_i g1 g2 g3 g4 g5
  simp only [Bool.not_eq_false', decide_eq_false_iff_not] at g1 g2 g3 g4 g5 hg
  obtain ⟨hl40, hops⟩ := few_len g1
  have hd13 : ∀ t ∈ l, t.deps.length = 13 := fun t ht => (ho t ht).1
  have hsq : l.length * l.length ≤ 40 * 40 := Nat.mul_le_mul hl40 hl40
  obtain ⟨fa, hfa⟩ : ∃ f : Nat, f = a.toNat % 1000 := ⟨_, rfl⟩
  obtain ⟨fc, hfc⟩ : ∃ f : Nat, f = c.toNat % 1000 := ⟨_, rfl⟩
  have ta : a.tmod 1000 = (fa : Int) := by rw [tmod1000 a (by omega), hfa]
  have tc : c.tmod 1000 = (fc : Int) := by rw [tmod1000 c (by omega), hfc]
  have ma := Nat.mod_lt a.toNat (show 0 < 1000 by omega)
  have mc := Nat.mod_lt c.toNat (show 0 < 1000 by omega)
  have ga := good_deliver l fa
  have gc := good_deliver l fc
  have la := deliver_len l fa
  have lc := deliver_len l fc
  have va : (deliverR l fa).1.length = 13 := by rw [ga.vec]; exact vecOf_len _
  have vc : (deliverR l fc).1.length = 13 := by rw [gc.vec]; exact vecOf_len _
  simp only [go_sem, Nat.reduceAdd, Nat.reduceSub, Nat.reduceMul, Nat.reduceLT, Nat.reduceLeDiff, ↓reduceIte, reduceCtorEq, Nat.reduceEqDiff, Int.reduceToNat, Int.reduceLT, Int.reduceLE, Int.reduceEq, beq_self_eq_true, ta, tc]
  refine callK_pure (ref_deliver l fa ho hl40 (by omega)) (by simp only [go_sem, Nat.reduceAdd, Nat.reduceSub, Nat.reduceMul, Nat.reduceLT, Nat.reduceLeDiff, ↓reduceIte, reduceCtorEq, Nat.reduceEqDiff, Int.reduceToNat, Int.reduceLT, Int.reduceLE, Int.reduceEq, beq_self_eq_true, ta, tc, pureL_txs, va, vc]) (by simp only [go_sem, Nat.reduceAdd, Nat.reduceSub, Nat.reduceMul, Nat.reduceLT, Nat.reduceLeDiff, ↓reduceIte, reduceCtorEq, Nat.reduceEqDiff, Int.reduceToNat, Int.reduceLT, Int.reduceLE, Int.reduceEq, beq_self_eq_true, ta, tc, pureL_txs, va, vc]) ?_; simp only [go_sem, Nat.reduceAdd, Nat.reduceSub, Nat.reduceMul, Nat.reduceLT, Nat.reduceLeDiff, ↓reduceIte, reduceCtorEq, Nat.reduceEqDiff, Int.reduceToNat, Int.reduceLT, Int.reduceLE, Int.reduceEq, beq_self_eq_true, ta, tc, pureL_txs, va, vc]
  refine callK_pure (ref_deliver l fc ho hl40 (by omega)) (by simp only [go_sem, Nat.reduceAdd, Nat.reduceSub, Nat.reduceMul, Nat.reduceLT, Nat.reduceLeDiff, ↓reduceIte, reduceCtorEq, Nat.reduceEqDiff, Int.reduceToNat, Int.reduceLT, Int.reduceLE, Int.reduceEq, beq_self_eq_true, ta, tc, pureL_txs, va, vc]) (by simp only [go_sem, Nat.reduceAdd, Nat.reduceSub, Nat.reduceMul, Nat.reduceLT, Nat.reduceLeDiff, ↓reduceIte, reduceCtorEq, Nat.reduceEqDiff, Int.reduceToNat, Int.reduceLT, Int.reduceLE, Int.reduceEq, beq_self_eq_true, ta, tc, pureL_txs, va, vc]) ?_; simp only [go_sem, Nat.reduceAdd, Nat.reduceSub, Nat.reduceMul, Nat.reduceLT, Nat.reduceLeDiff, ↓reduceIte, reduceCtorEq, Nat.reduceEqDiff, Int.reduceToNat, Int.reduceLT, Int.reduceLE, Int.reduceEq, beq_self_eq_true, ta, tc, pureL_txs, va, vc]
  obtain ⟨nb, rfl⟩ : ∃ n : Nat, b = (n : Int) := ⟨b.toNat, by omega⟩
  obtain ⟨nd, rfl⟩ : ∃ n : Nat, d = (n : Int) := ⟨d.toNat, by omega⟩
  have ra := runs_of ga (nb % ((deliverR l fa).2.length + 1))
  have rc := runs_of gc (nd % ((deliverR l fc).2.length + 1))
  have mema := ga.mem
  have memc := gc.mem
  generalize (deliverR l fa).2 = oa at la ra mema ⊢
  generalize (deliverR l fc).2 = oc at lc rc memc ⊢
  have ka := Nat.mod_lt nb (show 0 < oa.length + 1 by omega)
  have kc := Nat.mod_lt nd (show 0 < oc.length + 1 by omega)
  have na : ((oa.length + 1 : Nat) : Int) ≠ 0 := by omega
  have nc : ((oc.length + 1 : Nat) : Int) ≠ 0 := by omega
  have ka' : nb % (oa.length + 1) ≤ oa.length := by omega
  have kc' : nd % (oc.length + 1) ≤ oc.length := by omega
  simp only [go_sem, Nat.reduceAdd, Nat.reduceSub, Nat.reduceMul, Nat.reduceLT, Nat.reduceLeDiff, ↓reduceIte, reduceCtorEq, Nat.reduceEqDiff, Int.reduceToNat, Int.reduceLT, Int.reduceLE, Int.reduceEq, beq_self_eq_true, wrapNat oa.length (by omega), wrapNat oc.length (by omega), na, nc, tmodNat, ka', kc', map_takeT]
  refine .inl ⟨by kernel_rfl, ?_⟩
  have okA : TxsOk (oa.take (nb % (oa.length + 1))) := fun t ht => ho t (mema t (List.mem_of_mem_take ht))
  have okT : TxsOk (oc.take (nd % (oc.length + 1))) := fun t ht => ho t (memc t (List.mem_of_mem_take ht))
  have lA : (oa.take (nb % (oa.length + 1))).length ≤ 2000 := by simp; omega
  have lT : (oc.take (nd % (oc.length + 1))).length ≤ 2000 := by simp; omega
  generalize oa.take (nb % (oa.length + 1)) = A at ra okA lA ⊢
  generalize oc.take (nd % (oc.length + 1)) = T at rc okT lT ⊢
  have pA : ∀ k, k < A.length → vpeer (txAt A k).peer = true := fun k hk => (ready_facts (ra.rdy k hk)).1
  have pT : ∀ k, k < T.length → vpeer (txAt T k).peer = true := fun k hk => (ready_facts (rc.rdy k hk)).1
  have dA : ∀ k, k < A.length → (txAt A k).deps.length = 13 := fun k hk => (txsOk_at okA hk).1
  have nnT : ∀ p, p < 13 → 0 ≤ (vecOf T).getD p 0 := fun p hp => by have := vec_nonneg rc p hp (Nat.le_refl T.length); rwa [List.take_length] at this
  have vA := vecOf_len A
  have vT := vecOf_len T
  refine callK_pure (law_count A okA lA pA) (by simp only [go_sem, Nat.reduceAdd, Nat.reduceSub, Nat.reduceMul, Nat.reduceLT, Nat.reduceLeDiff, ↓reduceIte, reduceCtorEq, Nat.reduceEqDiff, Int.reduceToNat, Int.reduceLT, Int.reduceLE, Int.reduceEq, beq_self_eq_true, pureL_txs, vA, vT]) (by simp only [go_sem, Nat.reduceAdd, Nat.reduceSub, Nat.reduceMul, Nat.reduceLT, Nat.reduceLeDiff, ↓reduceIte, reduceCtorEq, Nat.reduceEqDiff, Int.reduceToNat, Int.reduceLT, Int.reduceLE, Int.reduceEq, beq_self_eq_true, pureL_txs, vA, vT]) ?_; simp only [go_sem, Nat.reduceAdd, Nat.reduceSub, Nat.reduceMul, Nat.reduceLT, Nat.reduceLeDiff, ↓reduceIte, reduceCtorEq, Nat.reduceEqDiff, Int.reduceToNat, Int.reduceLT, Int.reduceLE, Int.reduceEq, beq_self_eq_true, pureL_txs, vA, vT]
  refine callK_pure (law_count T okT lT pT) (by simp only [go_sem, Nat.reduceAdd, Nat.reduceSub, Nat.reduceMul, Nat.reduceLT, Nat.reduceLeDiff, ↓reduceIte, reduceCtorEq, Nat.reduceEqDiff, Int.reduceToNat, Int.reduceLT, Int.reduceLE, Int.reduceEq, beq_self_eq_true, pureL_txs, vA, vT]) (by simp only [go_sem, Nat.reduceAdd, Nat.reduceSub, Nat.reduceMul, Nat.reduceLT, Nat.reduceLeDiff, ↓reduceIte, reduceCtorEq, Nat.reduceEqDiff, Int.reduceToNat, Int.reduceLT, Int.reduceLE, Int.reduceEq, beq_self_eq_true, pureL_txs, vA, vT]) ?_; simp only [go_sem, Nat.reduceAdd, Nat.reduceSub, Nat.reduceMul, Nat.reduceLT, Nat.reduceLeDiff, ↓reduceIte, reduceCtorEq, Nat.reduceEqDiff, Int.reduceToNat, Int.reduceLT, Int.reduceLE, Int.reduceEq, beq_self_eq_true, pureL_txs, vA, vT]
  generalize (deliverR l fa).1 = x1 at va ⊢
  generalize (deliverR l fc).1 = x2 at vc ⊢
  refine awp_loopJ 0 (fun s => (fun m s => ∃ (k : Nat) (g : Nat → D), s = ⟨[g 0, g 1, g 2, g 3, g 4, g 5, g 6, g 7, g 8, g 9, g 10, g 11, g 12, txsD A, g 14, g 15, g 16, .ptr 2 [], .ptr 3 [], .lit (.int .i64 k), g 20, g 21, g 22, g 23, g 24, g 25, g 26, g 27, g 28, g 29, g 30, g 31, g 32, g 33, g 34, g 35, g 36, g 37, g 38, g 39, g 40, g 41, g 42, g 43, g 44, g 45, g 46, g 47, g 48, g 49, g 50, g 51, g 52, g 53, g 54, g 55, g 56, g 57, g 58, g 59, g 60, g 61, g 62, g 63, g 64, g 65, g 66, g 67, g 68, g 69, g 70, g 71, g 72, g 73, g 74, g 75, g 76, g 77, g 78, g 79, g 80, g 81, g 82, g 83, g 84, g 85, g 86, g 87, g 88, g 89, g 90, g 91, g 92, g 93, g 94, g 95, g 96, g 97, g 98, g 99, g 100, g 101, g 102, g 103, g 104, g 105, g 106, g 107, g 108, g 109, g 110, g 111, g 112, g 113, g 114, g 115, g 116, g 117, g 118, g 119, g 120, g 121, g 122, g 123, g 124, g 125, g 126, g 127, g 128, g 129, g 130, g 131, g 132, g 133, g 134, g 135, g 136, g 137, g 138, g 139, g 140, g 141, g 142, g 143, g 144, g 145, g 146, g 147, g 148, g 149, g 150, g 151, g 152, g 153, g 154, g 155, g 156, g 157], ⟨[(.arr 13 .leaf, ints x1), (.arr 13 .leaf, ints x2), (.arr 13 .leaf, ints (vecOf A)), (.arr 13 .leaf, ints (vecOf T))], []⟩⟩ ∧ m = 0 ∧ k ≤ A.length ∧ ∀ j, j < k → vhas (vecOf T) (txAt A j).peer (txAt A j).seq = true) 0 s)
    (fun m s => ∃ (k : Nat) (g : Nat → D), s = ⟨[g 0, g 1, g 2, g 3, g 4, .lit (.int .i64 e), g 6, g 7, g 8, g 9, g 10, g 11, g 12, txsD A, g 14, g 15, g 16, .ptr 2 [], .ptr 3 [], .lit (.int .i64 k), g 20, g 21, g 22, g 23, g 24, g 25, g 26, g 27, g 28, g 29, g 30, g 31, g 32, g 33, g 34, g 35, g 36, g 37, g 38, g 39, g 40, g 41, g 42, g 43, g 44, g 45, g 46, g 47, g 48, g 49, g 50, g 51, g 52, g 53, g 54, g 55, g 56, g 57, g 58, g 59, g 60, g 61, g 62, g 63, g 64, g 65, g 66, g 67, g 68, g 69, g 70, g 71, g 72, g 73, g 74, g 75, g 76, g 77, g 78, g 79, g 80, g 81, g 82, g 83, g 84, g 85, g 86, g 87, g 88, g 89, g 90, g 91, g 92, g 93, g 94, g 95, g 96, g 97, g 98, g 99, g 100, g 101, g 102, g 103, g 104, g 105, g 106, g 107, g 108, g 109, g 110, g 111, g 112, g 113, g 114, g 115, g 116, g 117, g 118, g 119, g 120, g 121, g 122, g 123, g 124, g 125, g 126, g 127, g 128, g 129, g 130, g 131, g 132, g 133, g 134, g 135, g 136, g 137, g 138, g 139, g 140, g 141, g 142, g 143, g 144, g 145, g 146, g 147, g 148, g 149, g 150, g 151, g 152, g 153, g 154, g 155, g 156, g 157], ⟨[(.arr 13 .leaf, ints x1), (.arr 13 .leaf, ints x2), (.arr 13 .leaf, ints (vecOf A)), (.arr 13 .leaf, ints (vecOf T))], []⟩⟩ ∧ m = A.length - k ∧ k ≤ A.length ∧ ∀ j, j < k → vhas (vecOf T) (txAt A j).peer (txAt A j).seq = true) A.length ⟨0, reg_intro rfl rfl ⟨by simp, by omega, by simp⟩⟩ ?_ ?_
  · rintro m s ⟨k, g, rfl, hn, hk, hh⟩
    simp only [go_sem, Nat.reduceAdd, Nat.reduceSub, Nat.reduceMul, Nat.reduceLT, Nat.reduceLeDiff, ↓reduceIte, reduceCtorEq, Nat.reduceEqDiff, Int.reduceToNat, Int.reduceLT, Int.reduceLE, Int.reduceEq, beq_self_eq_true, va, vc, vA, vT]
    refine .inl ⟨by kernel_rfl, ?_⟩
    refine guardK_split (fun h1 => ?_) (fun h1 => ?_)
    · have hk' : k < A.length := by have := of_decide_eq_true h1; omega
      have hdA := dA k hk'
      simp only [go_sem, Nat.reduceAdd, Nat.reduceSub, Nat.reduceMul, Nat.reduceLT, Nat.reduceLeDiff, ↓reduceIte, reduceCtorEq, Nat.reduceEqDiff, Int.reduceToNat, Int.reduceLT, Int.reduceLE, Int.reduceEq, beq_self_eq_true, h1]
      refine guardK_split (fun h2 => ?_) (fun h2 => ?_)
      · simp only [go_sem, Nat.reduceAdd, Nat.reduceSub, Nat.reduceMul, Nat.reduceLT, Nat.reduceLeDiff, ↓reduceIte, reduceCtorEq, Nat.reduceEqDiff, Int.reduceToNat, Int.reduceLT, Int.reduceLE, Int.reduceEq, beq_self_eq_true, h1, h2, hk', get_txs, va, vc, vA, vT, hdA]
        refine callD_pure (ref_has (vecOf T) (txAt A k).peer (txAt A k).seq vT) (by simp only [go_sem, Nat.reduceAdd, Nat.reduceSub, Nat.reduceMul, Nat.reduceLT, Nat.reduceLeDiff, ↓reduceIte, reduceCtorEq, Nat.reduceEqDiff, Int.reduceToNat, Int.reduceLT, Int.reduceLE, Int.reduceEq, beq_self_eq_true, h1, h2, hk', get_txs, va, vc, vA, vT, hdA]) (by simp only [go_sem, Nat.reduceAdd, Nat.reduceSub, Nat.reduceMul, Nat.reduceLT, Nat.reduceLeDiff, ↓reduceIte, reduceCtorEq, Nat.reduceEqDiff, Int.reduceToNat, Int.reduceLT, Int.reduceLE, Int.reduceEq, beq_self_eq_true, h1, h2, hk', get_txs, va, vc, vA, vT, hdA]) ?_; simp only [go_sem, Nat.reduceAdd, Nat.reduceSub, Nat.reduceMul, Nat.reduceLT, Nat.reduceLeDiff, ↓reduceIte, reduceCtorEq, Nat.reduceEqDiff, Int.reduceToNat, Int.reduceLT, Int.reduceLE, Int.reduceEq, beq_self_eq_true, h1, h2, hk', get_txs, va, vc, vA, vT, hdA]
        refine condK_split (fun h3 => ?_) (fun h3 => ?_)
        · simp only [go_sem, Nat.reduceAdd, Nat.reduceSub, Nat.reduceMul, Nat.reduceLT, Nat.reduceLeDiff, ↓reduceIte, reduceCtorEq, Nat.reduceEqDiff, Int.reduceToNat, Int.reduceLT, Int.reduceLE, Int.reduceEq, beq_self_eq_true, h1, h2, h3, wrapNat k (by omega)]
          refine ⟨A.length - (k + 1), by omega, k + 1, reg_intro rfl rfl ⟨rfl, by omega, fun j hj => ?_⟩⟩
          by_cases ej : j = k
          · rw [ej]; exact h3
          · exact hh j (by omega)
        · simp only [go_sem, Nat.reduceAdd, Nat.reduceSub, Nat.reduceMul, Nat.reduceLT, Nat.reduceLeDiff, ↓reduceIte, reduceCtorEq, Nat.reduceEqDiff, Int.reduceToNat, Int.reduceLT, Int.reduceLE, Int.reduceEq, beq_self_eq_true, h1, h2, h3]
          exact ⟨k, reg_intro rfl rfl ⟨hk, hh⟩⟩
      · simp only [go_sem, Nat.reduceAdd, Nat.reduceSub, Nat.reduceMul, Nat.reduceLT, Nat.reduceLeDiff, ↓reduceIte, reduceCtorEq, Nat.reduceEqDiff, Int.reduceToNat, Int.reduceLT, Int.reduceLE, Int.reduceEq, beq_self_eq_true, h1, h2]
        exact ⟨k, reg_intro rfl rfl ⟨hk, hh⟩⟩
    · simp only [go_sem, Nat.reduceAdd, Nat.reduceSub, Nat.reduceMul, Nat.reduceLT, Nat.reduceLeDiff, ↓reduceIte, reduceCtorEq, Nat.reduceEqDiff, Int.reduceToNat, Int.reduceLT, Int.reduceLE, Int.reduceEq, beq_self_eq_true, h1]
      exact ⟨k, reg_intro rfl rfl ⟨hk, hh⟩⟩
  rintro s ⟨k, g, rfl, _, hk, hh⟩
  simp only [go_sem, Nat.reduceAdd, Nat.reduceSub, Nat.reduceMul, Nat.reduceLT, Nat.reduceLeDiff, ↓reduceIte, reduceCtorEq, Nat.reduceEqDiff, Int.reduceToNat, Int.reduceLT, Int.reduceLE, Int.reduceEq, beq_self_eq_true, va, vc, vA, vT]
  have h0 := pruned_le ra vT nnT hk hh
  have hle : vleq (vecOf (A.take k)) (vecOf T) = true := decide_eq_true h0
  have ok1 : TxsOk (A.take k) := fun t ht => okA t (List.mem_of_mem_take ht)
  have ok2 : TxsOk (A.drop k) := fun t ht => okA t (List.mem_of_mem_drop ht)
  have l1 : (A.take k).length ≤ 2000 := by simp; omega
  have l2 : (A.drop k).length ≤ 2000 := by simp; omega
  have p1 : ∀ j, j < (A.take k).length → vpeer (txAt (A.take k) j).peer = true := fun j hj => by
    have hj' : j < k ∧ j < A.length := by simp at hj; omega
    have e2 : txAt (A.take k) j = txAt A j := by
      unfold txAt
      rw [List.getD_eq_getElem?_getD, List.getD_eq_getElem?_getD, List.getElem?_take_of_lt hj'.1]
    rw [e2]; exact pA j hj'.2
  have v1 := vecOf_len (A.take k)
  have hready := fun (i : Nat) (hi : i < (lackR (A.drop k) (vecOf T)).length) => sent_ready ra vT dA hk h0 hi
  have hall := sent_all ra vT dA hk h0
  have hnone := sent_none ra vT dA hk h0
  have okS : TxsOk (lackR (A.drop k) (vecOf T)) := lackR_ok _ ok2
  have lS : (lackR (A.drop k) (vecOf T)).length ≤ 2000 := Nat.le_trans (lackR_len _ _) l2
  have dj := digest_suffix (A.drop k) (vecOf (A.take k)) (vecOf T) v1 vT ok2 l2
  rw [hle, if_pos rfl] at dj
  generalize lackR (A.drop k) (vecOf T) = S at hready hall hnone okS lS dj
  simp only [go_sem, Nat.reduceAdd, Nat.reduceSub, Nat.reduceMul, Nat.reduceLT, Nat.reduceLeDiff, ↓reduceIte, reduceCtorEq, Nat.reduceEqDiff, Int.reduceToNat, Int.reduceLT, Int.reduceLE, Int.reduceEq, beq_self_eq_true, va, vc, vA, vT, hk, map_takeT, map_dropT]
  refine .inl ⟨by kernel_rfl, ?_⟩
  refine callD_pure (law_count (A.take k) ok1 l1 p1) (by simp only [go_sem, Nat.reduceAdd, Nat.reduceSub, Nat.reduceMul, Nat.reduceLT, Nat.reduceLeDiff, ↓reduceIte, reduceCtorEq, Nat.reduceEqDiff, Int.reduceToNat, Int.reduceLT, Int.reduceLE, Int.reduceEq, beq_self_eq_true, pureL_txs, va, vc, vA, vT, v1, map_takeT, map_dropT]) (by simp only [go_sem, Nat.reduceAdd, Nat.reduceSub, Nat.reduceMul, Nat.reduceLT, Nat.reduceLeDiff, ↓reduceIte, reduceCtorEq, Nat.reduceEqDiff, Int.reduceToNat, Int.reduceLT, Int.reduceLE, Int.reduceEq, beq_self_eq_true, pureL_txs, va, vc, vA, vT, v1, map_takeT, map_dropT]) ?_; simp only [go_sem, Nat.reduceAdd, Nat.reduceSub, Nat.reduceMul, Nat.reduceLT, Nat.reduceLeDiff, ↓reduceIte, reduceCtorEq, Nat.reduceEqDiff, Int.reduceToNat, Int.reduceLT, Int.reduceLE, Int.reduceEq, beq_self_eq_true, pureL_txs, va, vc, vA, vT, v1, map_takeT, map_dropT]
  refine callD_pure (dj) (by simp only [go_sem, Nat.reduceAdd, Nat.reduceSub, Nat.reduceMul, Nat.reduceLT, Nat.reduceLeDiff, ↓reduceIte, reduceCtorEq, Nat.reduceEqDiff, Int.reduceToNat, Int.reduceLT, Int.reduceLE, Int.reduceEq, beq_self_eq_true, pureL_txs, va, vc, vA, vT, v1]) (by simp only [go_sem, Nat.reduceAdd, Nat.reduceSub, Nat.reduceMul, Nat.reduceLT, Nat.reduceLeDiff, ↓reduceIte, reduceCtorEq, Nat.reduceEqDiff, Int.reduceToNat, Int.reduceLT, Int.reduceLE, Int.reduceEq, beq_self_eq_true, pureL_txs, va, vc, vA, vT, v1]) ?_; simp only [go_sem, Nat.reduceAdd, Nat.reduceSub, Nat.reduceMul, Nat.reduceLT, Nat.reduceLeDiff, ↓reduceIte, reduceCtorEq, Nat.reduceEqDiff, Int.reduceToNat, Int.reduceLT, Int.reduceLE, Int.reduceEq, beq_self_eq_true, pureL_txs, va, vc, vA, vT, v1]
  refine awp_loop (fun n s => ∃ (i : Nat) (v : List Int) (g : Nat → D), s = ⟨[g 0, g 1, g 2, g 3, g 4, g 5, g 6, g 7, g 8, g 9, g 10, g 11, g 12, g 13, g 14, g 15, g 16, .ptr 2 [], .ptr 3 [], g 19, txsD S, g 21, .ptr 4 [], .lit (.int .i64 i), g 24, g 25, g 26, g 27, g 28, g 29, g 30, g 31, g 32, g 33, g 34, g 35, g 36, g 37, g 38, g 39, g 40, g 41, g 42, g 43, g 44, g 45, g 46, g 47, g 48, g 49, g 50, g 51, g 52, g 53, g 54, g 55, g 56, g 57, g 58, g 59, g 60, g 61, g 62, g 63, g 64, g 65, g 66, g 67, g 68, g 69, g 70, g 71, g 72, g 73, g 74, g 75, g 76, g 77, g 78, g 79, g 80, g 81, g 82, g 83, g 84, g 85, g 86, g 87, g 88, g 89, g 90, g 91, g 92, g 93, g 94, g 95, g 96, g 97, g 98, g 99, g 100, g 101, g 102, g 103, g 104, g 105, g 106, g 107, g 108, g 109, g 110, g 111, g 112, g 113, g 114, g 115, g 116, g 117, g 118, g 119, g 120, g 121, g 122, g 123, g 124, g 125, g 126, g 127, g 128, g 129, g 130, g 131, g 132, g 133, g 134, g 135, g 136, g 137, g 138, g 139, g 140, g 141, g 142, g 143, g 144, g 145, g 146, g 147, g 148, g 149, g 150, g 151, g 152, g 153, g 154, g 155, g 156, g 157], ⟨[(.arr 13 .leaf, ints x1), (.arr 13 .leaf, ints x2), (.arr 13 .leaf, ints (vecOf A)), (.arr 13 .leaf, ints (vecOf T)), (.arr 13 .leaf, ints v)], []⟩⟩ ∧ n = S.length - i ∧ i ≤ S.length ∧ v = (S.take i).foldl setT (vecOf T)) S.length ⟨0, vecOf T, reg_intro rfl rfl ⟨by simp, by omega, rfl⟩⟩ ?_
  rintro n s ⟨i, v, g, rfl, hn, hi, hv⟩
  have lv : v.length = 13 := by rw [hv, foldT_len]; exact vT
  simp only [go_sem, Nat.reduceAdd, Nat.reduceSub, Nat.reduceMul, Nat.reduceLT, Nat.reduceLeDiff, ↓reduceIte, reduceCtorEq, Nat.reduceEqDiff, Int.reduceToNat, Int.reduceLT, Int.reduceLE, Int.reduceEq, beq_self_eq_true, va, vc, vA, vT, lv]
  refine condK_split (fun hc => ?_) (fun hc => ?_)
  · have hi' : i < S.length := by have := of_decide_eq_true hc; omega
    obtain ⟨hr, hpeer⟩ := hready i hi'
    rw [← hv] at hr
    obtain ⟨hdS, _⟩ := txsOk_at okS hi'
    obtain ⟨q0, q1⟩ := vpeer_of hpeer
    have hs : (S.take (i + 1)).foldl setT (vecOf T) = v.set (txAt S i).peer.toNat (txAt S i).seq := by rw [txTake S i hi', List.foldl_append, ← hv]; rfl
    simp only [go_sem, Nat.reduceAdd, Nat.reduceSub, Nat.reduceMul, Nat.reduceLT, Nat.reduceLeDiff, ↓reduceIte, reduceCtorEq, Nat.reduceEqDiff, Int.reduceToNat, Int.reduceLT, Int.reduceLE, Int.reduceEq, beq_self_eq_true, va, vc, vA, vT, lv, hi', get_txs, hdS]
    refine .inl ⟨by kernel_rfl, ?_⟩
    refine callD_pure (ref_ready v (txAt S i) lv hdS) (by simp only [go_sem, Nat.reduceAdd, Nat.reduceSub, Nat.reduceMul, Nat.reduceLT, Nat.reduceLeDiff, ↓reduceIte, reduceCtorEq, Nat.reduceEqDiff, Int.reduceToNat, Int.reduceLT, Int.reduceLE, Int.reduceEq, beq_self_eq_true, va, vc, vA, vT, lv, hi', get_txs, hdS, hr, pureL_ops]) (by simp only [go_sem, Nat.reduceAdd, Nat.reduceSub, Nat.reduceMul, Nat.reduceLT, Nat.reduceLeDiff, ↓reduceIte, reduceCtorEq, Nat.reduceEqDiff, Int.reduceToNat, Int.reduceLT, Int.reduceLE, Int.reduceEq, beq_self_eq_true, va, vc, vA, vT, lv, hi', get_txs, hdS, hr, pureL_ops]) ?_; simp only [go_sem, Nat.reduceAdd, Nat.reduceSub, Nat.reduceMul, Nat.reduceLT, Nat.reduceLeDiff, ↓reduceIte, reduceCtorEq, Nat.reduceEqDiff, Int.reduceToNat, Int.reduceLT, Int.reduceLE, Int.reduceEq, beq_self_eq_true, va, vc, vA, vT, lv, hi', get_txs, hdS, hr, pureL_ops]
    simp only [go_sem, Nat.reduceAdd, Nat.reduceSub, Nat.reduceMul, Nat.reduceLT, Nat.reduceLeDiff, ↓reduceIte, reduceCtorEq, Nat.reduceEqDiff, Int.reduceToNat, Int.reduceLT, Int.reduceLE, Int.reduceEq, beq_self_eq_true, va, vc, vA, vT, lv, hi', get_txs, hdS, q0, q1, wrapNat i (by omega)]
    refine .inl ⟨by kernel_rfl, ?_⟩
    exact ⟨S.length - (i + 1), by omega, i + 1, _, reg_intro rfl rfl ⟨rfl, by omega, hs.symm⟩⟩
  · have hii := of_decide_eq_false hc
    obtain rfl : i = S.length := by omega
    rw [List.take_length, hall] at hv
    have lj := vjoin_len _ _ vA vT
    simp only [go_sem, Nat.reduceAdd, Nat.reduceSub, Nat.reduceMul, Nat.reduceLT, Nat.reduceLeDiff, ↓reduceIte, reduceCtorEq, Nat.reduceEqDiff, Int.reduceToNat, Int.reduceLT, Int.reduceLE, Int.reduceEq, beq_self_eq_true, va, vc, vA, vT, lv]
    subst hv
    have hg : decide (0 < (S.length : Int)) = decide (0 < S.length) := by simp
    refine .inl ⟨by kernel_rfl, ?_⟩
    refine callD_pure (ref_join (vecOf A) (vecOf T) vA vT) (by simp only [go_sem, Nat.reduceAdd, Nat.reduceSub, Nat.reduceMul, Nat.reduceLT, Nat.reduceLeDiff, ↓reduceIte, reduceCtorEq, Nat.reduceEqDiff, Int.reduceToNat, Int.reduceLT, Int.reduceLE, Int.reduceEq, beq_self_eq_true, va, vc, vA, vT, lj, hg]) (by simp only [go_sem, Nat.reduceAdd, Nat.reduceSub, Nat.reduceMul, Nat.reduceLT, Nat.reduceLeDiff, ↓reduceIte, reduceCtorEq, Nat.reduceEqDiff, Int.reduceToNat, Int.reduceLT, Int.reduceLE, Int.reduceEq, beq_self_eq_true, va, vc, vA, vT, lj, hg]) ?_; simp only [go_sem, Nat.reduceAdd, Nat.reduceSub, Nat.reduceMul, Nat.reduceLT, Nat.reduceLeDiff, ↓reduceIte, reduceCtorEq, Nat.reduceEqDiff, Int.reduceToNat, Int.reduceLT, Int.reduceLE, Int.reduceEq, beq_self_eq_true, va, vc, vA, vT, lj, hg]
    refine callD_pure (digest_lacks (vecOf A) (vecOf T) vA vT) (by simp only [go_sem, Nat.reduceAdd, Nat.reduceSub, Nat.reduceMul, Nat.reduceLT, Nat.reduceLeDiff, ↓reduceIte, reduceCtorEq, Nat.reduceEqDiff, Int.reduceToNat, Int.reduceLT, Int.reduceLE, Int.reduceEq, beq_self_eq_true, va, vc, vA, vT, lj, hnone, hg, beq_self_eq_true]) (by simp only [go_sem, Nat.reduceAdd, Nat.reduceSub, Nat.reduceMul, Nat.reduceLT, Nat.reduceLeDiff, ↓reduceIte, reduceCtorEq, Nat.reduceEqDiff, Int.reduceToNat, Int.reduceLT, Int.reduceLE, Int.reduceEq, beq_self_eq_true, va, vc, vA, vT, lj, hnone, hg, beq_self_eq_true]) ?_; simp only [go_sem, Nat.reduceAdd, Nat.reduceSub, Nat.reduceMul, Nat.reduceLT, Nat.reduceLeDiff, ↓reduceIte, reduceCtorEq, Nat.reduceEqDiff, Int.reduceToNat, Int.reduceLT, Int.reduceLE, Int.reduceEq, beq_self_eq_true, va, vc, vA, vT, lj, hnone, hg, beq_self_eq_true]
    refine callD_pure (heads28) (by simp only [go_sem, Nat.reduceAdd, Nat.reduceSub, Nat.reduceMul, Nat.reduceLT, Nat.reduceLeDiff, ↓reduceIte, reduceCtorEq, Nat.reduceEqDiff, Int.reduceToNat, Int.reduceLT, Int.reduceLE, Int.reduceEq, beq_self_eq_true, va]) (by simp only [go_sem, Nat.reduceAdd, Nat.reduceSub, Nat.reduceMul, Nat.reduceLT, Nat.reduceLeDiff, ↓reduceIte, reduceCtorEq, Nat.reduceEqDiff, Int.reduceToNat, Int.reduceLT, Int.reduceLE, Int.reduceEq, beq_self_eq_true, va]) ?_; simp only [go_sem, Nat.reduceAdd, Nat.reduceSub, Nat.reduceMul, Nat.reduceLT, Nat.reduceLeDiff, ↓reduceIte, reduceCtorEq, Nat.reduceEqDiff, Int.reduceToNat, Int.reduceLT, Int.reduceLE, Int.reduceEq, beq_self_eq_true, va]
end Go.Ab
