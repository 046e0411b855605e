/- Lists of transactions compared; the vector of transactions. Conditions: none. -/
import Derived.Test.YtebfpijbnklaiaaDiA
import Derived.Test.YtebfpijbnklaiaaAbDp
set_option linter.unusedSimpArgs false
namespace Go.Ab
open Go.Proofs

theorem sameTx_iff (a b : TxR) : sameTx a b = true ↔ a = b := by
  cases a; cases b
  simp [sameTx, and_assoc]
def rowsTx (a b : List TxR) : Bool := decide (a.length = b.length) && (List.range a.length).all fun k => sameTx (txAt a k) (txAt b k)
theorem rowsTx_refl (a : List TxR) : rowsTx a a = true := by
  simp only [rowsTx, decide_true, Bool.true_and, List.all_eq_true, List.mem_range]
  exact fun k _ => (sameTx_iff _ _).2 rfl
theorem rowsTx_not {a b : List TxR} {k : Nat} (hk : k < a.length) (h : sameTx (txAt a k) (txAt b k) = false) : rowsTx a b = false := by
  have : ((List.range a.length).all fun k => sameTx (txAt a k) (txAt b k)) = false := by
    rw [List.all_eq_false]
    exact ⟨k, List.mem_range.2 hk, by rw [h]; simp⟩
  simp only [rowsTx, this, Bool.and_false]

set_option maxRecDepth 8000 in
theorem ref_rows (a b : List TxR) (ha : TxsOk a) (hb : TxsOk b) (hl : a.length ≤ 40) (hops : ∀ t ∈ a, t.ops.length ≤ 40) : PSpec Try.prog CT 23 [txsD a, txsD b] (· = .bool (rowsTx a b)) := by
  refine PSpec.of hT Try.func23 rfl (by kernel_rfl) rfl rfl ?_
  simp only [Try.f23, go_sem, Nat.reduceAdd, Nat.reduceSub, Nat.reduceMul, Nat.reduceLT, Nat.reduceLeDiff, ↓reduceIte, reduceCtorEq, Nat.reduceEqDiff, Int.reduceToNat, Int.reduceLT, Int.reduceLE, Int.reduceEq, beq_self_eq_true]
  refine condK_split (fun hc => ?_) (fun hc => ?_)
  · simp only [Bool.not_eq_true', decide_eq_false_iff_not] at hc
    have : rowsTx a b = false := by simp only [rowsTx, decide_eq_false (show ¬ a.length = b.length by omega), Bool.false_and]
    simp only [go_sem, Nat.reduceAdd, Nat.reduceSub, Nat.reduceMul, Nat.reduceLT, Nat.reduceLeDiff, ↓reduceIte, reduceCtorEq, Nat.reduceEqDiff, Int.reduceToNat, Int.reduceLT, Int.reduceLE, Int.reduceEq, beq_self_eq_true, this]
  have hlen : a.length = b.length := by simp only [Bool.not_eq_false', decide_eq_true_eq] at hc; omega
  simp only [go_sem, Nat.reduceAdd, Nat.reduceSub, Nat.reduceMul, Nat.reduceLT, Nat.reduceLeDiff, ↓reduceIte, reduceCtorEq, Nat.reduceEqDiff, Int.reduceToNat, Int.reduceLT, Int.reduceLE, Int.reduceEq, beq_self_eq_true]
  refine awp_loop (fun n s => ∃ (k : Nat) (g : Nat → D), s = ⟨[txsD a, txsD b, g 2, g 3, g 4, .lit (.int .i64 k), g 6, g 7, g 8, g 9, g 10, g 11, g 12, g 13, g 14, g 15, g 16, g 17, g 18, g 19, g 20, g 21, g 22, g 23, g 24, g 25, g 26], ⟨[], []⟩⟩ ∧ n = a.length - k ∧ k ≤ a.length ∧ ∀ p, p < k → sameTx (txAt a p) (txAt b p) = true) a.length ⟨0, reg_intro rfl rfl ⟨by simp, by omega, by simp⟩⟩ ?_
  rintro n s ⟨k, g, rfl, hn, hk, hp⟩
  simp only [go_sem, Nat.reduceAdd, Nat.reduceSub, Nat.reduceMul, Nat.reduceLT, Nat.reduceLeDiff, ↓reduceIte, reduceCtorEq, Nat.reduceEqDiff, Int.reduceToNat, Int.reduceLT, Int.reduceLE, Int.reduceEq, beq_self_eq_true]
  refine condK_split (fun hc => ?_) (fun hc => ?_)
  · have hk1 : k < a.length := by have := of_decide_eq_true hc; omega
    have hk2 : k < b.length := by omega
    obtain ⟨da, _⟩ := txsOk_at ha hk1
    obtain ⟨db, _⟩ := txsOk_at hb hk2
    have hop : (txAt a k).ops.length < 4000000000 := by
      have : txAt a k ∈ a := by
        unfold txAt
        rw [List.getD_eq_getElem?_getD, List.getElem?_eq_getElem hk1]; exact List.getElem_mem hk1
      have := hops _ this; omega
    simp only [go_sem, Nat.reduceAdd, Nat.reduceSub, Nat.reduceMul, Nat.reduceLT, Nat.reduceLeDiff, ↓reduceIte, reduceCtorEq, Nat.reduceEqDiff, Int.reduceToNat, Int.reduceLT, Int.reduceLE, Int.reduceEq, beq_self_eq_true, hk1, hk2, get_txs, da, db]
    refine .inl ⟨by kernel_rfl, ?_⟩
    refine callD_pure (ref_same (txAt a k) (txAt b k) da db hop) (by simp only [go_sem, Nat.reduceAdd, Nat.reduceSub, Nat.reduceMul, Nat.reduceLT, Nat.reduceLeDiff, ↓reduceIte, reduceCtorEq, Nat.reduceEqDiff, Int.reduceToNat, Int.reduceLT, Int.reduceLE, Int.reduceEq, beq_self_eq_true, hk1, hk2, get_txs, da, db, pureL_ops]) (by simp only [go_sem, Nat.reduceAdd, Nat.reduceSub, Nat.reduceMul, Nat.reduceLT, Nat.reduceLeDiff, ↓reduceIte, reduceCtorEq, Nat.reduceEqDiff, Int.reduceToNat, Int.reduceLT, Int.reduceLE, Int.reduceEq, beq_self_eq_true, hk1, hk2, get_txs, da, db, pureL_ops]) ?_; simp only [go_sem, Nat.reduceAdd, Nat.reduceSub, Nat.reduceMul, Nat.reduceLT, Nat.reduceLeDiff, ↓reduceIte, reduceCtorEq, Nat.reduceEqDiff, Int.reduceToNat, Int.reduceLT, Int.reduceLE, Int.reduceEq, beq_self_eq_true, hk1, hk2, get_txs, da, db, pureL_ops]
    refine condK_split (fun h1 => ?_) (fun h1 => ?_)
    · simp only [Bool.not_eq_true'] at h1
      simp only [go_sem, Nat.reduceAdd, Nat.reduceSub, Nat.reduceMul, Nat.reduceLT, Nat.reduceLeDiff, ↓reduceIte, reduceCtorEq, Nat.reduceEqDiff, Int.reduceToNat, Int.reduceLT, Int.reduceLE, Int.reduceEq, beq_self_eq_true, rowsTx_not hk1 h1]
    · simp only [Bool.not_eq_false'] at h1
      simp only [go_sem, Nat.reduceAdd, Nat.reduceSub, Nat.reduceMul, Nat.reduceLT, Nat.reduceLeDiff, ↓reduceIte, reduceCtorEq, Nat.reduceEqDiff, Int.reduceToNat, Int.reduceLT, Int.reduceLE, Int.reduceEq, beq_self_eq_true, h1, wrapNat k (by omega)]
      refine ⟨a.length - (k + 1), by omega, k + 1, reg_intro rfl rfl ⟨rfl, by omega, fun p h => ?_⟩⟩
      by_cases hpk : p = k
      · subst hpk; exact h1
      · exact hp p (by omega)
  · have hi := of_decide_eq_false hc
    obtain rfl : k = a.length := by omega
    have : rowsTx a b = true := by
      simp only [rowsTx, hlen, decide_true, Bool.true_and, List.all_eq_true, List.mem_range]
      intro p h; exact hp p (by omega)
    simp only [go_sem, Nat.reduceAdd, Nat.reduceSub, Nat.reduceMul, Nat.reduceLT, Nat.reduceLeDiff, ↓reduceIte, reduceCtorEq, Nat.reduceEqDiff, Int.reduceToNat, Int.reduceLT, Int.reduceLE, Int.reduceEq, beq_self_eq_true, this]

theorem vecOf_take (o : List TxR) (k : Nat) (hk : k < o.length) : vecOf (o.take (k + 1)) = (vecOf (o.take k)).set (txAt o k).peer.toNat (txAt o k).seq := by rw [txTake _ _ hk, vecOf_snoc]

theorem law_count (l : List TxR) (ho : TxsOk l) (hl : l.length ≤ 2000) (hp : ∀ k, k < l.length → vpeer (txAt l k).peer = true) : PSpec Try.prog CT 30 [txsD l] (· = ints (vecOf l)) := by
  refine PSpec.of hT Try.func30 rfl (by kernel_rfl) rfl rfl ?_
  simp only [Try.f30, go_sem, Nat.reduceAdd, Nat.reduceSub, Nat.reduceMul, Nat.reduceLT, Nat.reduceLeDiff, ↓reduceIte, reduceCtorEq, Nat.reduceEqDiff, Int.reduceToNat, Int.reduceLT, Int.reduceLE, Int.reduceEq, beq_self_eq_true]
  refine awp_loop (fun n s => ∃ (k : Nat) (v : List Int) (g : Nat → D), s = ⟨[txsD l, g 1, .ptr 0 [], .ptr 1 [], .lit (.int .i64 k), g 5, g 6, g 7, g 8, g 9, g 10, g 11, g 12, g 13, g 14, g 15, g 16, g 17, g 18, g 19, g 20, g 21, g 22, g 23, g 24], ⟨[(.arr 13 .leaf, ints (zeros 13)), (.arr 13 .leaf, ints v)], []⟩⟩ ∧ n = l.length - k ∧ k ≤ l.length ∧ v.length = 13 ∧ v = vecOf (l.take k)) l.length ⟨0, zeros 13, reg_intro rfl rfl ⟨by simp, by omega, zeros_len 13, rfl⟩⟩ ?_
  rintro n s ⟨k, v, g, rfl, hn, hk, hv, heq⟩
  simp only [go_sem, Nat.reduceAdd, Nat.reduceSub, Nat.reduceMul, Nat.reduceLT, Nat.reduceLeDiff, ↓reduceIte, reduceCtorEq, Nat.reduceEqDiff, Int.reduceToNat, Int.reduceLT, Int.reduceLE, Int.reduceEq, beq_self_eq_true]
  refine condK_split (fun hc => ?_) (fun hc => ?_)
  · have hk' : k < l.length := by have := of_decide_eq_true hc; omega
    obtain ⟨hd, _⟩ := txsOk_at ho hk'
    obtain ⟨p0, p1⟩ := vpeer_of (hp k hk')
    have hs := vecOf_take l k hk'
    rw [← heq] at hs
    simp only [go_sem, Nat.reduceAdd, Nat.reduceSub, Nat.reduceMul, Nat.reduceLT, Nat.reduceLeDiff, ↓reduceIte, reduceCtorEq, Nat.reduceEqDiff, Int.reduceToNat, Int.reduceLT, Int.reduceLE, Int.reduceEq, beq_self_eq_true, hk', get_txs, hd, hv, p0, p1, zeros_len, wrapNat k (by omega)]
    refine .inl ⟨by kernel_rfl, ?_⟩
    exact ⟨l.length - (k + 1), by omega, k + 1, _, reg_intro rfl rfl ⟨rfl, by omega, by simp [hv], hs.symm⟩⟩
  · have hi := of_decide_eq_false hc
    obtain rfl : k = l.length := by omega
    rw [List.take_length] at heq
    have hvl := vecOf_len l
    simp only [go_sem, Nat.reduceAdd, Nat.reduceSub, Nat.reduceMul, Nat.reduceLT, Nat.reduceLeDiff, ↓reduceIte, reduceCtorEq, Nat.reduceEqDiff, Int.reduceToNat, Int.reduceLT, Int.reduceLE, Int.reduceEq, beq_self_eq_true, hvl, zeros_len, heq]
end Go.Ab
set_option linter.unusedSimpArgs false
namespace Go.Ab
open Go.Proofs
def o28 : OpR := ⟨1, ⟨#[97]⟩, ⟨#[]⟩, 0, 1, 1, ⟨#[]⟩, 0, 0, 0⟩
def t28 (s : Int) : TxR := ⟨1, s, zeros 13, 1, [o28]⟩
def z1 : List Int := ((zeros 13).set 0 0).set 1 1
def z2 : List Int := ((zeros 13).set 0 0).set 1 2
def z3 : List Int := ((zeros 13).set 0 0).set 1 3
def z32 : List Int := (((zeros 13).set 0 0).set 1 3).set 2 2
def z15 : List Int := (((zeros 13).set 0 0).set 1 1).set 2 5
def z12 : List Int := (((zeros 13).set 0 0).set 1 1).set 2 2
def z11 : List Int := (((zeros 13).set 0 0).set 1 1).set 2 1
def z01 : List Int := (((zeros 13).set 0 0).set 1 0).set 2 1
theorem z1_eq : ((zeros 13).set 0 0).set 1 1 = z1 := rfl
theorem z2_eq : ((zeros 13).set 0 0).set 1 2 = z2 := rfl
theorem z3_eq : ((zeros 13).set 0 0).set 1 3 = z3 := rfl
theorem z32_eq : z3.set 2 2 = z32 := rfl
theorem z15_eq : z1.set 2 5 = z15 := rfl
theorem z12_eq : z1.set 2 2 = z12 := rfl
theorem z11_eq : z1.set 2 1 = z11 := rfl
theorem z01_eq : (((zeros 13).set 0 0).set 1 0).set 2 1 = z01 := rfl
theorem z1_len : z1.length = 13 := by decide +kernel
theorem z2_len : z2.length = 13 := by decide +kernel
theorem z3_len : z3.length = 13 := by decide +kernel
theorem z32_len : z32.length = 13 := by decide +kernel
theorem z15_len : z15.length = 13 := by decide +kernel
theorem z12_len : z12.length = 13 := by decide +kernel
theorem z11_len : z11.length = 13 := by decide +kernel
theorem z01_len : z01.length = 13 := by decide +kernel
theorem t28_ok (l : List Int) : TxsOk (l.map t28) := by
  intro t ht
  obtain ⟨s, _, rfl⟩ := List.mem_map.1 ht
  exact ⟨zeros_len 13, by simp [t28]⟩
set_option maxRecDepth 8000 in
theorem heads28 : PSpec Try.prog CT 15 [] (· = .bool true) := by
  refine PSpec.of hT Try.func15 rfl (by kernel_rfl) rfl rfl ?_
  have z0 := zeros_len 13
  have l1 : lackR [t28 2, t28 3] z2 = [t28 3] := by kernel_rfl
  have l2 : lackR [t28 2, t28 3] (zeros 13) = [t28 2, t28 3] := by kernel_rfl
  have b1 : vleq z1 z2 = true := by decide +kernel
  have b2 : vleq z1 (zeros 13) = false := by decide +kernel
  have b3 : vleq z3 z2 = false := by decide +kernel
  have b4 : vleq z2 z3 = true := by decide +kernel
  have r1 : rowR z32 [z15] = z12 := by decide +kernel
  have m1 : mergeR z1 (zeros 13) z2 z1 = 1 := by decide +kernel
  have m2 : mergeR z1 z1 z3 z2 = 2 := by decide +kernel
  have m3 : mergeR z11 z01 z3 z2 = 3 := by decide +kernel
  have m4 : mergeR z3 (zeros 13) z3 (zeros 13) = 0 := by decide +kernel
  have rr : rowsTx [t28 3] [t28 3] = true := rowsTx_refl _
  simp only [Try.f15, go_sem, Nat.reduceAdd, Nat.reduceSub, Nat.reduceMul, Nat.reduceLT, Nat.reduceLeDiff, ↓reduceIte, reduceCtorEq, Nat.reduceEqDiff, Int.reduceToNat, Int.reduceLT, Int.reduceLE, Int.reduceEq, beq_self_eq_true, z1_eq, z2_eq, z3_eq, z32_eq, z15_eq, z12_eq, z11_eq, z01_eq]
  refine callK_deep (digest_suffix [t28 2, t28 3] z1 z2 z1_len z2_len (t28_ok [2, 3]) (by decide)) rfl (by simp only [go_sem, Nat.reduceAdd, Nat.reduceSub, Nat.reduceMul, Nat.reduceLT, Nat.reduceLeDiff, ↓reduceIte, reduceCtorEq, Nat.reduceEqDiff, Int.reduceToNat, Int.reduceLT, Int.reduceLE, Int.reduceEq, beq_self_eq_true, pureL_txs]) ?_
  simp only [go_sem, Nat.reduceAdd, Nat.reduceSub, Nat.reduceMul, Nat.reduceLT, Nat.reduceLeDiff, ↓reduceIte, reduceCtorEq, Nat.reduceEqDiff, Int.reduceToNat, Int.reduceLT, Int.reduceLE, Int.reduceEq, beq_self_eq_true, z1_eq, z2_eq, z3_eq, z32_eq, z15_eq, z12_eq, z11_eq, z01_eq, b1, l1]
  refine callK_deep (digest_suffix [t28 2, t28 3] z1 (zeros 13) z1_len z0 (t28_ok [2, 3]) (by decide)) rfl (by simp only [go_sem, Nat.reduceAdd, Nat.reduceSub, Nat.reduceMul, Nat.reduceLT, Nat.reduceLeDiff, ↓reduceIte, reduceCtorEq, Nat.reduceEqDiff, Int.reduceToNat, Int.reduceLT, Int.reduceLE, Int.reduceEq, beq_self_eq_true, pureL_txs]) ?_
  simp only [go_sem, Nat.reduceAdd, Nat.reduceSub, Nat.reduceMul, Nat.reduceLT, Nat.reduceLeDiff, ↓reduceIte, reduceCtorEq, Nat.reduceEqDiff, Int.reduceToNat, Int.reduceLT, Int.reduceLE, Int.reduceEq, beq_self_eq_true, z1_eq, z2_eq, z3_eq, z32_eq, z15_eq, z12_eq, z11_eq, z01_eq, b1, l1, b2, l2]
  refine callK_pure (digest_lacks z3 z2 z3_len z2_len) (by simp only [go_sem, Nat.reduceAdd, Nat.reduceSub, Nat.reduceMul, Nat.reduceLT, Nat.reduceLeDiff, ↓reduceIte, reduceCtorEq, Nat.reduceEqDiff, Int.reduceToNat, Int.reduceLT, Int.reduceLE, Int.reduceEq, beq_self_eq_true]) (by simp only [go_sem, Nat.reduceAdd, Nat.reduceSub, Nat.reduceMul, Nat.reduceLT, Nat.reduceLeDiff, ↓reduceIte, reduceCtorEq, Nat.reduceEqDiff, Int.reduceToNat, Int.reduceLT, Int.reduceLE, Int.reduceEq, beq_self_eq_true, pureL_txs, pureL_tab]) ?_
  simp only [go_sem, Nat.reduceAdd, Nat.reduceSub, Nat.reduceMul, Nat.reduceLT, Nat.reduceLeDiff, ↓reduceIte, reduceCtorEq, Nat.reduceEqDiff, Int.reduceToNat, Int.reduceLT, Int.reduceLE, Int.reduceEq, beq_self_eq_true, z1_eq, z2_eq, z3_eq, z32_eq, z15_eq, z12_eq, z11_eq, z01_eq, b1, l1, b2, l2, b3, b4, r1, m1, m2, m3, m4, rr, z0, z1_len, z2_len, z3_len, z32_len, z15_len, z12_len, z11_len, z01_len]
  refine callK_pure (digest_lacks z2 z3 z2_len z3_len) (by simp only [go_sem, Nat.reduceAdd, Nat.reduceSub, Nat.reduceMul, Nat.reduceLT, Nat.reduceLeDiff, ↓reduceIte, reduceCtorEq, Nat.reduceEqDiff, Int.reduceToNat, Int.reduceLT, Int.reduceLE, Int.reduceEq, beq_self_eq_true]) (by simp only [go_sem, Nat.reduceAdd, Nat.reduceSub, Nat.reduceMul, Nat.reduceLT, Nat.reduceLeDiff, ↓reduceIte, reduceCtorEq, Nat.reduceEqDiff, Int.reduceToNat, Int.reduceLT, Int.reduceLE, Int.reduceEq, beq_self_eq_true, pureL_txs, pureL_tab]) ?_
  simp only [go_sem, Nat.reduceAdd, Nat.reduceSub, Nat.reduceMul, Nat.reduceLT, Nat.reduceLeDiff, ↓reduceIte, reduceCtorEq, Nat.reduceEqDiff, Int.reduceToNat, Int.reduceLT, Int.reduceLE, Int.reduceEq, beq_self_eq_true, z1_eq, z2_eq, z3_eq, z32_eq, z15_eq, z12_eq, z11_eq, z01_eq, b1, l1, b2, l2, b3, b4, r1, m1, m2, m3, m4, rr, z0, z1_len, z2_len, z3_len, z32_len, z15_len, z12_len, z11_len, z01_len]
  refine callK_deep (ref_rows [t28 3] [t28 3] (t28_ok [3]) (t28_ok [3]) (by decide) (by simp [t28])) rfl (by simp only [go_sem, Nat.reduceAdd, Nat.reduceSub, Nat.reduceMul, Nat.reduceLT, Nat.reduceLeDiff, ↓reduceIte, reduceCtorEq, Nat.reduceEqDiff, Int.reduceToNat, Int.reduceLT, Int.reduceLE, Int.reduceEq, beq_self_eq_true, pureL_txs, pureL_tab]) ?_
  simp only [go_sem, Nat.reduceAdd, Nat.reduceSub, Nat.reduceMul, Nat.reduceLT, Nat.reduceLeDiff, ↓reduceIte, reduceCtorEq, Nat.reduceEqDiff, Int.reduceToNat, Int.reduceLT, Int.reduceLE, Int.reduceEq, beq_self_eq_true, z1_eq, z2_eq, z3_eq, z32_eq, z15_eq, z12_eq, z11_eq, z01_eq, b1, l1, b2, l2, b3, b4, r1, m1, m2, m3, m4, rr, z0, z1_len, z2_len, z3_len, z32_len, z15_len, z12_len, z11_len, z01_len]
  refine callK_deep (digest_row z32 [z15] z32_len (by simp [z15_len]) (by decide)) rfl (by simp only [go_sem, Nat.reduceAdd, Nat.reduceSub, Nat.reduceMul, Nat.reduceLT, Nat.reduceLeDiff, ↓reduceIte, reduceCtorEq, Nat.reduceEqDiff, Int.reduceToNat, Int.reduceLT, Int.reduceLE, Int.reduceEq, beq_self_eq_true, pureL_txs, pureL_tab]) ?_
  simp only [go_sem, Nat.reduceAdd, Nat.reduceSub, Nat.reduceMul, Nat.reduceLT, Nat.reduceLeDiff, ↓reduceIte, reduceCtorEq, Nat.reduceEqDiff, Int.reduceToNat, Int.reduceLT, Int.reduceLE, Int.reduceEq, beq_self_eq_true, z1_eq, z2_eq, z3_eq, z32_eq, z15_eq, z12_eq, z11_eq, z01_eq, b1, l1, b2, l2, b3, b4, r1, m1, m2, m3, m4, rr, z0, z1_len, z2_len, z3_len, z32_len, z15_len, z12_len, z11_len, z01_len]
  refine callK_pure (digest_mergeable z1 (zeros 13) z2 z1 z1_len z0 z2_len z1_len) (by simp only [go_sem, Nat.reduceAdd, Nat.reduceSub, Nat.reduceMul, Nat.reduceLT, Nat.reduceLeDiff, ↓reduceIte, reduceCtorEq, Nat.reduceEqDiff, Int.reduceToNat, Int.reduceLT, Int.reduceLE, Int.reduceEq, beq_self_eq_true]) (by simp only [go_sem, Nat.reduceAdd, Nat.reduceSub, Nat.reduceMul, Nat.reduceLT, Nat.reduceLeDiff, ↓reduceIte, reduceCtorEq, Nat.reduceEqDiff, Int.reduceToNat, Int.reduceLT, Int.reduceLE, Int.reduceEq, beq_self_eq_true, pureL_txs, pureL_tab]) ?_
  simp only [go_sem, Nat.reduceAdd, Nat.reduceSub, Nat.reduceMul, Nat.reduceLT, Nat.reduceLeDiff, ↓reduceIte, reduceCtorEq, Nat.reduceEqDiff, Int.reduceToNat, Int.reduceLT, Int.reduceLE, Int.reduceEq, beq_self_eq_true, z1_eq, z2_eq, z3_eq, z32_eq, z15_eq, z12_eq, z11_eq, z01_eq, b1, l1, b2, l2, b3, b4, r1, m1, m2, m3, m4, rr, z0, z1_len, z2_len, z3_len, z32_len, z15_len, z12_len, z11_len, z01_len]
  refine callK_pure (digest_mergeable z1 z1 z3 z2 z1_len z1_len z3_len z2_len) (by simp only [go_sem, Nat.reduceAdd, Nat.reduceSub, Nat.reduceMul, Nat.reduceLT, Nat.reduceLeDiff, ↓reduceIte, reduceCtorEq, Nat.reduceEqDiff, Int.reduceToNat, Int.reduceLT, Int.reduceLE, Int.reduceEq, beq_self_eq_true]) (by simp only [go_sem, Nat.reduceAdd, Nat.reduceSub, Nat.reduceMul, Nat.reduceLT, Nat.reduceLeDiff, ↓reduceIte, reduceCtorEq, Nat.reduceEqDiff, Int.reduceToNat, Int.reduceLT, Int.reduceLE, Int.reduceEq, beq_self_eq_true, pureL_txs, pureL_tab]) ?_
  simp only [go_sem, Nat.reduceAdd, Nat.reduceSub, Nat.reduceMul, Nat.reduceLT, Nat.reduceLeDiff, ↓reduceIte, reduceCtorEq, Nat.reduceEqDiff, Int.reduceToNat, Int.reduceLT, Int.reduceLE, Int.reduceEq, beq_self_eq_true, z1_eq, z2_eq, z3_eq, z32_eq, z15_eq, z12_eq, z11_eq, z01_eq, b1, l1, b2, l2, b3, b4, r1, m1, m2, m3, m4, rr, z0, z1_len, z2_len, z3_len, z32_len, z15_len, z12_len, z11_len, z01_len]
  refine callK_pure (digest_mergeable z11 z01 z3 z2 z11_len z01_len z3_len z2_len) (by simp only [go_sem, Nat.reduceAdd, Nat.reduceSub, Nat.reduceMul, Nat.reduceLT, Nat.reduceLeDiff, ↓reduceIte, reduceCtorEq, Nat.reduceEqDiff, Int.reduceToNat, Int.reduceLT, Int.reduceLE, Int.reduceEq, beq_self_eq_true]) (by simp only [go_sem, Nat.reduceAdd, Nat.reduceSub, Nat.reduceMul, Nat.reduceLT, Nat.reduceLeDiff, ↓reduceIte, reduceCtorEq, Nat.reduceEqDiff, Int.reduceToNat, Int.reduceLT, Int.reduceLE, Int.reduceEq, beq_self_eq_true, pureL_txs, pureL_tab]) ?_
  simp only [go_sem, Nat.reduceAdd, Nat.reduceSub, Nat.reduceMul, Nat.reduceLT, Nat.reduceLeDiff, ↓reduceIte, reduceCtorEq, Nat.reduceEqDiff, Int.reduceToNat, Int.reduceLT, Int.reduceLE, Int.reduceEq, beq_self_eq_true, z1_eq, z2_eq, z3_eq, z32_eq, z15_eq, z12_eq, z11_eq, z01_eq, b1, l1, b2, l2, b3, b4, r1, m1, m2, m3, m4, rr, z0, z1_len, z2_len, z3_len, z32_len, z15_len, z12_len, z11_len, z01_len]
  refine callK_pure (digest_mergeable z3 (zeros 13) z3 (zeros 13) z3_len z0 z3_len z0) (by simp only [go_sem, Nat.reduceAdd, Nat.reduceSub, Nat.reduceMul, Nat.reduceLT, Nat.reduceLeDiff, ↓reduceIte, reduceCtorEq, Nat.reduceEqDiff, Int.reduceToNat, Int.reduceLT, Int.reduceLE, Int.reduceEq, beq_self_eq_true]) (by simp only [go_sem, Nat.reduceAdd, Nat.reduceSub, Nat.reduceMul, Nat.reduceLT, Nat.reduceLeDiff, ↓reduceIte, reduceCtorEq, Nat.reduceEqDiff, Int.reduceToNat, Int.reduceLT, Int.reduceLE, Int.reduceEq, beq_self_eq_true, pureL_txs, pureL_tab]) ?_
  simp only [go_sem, Nat.reduceAdd, Nat.reduceSub, Nat.reduceMul, Nat.reduceLT, Nat.reduceLeDiff, ↓reduceIte, reduceCtorEq, Nat.reduceEqDiff, Int.reduceToNat, Int.reduceLT, Int.reduceLE, Int.reduceEq, beq_self_eq_true, z1_eq, z2_eq, z3_eq, z32_eq, z15_eq, z12_eq, z11_eq, z01_eq, b1, l1, b2, l2, b3, b4, r1, m1, m2, m3, m4, rr, z0, z1_len, z2_len, z3_len, z32_len, z15_len, z12_len, z11_len, z01_len]
  refine callK_deep (digest_extra [t28 2, t28 3] (zeros 13) z0 (t28_ok [2, 3]) (by decide)) rfl (by simp only [go_sem, Nat.reduceAdd, Nat.reduceSub, Nat.reduceMul, Nat.reduceLT, Nat.reduceLeDiff, ↓reduceIte, reduceCtorEq, Nat.reduceEqDiff, Int.reduceToNat, Int.reduceLT, Int.reduceLE, Int.reduceEq, beq_self_eq_true, pureL_txs, pureL_tab]) ?_
  simp only [go_sem, Nat.reduceAdd, Nat.reduceSub, Nat.reduceMul, Nat.reduceLT, Nat.reduceLeDiff, ↓reduceIte, reduceCtorEq, Nat.reduceEqDiff, Int.reduceToNat, Int.reduceLT, Int.reduceLE, Int.reduceEq, beq_self_eq_true, z1_eq, z2_eq, z3_eq, z32_eq, z15_eq, z12_eq, z11_eq, z01_eq, b1, l1, b2, l2, b3, b4, r1, m1, m2, m3, m4, rr, z0, z1_len, z2_len, z3_len, z32_len, z15_len, z12_len, z11_len, z01_len]
  rfl
end Go.Ab
