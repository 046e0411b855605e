/- Vectors: what is missing, and how many there are. Conditions: none. -/
import Derived.Test.YtebfpijbnklaiaaAbX
set_option linter.unusedSimpArgs false
namespace Go.Ab
open Go.Proofs

def vpre (x : Int) (j : Nat) : List Int := (List.range j).map fun (i : Nat) => x + 1 + (i : Int)
theorem vpre_succ (x : Int) (j : Nat) : vpre x (j + 1) = vpre x j ++ [x + 1 + j] := by simp [vpre, List.range_succ]
theorem vpre_pre (x : Int) {j k : Nat} (h : j ≤ k) : vpre x j <+: vpre x k := by
  induction k with
  | zero => obtain rfl : j = 0 := by omega
            exact List.prefix_refl _
  | succ k ih =>
    by_cases hj : j = k + 1
    · subst hj; exact List.prefix_refl _
    · exact (ih (by omega)).trans (by rw [vpre_succ]; exact List.prefix_append _ _)
def vcnt (a b : List Int) (p : Nat) : Nat := (b.getD p 0 - a.getD p 0).toNat
def vmissTo (a b : List Int) (p : Nat) : List (Int × Int) := (List.range p).flatMap fun q => (vpre (a.getD q 0) (vcnt a b q)).map fun s => ((q : Int), s)
def vmissP (a b : List Int) (p j : Nat) : List (Int × Int) := vmissTo a b p ++ (vpre (a.getD p 0) j).map fun s => ((p : Int), s)
theorem vmissTo_succ (a b : List Int) (p : Nat) : vmissTo a b (p + 1) = vmissP a b p (vcnt a b p) := by simp [vmissTo, vmissP, List.range_succ]
theorem vmissP_zero (a b : List Int) (p : Nat) : vmissP a b p 0 = vmissTo a b p := by simp [vmissP, vpre]
theorem vmissP_succ (a b : List Int) (p j : Nat) : vmissP a b p (j + 1) = vmissP a b p j ++ [((p : Int), a.getD p 0 + 1 + j)] := by simp [vmissP, vpre_succ]
theorem vmissP_pre (a b : List Int) (p : Nat) {j k : Nat} (h : j ≤ k) : vmissP a b p j <+: vmissP a b p k := by
  obtain ⟨r, hr⟩ := vpre_pre (a.getD p 0) h
  exact ⟨r.map fun s => ((p : Int), s), by rw [vmissP, vmissP, ← hr, List.map_append, List.append_assoc]⟩
theorem vmissTo_pre (a b : List Int) {p q : Nat} (h : p ≤ q) : vmissTo a b p <+: vmissTo a b q := by
  induction q with
  | zero => obtain rfl : p = 0 := by omega
            exact List.prefix_refl _
  | succ q ih =>
    by_cases hp : p = q + 1
    · subst hp; exact List.prefix_refl _
    · refine (ih (by omega)).trans ?_
      rw [vmissTo_succ, ← vmissP_zero]
      exact vmissP_pre a b q (Nat.zero_le _)
def vmissing (a b : List Int) : List (Int × Int) := if vcheck a && vcheck b then (vmissTo a b 13).take 4096 else []

theorem dots_snoc (l : List (Int × Int)) (x y : Int) : (l.map fun d => dotD d.1 d.2) ++ [.agg [.lit (.int .i64 x), .lit (.int .i64 y)]] = (l ++ [(x, y)]).map fun d => dotD d.1 d.2 := by simp

theorem vec_missing (a b : List Int) (ha : a.length = 13) (hb : b.length = 13) : PSpec Try.prog CT 39 [ints a, ints b] (· = dotsD (vmissing a b) .no) := by
  refine PSpec.of hT Try.func39 rfl (by kernel_rfl) rfl rfl ?_
  simp only [Try.f39, go_sem, Nat.reduceAdd, Nat.reduceSub, Nat.reduceMul, Nat.reduceLT, Nat.reduceLeDiff, ↓reduceIte, reduceCtorEq, Nat.reduceEqDiff, Int.reduceToNat, Int.reduceLT, Int.reduceLE, Int.reduceEq, beq_self_eq_true, ha, hb]
  refine callK_pure (vec_check a ha) (by simp only [go_sem, Nat.reduceAdd, Nat.reduceSub, Nat.reduceMul, Nat.reduceLT, Nat.reduceLeDiff, ↓reduceIte, reduceCtorEq, Nat.reduceEqDiff, Int.reduceToNat, Int.reduceLT, Int.reduceLE, Int.reduceEq, beq_self_eq_true, ha, hb]) (by simp only [go_sem, Nat.reduceAdd, Nat.reduceSub, Nat.reduceMul, Nat.reduceLT, Nat.reduceLeDiff, ↓reduceIte, reduceCtorEq, Nat.reduceEqDiff, Int.reduceToNat, Int.reduceLT, Int.reduceLE, Int.reduceEq, beq_self_eq_true, ha, hb]) ?_; simp only [go_sem, Nat.reduceAdd, Nat.reduceSub, Nat.reduceMul, Nat.reduceLT, Nat.reduceLeDiff, ↓reduceIte, reduceCtorEq, Nat.reduceEqDiff, Int.reduceToNat, Int.reduceLT, Int.reduceLE, Int.reduceEq, beq_self_eq_true, ha, hb]
  refine guardK_split (fun h => ?_) (fun h => ?_)
  · simp only [Bool.not_eq_true'] at h
    simp only [go_sem, Nat.reduceAdd, Nat.reduceSub, Nat.reduceMul, Nat.reduceLT, Nat.reduceLeDiff, ↓reduceIte, reduceCtorEq, Nat.reduceEqDiff, Int.reduceToNat, Int.reduceLT, Int.reduceLE, Int.reduceEq, beq_self_eq_true, ha, hb, h, vmissing, Bool.false_and, dotsD]
  simp only [Bool.not_eq_false'] at h
  simp only [go_sem, Nat.reduceAdd, Nat.reduceSub, Nat.reduceMul, Nat.reduceLT, Nat.reduceLeDiff, ↓reduceIte, reduceCtorEq, Nat.reduceEqDiff, Int.reduceToNat, Int.reduceLT, Int.reduceLE, Int.reduceEq, beq_self_eq_true, ha, hb, h]
  refine callK_pure (vec_check b hb) (by simp only [go_sem, Nat.reduceAdd, Nat.reduceSub, Nat.reduceMul, Nat.reduceLT, Nat.reduceLeDiff, ↓reduceIte, reduceCtorEq, Nat.reduceEqDiff, Int.reduceToNat, Int.reduceLT, Int.reduceLE, Int.reduceEq, beq_self_eq_true, ha, hb]) (by simp only [go_sem, Nat.reduceAdd, Nat.reduceSub, Nat.reduceMul, Nat.reduceLT, Nat.reduceLeDiff, ↓reduceIte, reduceCtorEq, Nat.reduceEqDiff, Int.reduceToNat, Int.reduceLT, Int.reduceLE, Int.reduceEq, beq_self_eq_true, ha, hb]) ?_; simp only [go_sem, Nat.reduceAdd, Nat.reduceSub, Nat.reduceMul, Nat.reduceLT, Nat.reduceLeDiff, ↓reduceIte, reduceCtorEq, Nat.reduceEqDiff, Int.reduceToNat, Int.reduceLT, Int.reduceLE, Int.reduceEq, beq_self_eq_true, ha, hb]
  refine condK_split (fun h2 => ?_) (fun h2 => ?_)
  · simp only [Bool.not_eq_true'] at h2
    simp only [go_sem, Nat.reduceAdd, Nat.reduceSub, Nat.reduceMul, Nat.reduceLT, Nat.reduceLeDiff, ↓reduceIte, reduceCtorEq, Nat.reduceEqDiff, Int.reduceToNat, Int.reduceLT, Int.reduceLE, Int.reduceEq, beq_self_eq_true, ha, hb, h, h2, vmissing, Bool.and_false, dotsD]
  simp only [Bool.not_eq_false'] at h2
  simp only [go_sem, Nat.reduceAdd, Nat.reduceSub, Nat.reduceMul, Nat.reduceLT, Nat.reduceLeDiff, ↓reduceIte, reduceCtorEq, Nat.reduceEqDiff, Int.reduceToNat, Int.reduceLT, Int.reduceLE, Int.reduceEq, beq_self_eq_true, ha, hb, h, h2]
  obtain ⟨ha0, hap⟩ := (vcheck_iff a).1 h
  obtain ⟨hb0, hbp⟩ := (vcheck_iff b).1 h2
  have hm : vmissing a b = (vmissTo a b 13).take 4096 := by simp [vmissing, h, h2]
  refine awp_loop (fun n s => ∃ (p : Nat) (t : Tok) (tk : List Bool) (g : Nat → D), s = ⟨[ints a, ints b, .ptr 0 [], .ptr 1 [], g 4, dotsD (vmissTo a b p) t, g 6, g 7, g 8, g 9, g 10, g 11, g 12, g 13, g 14, g 15, .lit (.int .i64 p), g 17, g 18, g 19, g 20, g 21, g 22, g 23, g 24, g 25, g 26, g 27, g 28, g 29, g 30, g 31, g 32, g 33, g 34, g 35, g 36, g 37, g 38, g 39, g 40, g 41], ⟨[(.arr 13 .leaf, ints a), (.arr 13 .leaf, ints b)], tk⟩⟩ ∧ n = 13 - p ∧ p ≤ 13 ∧ live t tk ∧ (vmissTo a b p).length ≤ 4096) 13 ⟨0, .full, [], reg_intro rfl rfl ⟨rfl, by omega, trivial, by simp [vmissTo]⟩⟩ ?_
  rintro n s ⟨p, t, tk, g, rfl, hn, hp, ht, hlen⟩
  simp only [go_sem, Nat.reduceAdd, Nat.reduceSub, Nat.reduceMul, Nat.reduceLT, Nat.reduceLeDiff, ↓reduceIte, reduceCtorEq, Nat.reduceEqDiff, Int.reduceToNat, Int.reduceLT, Int.reduceLE, Int.reduceEq, beq_self_eq_true, ha, hb]
  refine condK_split (fun hc => ?_) (fun hc => ?_)
  · have hi := of_decide_eq_true hc
    have hp' : p < 13 := by omega
    have hva := hap p hp'
    have hvb := hbp p hp'
    simp only [vok, Bool.and_eq_true, decide_eq_true_eq] at hva hvb
    have hw : IntKind.i64.wrap (a.getD p 0 + 1) = a.getD p 0 + 1 + (0 : Nat) := by rw [wrap64] <;> omega
    simp only [go_sem, Nat.reduceAdd, Nat.reduceSub, Nat.reduceMul, Nat.reduceLT, Nat.reduceLeDiff, ↓reduceIte, reduceCtorEq, Nat.reduceEqDiff, Int.reduceToNat, Int.reduceLT, Int.reduceLE, Int.reduceEq, beq_self_eq_true, ha, hb, hp', hi, wrapNat p (by omega), hw]
    refine awp_loop (fun n s => ∃ (j : Nat) (l : List (Int × Int)) (t : Tok) (tk : List Bool) (g : Nat → D), s = ⟨[ints a, ints b, .ptr 0 [], .ptr 1 [], g 4, dotsD l t, .lit (.int .i64 p), .lit (.int .i64 (a.getD p 0 + 1 + j)), g 8, g 9, g 10, g 11, g 12, g 13, g 14, g 15, .lit (.int .i64 p), g 17, g 18, g 19, g 20, g 21, g 22, g 23, g 24, g 25, g 26, g 27, g 28, g 29, g 30, g 31, g 32, g 33, g 34, g 35, g 36, g 37, g 38, g 39, g 40, g 41], ⟨[(.arr 13 .leaf, ints a), (.arr 13 .leaf, ints b)], tk⟩⟩ ∧ n = vcnt a b p - j ∧ j ≤ vcnt a b p ∧ live t tk ∧ l = vmissP a b p j ∧ l.length ≤ 4096) (vcnt a b p) ⟨0, _, t, tk, reg_intro rfl rfl ⟨by simp, by omega, ht, (vmissP_zero a b p).symm, hlen⟩⟩ ?_
    rintro n s ⟨j, l, t, tk, g, rfl, hn, hj, ht, hl, hlen⟩
    simp only [go_sem, Nat.reduceAdd, Nat.reduceSub, Nat.reduceMul, Nat.reduceLT, Nat.reduceLeDiff, ↓reduceIte, reduceCtorEq, Nat.reduceEqDiff, Int.reduceToNat, Int.reduceLT, Int.reduceLE, Int.reduceEq, beq_self_eq_true, ha, hb, hp']
    refine condK_split (fun hc => ?_) (fun hc => ?_)
    · have hj2 := of_decide_eq_true hc
      have hj' : j < vcnt a b p := by simp only [vcnt]; omega
      simp only [go_sem, Nat.reduceAdd, Nat.reduceSub, Nat.reduceMul, Nat.reduceLT, Nat.reduceLeDiff, ↓reduceIte, reduceCtorEq, Nat.reduceEqDiff, Int.reduceToNat, Int.reduceLT, Int.reduceLE, Int.reduceEq, beq_self_eq_true]
      refine condK_split (fun h3 => ?_) (fun h3 => ?_)
      · have h3 := of_decide_eq_true h3
        have : vmissing a b = l := by
          rw [hm]
          have hpre : l <+: vmissTo a b 13 := by
            rw [hl]
            refine (vmissP_pre a b p (Nat.le_of_lt hj')).trans ?_
            rw [← vmissTo_succ]
            exact vmissTo_pre a b (by omega)
          rw [List.prefix_iff_eq_take] at hpre
          rw [show (4096 : Nat) = l.length by omega]
          exact hpre.symm
        simp only [go_sem, Nat.reduceAdd, Nat.reduceSub, Nat.reduceMul, Nat.reduceLT, Nat.reduceLeDiff, ↓reduceIte, reduceCtorEq, Nat.reduceEqDiff, Int.reduceToNat, Int.reduceLT, Int.reduceLE, Int.reduceEq, beq_self_eq_true, this]
      · have h3 := of_decide_eq_false h3
        simp only [go_sem, Nat.reduceAdd, Nat.reduceSub, Nat.reduceMul, Nat.reduceLT, Nat.reduceLeDiff, ↓reduceIte, reduceCtorEq, Nat.reduceEqDiff, Int.reduceToNat, Int.reduceLT, Int.reduceLE, Int.reduceEq, beq_self_eq_true]
        refine appK_live _ _ _ _ _ _ _ _ _ _ ht ?_ ?_ ?_ (fun u tk' hu => ?_)
        · simp
        · simp only [go_sem, Nat.reduceAdd, Nat.reduceSub, Nat.reduceMul, Nat.reduceLT, Nat.reduceLeDiff, ↓reduceIte, reduceCtorEq, Nat.reduceEqDiff, Int.reduceToNat, Int.reduceLT, Int.reduceLE, Int.reduceEq, beq_self_eq_true]
        · simp only [go_sem, Nat.reduceAdd, Nat.reduceSub, Nat.reduceMul, Nat.reduceLT, Nat.reduceLeDiff, ↓reduceIte, reduceCtorEq, Nat.reduceEqDiff, Int.reduceToNat, Int.reduceLT, Int.reduceLE, Int.reduceEq, beq_self_eq_true]; omega
        have hw : IntKind.i64.wrap (a.getD p 0 + 1 + (j : Int) + 1) = a.getD p 0 + 1 + (j + 1 : Nat) := by rw [wrap64] <;> omega
        simp only [go_sem, Nat.reduceAdd, Nat.reduceSub, Nat.reduceMul, Nat.reduceLT, Nat.reduceLeDiff, ↓reduceIte, reduceCtorEq, Nat.reduceEqDiff, Int.reduceToNat, Int.reduceLT, Int.reduceLE, Int.reduceEq, beq_self_eq_true, dots_snoc, hw]
        refine ⟨vcnt a b p - (j + 1), by omega, j + 1, _, u, tk', reg_intro rfl rfl ⟨rfl, by omega, hu, by rw [hl, vmissP_succ], by simp; omega⟩⟩
    · have hi2 := of_decide_eq_false hc
      have hj' : j = vcnt a b p := by simp only [vcnt] at hj ⊢; omega
      simp only [go_sem, Nat.reduceAdd, Nat.reduceSub, Nat.reduceMul, Nat.reduceLT, Nat.reduceLeDiff, ↓reduceIte, reduceCtorEq, Nat.reduceEqDiff, Int.reduceToNat, Int.reduceLT, Int.reduceLE, Int.reduceEq, beq_self_eq_true, wrapNat p (by omega)]
      refine ⟨13 - (p + 1), by omega, p + 1, t, tk, ?_⟩
      rw [hj', ← vmissTo_succ] at hl
      subst hl
      exact (reg_intro rfl rfl ⟨rfl, by omega, ht, hlen⟩)
  · have hi := of_decide_eq_false hc
    obtain rfl : p = 13 := by omega
    simp only [go_sem, Nat.reduceAdd, Nat.reduceSub, Nat.reduceMul, Nat.reduceLT, Nat.reduceLeDiff, ↓reduceIte, reduceCtorEq, Nat.reduceEqDiff, Int.reduceToNat, Int.reduceLT, Int.reduceLE, Int.reduceEq, beq_self_eq_true, hm]
    rw [List.take_of_length_le hlen]

end Go.Ab
