/- Vectors: which may be, how many there are, what is missing. Conditions: none. -/
import Derived.Test.YtebfpijbnklaiaaAbW
set_option linter.unusedSimpArgs false
namespace Go.Ab
open Go.Proofs

def vok (n : Int) : Bool := decide (0 ≤ n) && decide (n ≤ 1048576)
def vcheck (v : List Int) : Bool := decide (v.getD 0 0 = 0) && (List.range 13).all fun p => vok (v.getD p 0)
theorem vcheck_iff (v : List Int) : vcheck v = true ↔ v.getD 0 0 = 0 ∧ ∀ p, p < 13 → vok (v.getD p 0) = true := by
  simp only [vcheck, Bool.and_eq_true, decide_eq_true_eq, List.all_eq_true, List.mem_range]
theorem vcheck_not {v : List Int} (h : ¬ (v.getD 0 0 = 0 ∧ ∀ p, p < 13 → vok (v.getD p 0) = true)) : vcheck v = false := by
  rw [← vcheck_iff] at h; simpa using h

theorem wrapNat (k : Nat) (h : k < 4000000000) : IntKind.i64.wrap ((k : Int) + 1) = ((k + 1 : Nat) : Int) := by rw [wrap64] <;> omega

theorem vec_check (v : List Int) (hv : v.length = 13) : PSpec Try.prog CT 59 [ints v] (· = .bool (vcheck v)) := by
  refine PSpec.of hT Try.func59 rfl (by kernel_rfl) rfl rfl ?_
  simp only [Try.f59, go_sem, Nat.reduceAdd, Nat.reduceSub, Nat.reduceMul, Nat.reduceLT, Nat.reduceLeDiff, ↓reduceIte, reduceCtorEq, Nat.reduceEqDiff, Int.reduceToNat, Int.reduceLT, Int.reduceLE, Int.reduceEq, beq_self_eq_true, hv]
  refine awp_loop (fun n s => ∃ (k : Nat) (g : Nat → D), s = ⟨[ints v, .ptr 0 [], .lit (.bool false), g 3, g 4, ints v, .lit (.int .i64 k), g 7, g 8, g 9, g 10, g 11, g 12, g 13, g 14, g 15, g 16, g 17, g 18, g 19, g 20, g 21, g 22, g 23, g 24], ⟨[(.arr 13 .leaf, ints v)], []⟩⟩ ∧ n = 13 - k ∧ k ≤ 13 ∧ (0 < k → v.getD 0 0 = 0) ∧ ∀ p, p < k → vok (v.getD p 0) = true) 13 ⟨0, reg_intro rfl rfl ⟨by simp, by omega, by simp, by simp⟩⟩ ?_
  rintro n s ⟨k, g, rfl, hn, hk, hz, hp⟩
  simp only [go_sem, Nat.reduceAdd, Nat.reduceSub, Nat.reduceMul, Nat.reduceLT, Nat.reduceLeDiff, ↓reduceIte, reduceCtorEq, Nat.reduceEqDiff, Int.reduceToNat, Int.reduceLT, Int.reduceLE, Int.reduceEq, beq_self_eq_true, hv]
  refine condK_split (fun hc => ?_) (fun hc => ?_)
  · have hi := of_decide_eq_true hc
    have hk' : k < 13 := by omega
    simp only [go_sem, Nat.reduceAdd, Nat.reduceSub, Nat.reduceMul, Nat.reduceLT, Nat.reduceLeDiff, ↓reduceIte, reduceCtorEq, Nat.reduceEqDiff, Int.reduceToNat, Int.reduceLT, Int.reduceLE, Int.reduceEq, beq_self_eq_true, hv, hk', hi, wrapNat k (by omega)]
    have bad : vok (v.getD k 0) = false → vcheck v = false := fun h => by
      refine vcheck_not fun hh => ?_; rw [hh.2 k hk'] at h; cases h
    refine guardK_split (fun h1 => ?_) (fun h1 => ?_)
    · simp only [go_sem, Nat.reduceAdd, Nat.reduceSub, Nat.reduceMul, Nat.reduceLT, Nat.reduceLeDiff, ↓reduceIte, reduceCtorEq, Nat.reduceEqDiff, Int.reduceToNat, Int.reduceLT, Int.reduceLE, Int.reduceEq, beq_self_eq_true, hv, hk', hi, h1, bad (by simp only [vok, Bool.and_eq_false_iff, decide_eq_false_iff_not]; have := of_decide_eq_true h1; omega)]
    · simp only [go_sem, Nat.reduceAdd, Nat.reduceSub, Nat.reduceMul, Nat.reduceLT, Nat.reduceLeDiff, ↓reduceIte, reduceCtorEq, Nat.reduceEqDiff, Int.reduceToNat, Int.reduceLT, Int.reduceLE, Int.reduceEq, beq_self_eq_true, hv, hk', hi, h1]
      refine guardK_split (fun h2 => ?_) (fun h2 => ?_)
      · simp only [go_sem, Nat.reduceAdd, Nat.reduceSub, Nat.reduceMul, Nat.reduceLT, Nat.reduceLeDiff, ↓reduceIte, reduceCtorEq, Nat.reduceEqDiff, Int.reduceToNat, Int.reduceLT, Int.reduceLE, Int.reduceEq, beq_self_eq_true, hv, hk', hi, h1, h2, bad (by simp only [vok, Bool.and_eq_false_iff, decide_eq_false_iff_not]; have := of_decide_eq_true h2; omega)]
      · simp only [go_sem, Nat.reduceAdd, Nat.reduceSub, Nat.reduceMul, Nat.reduceLT, Nat.reduceLeDiff, ↓reduceIte, reduceCtorEq, Nat.reduceEqDiff, Int.reduceToNat, Int.reduceLT, Int.reduceLE, Int.reduceEq, beq_self_eq_true, hv, hk', hi, h1, h2]
        have e1 := of_decide_eq_false h1
        have e2 := of_decide_eq_false h2
        have ok : vok (v.getD k 0) = true := by simp only [vok, Bool.and_eq_true, decide_eq_true_eq]; omega
        refine guardK_split (fun h3 => ?_) (fun h3 => ?_)
        · simp only [go_sem, Nat.reduceAdd, Nat.reduceSub, Nat.reduceMul, Nat.reduceLT, Nat.reduceLeDiff, ↓reduceIte, reduceCtorEq, Nat.reduceEqDiff, Int.reduceToNat, Int.reduceLT, Int.reduceLE, Int.reduceEq, beq_self_eq_true, hv, hk', hi, h1, h2, h3]
          have e3 := of_decide_eq_true h3
          refine condK_split (fun h4 => ?_) (fun h4 => ?_)
          · have : vcheck v = false := by
              refine vcheck_not fun hh => ?_
              simp only [Bool.not_eq_true', decide_eq_false_iff_not] at h4
              obtain rfl : k = 0 := by omega
              exact h4 hh.1
            simp only [go_sem, Nat.reduceAdd, Nat.reduceSub, Nat.reduceMul, Nat.reduceLT, Nat.reduceLeDiff, ↓reduceIte, reduceCtorEq, Nat.reduceEqDiff, Int.reduceToNat, Int.reduceLT, Int.reduceLE, Int.reduceEq, beq_self_eq_true, hv, this]
          · simp only [go_sem, Nat.reduceAdd, Nat.reduceSub, Nat.reduceMul, Nat.reduceLT, Nat.reduceLeDiff, ↓reduceIte, reduceCtorEq, Nat.reduceEqDiff, Int.reduceToNat, Int.reduceLT, Int.reduceLE, Int.reduceEq, beq_self_eq_true, hv, wrapNat k (by omega)]
            refine ⟨13 - (k + 1), by omega, k + 1, reg_intro rfl rfl ⟨rfl, by omega, fun _ => ?_, fun p h => ?_⟩⟩
            · simp only [Bool.not_eq_false', decide_eq_true_eq] at h4
              obtain rfl : k = 0 := by omega
              exact h4
            · by_cases hpk : p = k
              · subst hpk; exact ok
              · exact hp p (by omega)
        · simp only [go_sem, Nat.reduceAdd, Nat.reduceSub, Nat.reduceMul, Nat.reduceLT, Nat.reduceLeDiff, ↓reduceIte, reduceCtorEq, Nat.reduceEqDiff, Int.reduceToNat, Int.reduceLT, Int.reduceLE, Int.reduceEq, beq_self_eq_true, hv, hk', hi, h1, h2, h3, wrapNat k (by omega)]
          have e3 := of_decide_eq_false h3
          refine ⟨13 - (k + 1), by omega, k + 1, reg_intro rfl rfl ⟨rfl, by omega, fun _ => hz (by omega), fun p h => ?_⟩⟩
          by_cases hpk : p = k
          · subst hpk; exact ok
          · exact hp p (by omega)
  · have hi := of_decide_eq_false hc
    obtain rfl : k = 13 := by omega
    have : vcheck v = true := (vcheck_iff v).2 ⟨hz (by omega), hp⟩
    simp only [go_sem, Nat.reduceAdd, Nat.reduceSub, Nat.reduceMul, Nat.reduceLT, Nat.reduceLeDiff, ↓reduceIte, reduceCtorEq, Nat.reduceEqDiff, Int.reduceToNat, Int.reduceLT, Int.reduceLE, Int.reduceEq, beq_self_eq_true, hv, this]

theorem ref_check (v : List Int) (hv : v.length = 13) : PSpec Try.prog CT 38 [ints v] (· = .bool (vcheck v)) := by
  refine PSpec.of hT Try.func38 rfl (by kernel_rfl) rfl rfl ?_
  simp only [Try.f38, go_sem, Nat.reduceAdd, Nat.reduceSub, Nat.reduceMul, Nat.reduceLT, Nat.reduceLeDiff, ↓reduceIte, reduceCtorEq, Nat.reduceEqDiff, Int.reduceToNat, Int.reduceLT, Int.reduceLE, Int.reduceEq, beq_self_eq_true, hv]
  refine awp_loop (fun n s => ∃ (k : Nat) (g : Nat → D), s = ⟨[ints v, .ptr 0 [], .lit (.bool false), .lit (.int .i64 k), g 4, g 5, g 6, g 7, g 8, g 9, g 10, g 11, g 12, g 13, g 14, g 15, g 16, g 17, g 18, g 19, g 20], ⟨[(.arr 13 .leaf, ints v)], []⟩⟩ ∧ n = 13 - k ∧ 1 ≤ k ∧ k ≤ 13 ∧ ∀ p, 1 ≤ p → p < k → vok (v.getD p 0) = true) 12 ⟨1, reg_intro rfl rfl ⟨by simp, by omega, by omega, by omega⟩⟩ ?_
  rintro n s ⟨k, g, rfl, hn, hk0, hk, hp⟩
  simp only [go_sem, Nat.reduceAdd, Nat.reduceSub, Nat.reduceMul, Nat.reduceLT, Nat.reduceLeDiff, ↓reduceIte, reduceCtorEq, Nat.reduceEqDiff, Int.reduceToNat, Int.reduceLT, Int.reduceLE, Int.reduceEq, beq_self_eq_true, hv]
  refine condK_split (fun hc => ?_) (fun hc => ?_)
  · have hi := of_decide_eq_true hc
    have hk' : k < 13 := by omega
    simp only [go_sem, Nat.reduceAdd, Nat.reduceSub, Nat.reduceMul, Nat.reduceLT, Nat.reduceLeDiff, ↓reduceIte, reduceCtorEq, Nat.reduceEqDiff, Int.reduceToNat, Int.reduceLT, Int.reduceLE, Int.reduceEq, beq_self_eq_true, hv, hk', hi, wrapNat k (by omega)]
    have bad : vok (v.getD k 0) = false → vcheck v = false := fun h => by
      refine vcheck_not fun hh => ?_; rw [hh.2 k hk'] at h; cases h
    refine guardK_split (fun h1 => ?_) (fun h1 => ?_)
    · simp only [go_sem, Nat.reduceAdd, Nat.reduceSub, Nat.reduceMul, Nat.reduceLT, Nat.reduceLeDiff, ↓reduceIte, reduceCtorEq, Nat.reduceEqDiff, Int.reduceToNat, Int.reduceLT, Int.reduceLE, Int.reduceEq, beq_self_eq_true, hv, hk', hi, h1, bad (by simp only [vok, Bool.and_eq_false_iff, decide_eq_false_iff_not]; have := of_decide_eq_true h1; omega)]
    · simp only [go_sem, Nat.reduceAdd, Nat.reduceSub, Nat.reduceMul, Nat.reduceLT, Nat.reduceLeDiff, ↓reduceIte, reduceCtorEq, Nat.reduceEqDiff, Int.reduceToNat, Int.reduceLT, Int.reduceLE, Int.reduceEq, beq_self_eq_true, hv, hk', hi, h1]
      refine condK_split (fun h2 => ?_) (fun h2 => ?_)
      · simp only [go_sem, Nat.reduceAdd, Nat.reduceSub, Nat.reduceMul, Nat.reduceLT, Nat.reduceLeDiff, ↓reduceIte, reduceCtorEq, Nat.reduceEqDiff, Int.reduceToNat, Int.reduceLT, Int.reduceLE, Int.reduceEq, beq_self_eq_true, hv, hk', hi, h1, h2, bad (by simp only [vok, Bool.and_eq_false_iff, decide_eq_false_iff_not]; have := of_decide_eq_true h2; omega)]
      · simp only [go_sem, Nat.reduceAdd, Nat.reduceSub, Nat.reduceMul, Nat.reduceLT, Nat.reduceLeDiff, ↓reduceIte, reduceCtorEq, Nat.reduceEqDiff, Int.reduceToNat, Int.reduceLT, Int.reduceLE, Int.reduceEq, beq_self_eq_true, hv, hk', hi, h1, h2, wrapNat k (by omega)]
        have e1 := of_decide_eq_false h1
        have e2 := of_decide_eq_false h2
        refine ⟨13 - (k + 1), by omega, k + 1, reg_intro rfl rfl ⟨rfl, by omega, by omega, fun p h0 h => ?_⟩⟩
        by_cases hpk : p = k
        · subst hpk; simp only [vok, Bool.and_eq_true, decide_eq_true_eq]; omega
        · exact hp p h0 (by omega)
  · have hi := of_decide_eq_false hc
    obtain rfl : k = 13 := by omega
    simp only [go_sem, Nat.reduceAdd, Nat.reduceSub, Nat.reduceMul, Nat.reduceLT, Nat.reduceLeDiff, ↓reduceIte, reduceCtorEq, Nat.reduceEqDiff, Int.reduceToNat, Int.reduceLT, Int.reduceLE, Int.reduceEq, beq_self_eq_true, hv]
    congr 2
    rw [Bool.eq_iff_iff, decide_eq_true_eq, vcheck_iff]
    refine ⟨fun h => ⟨h, fun p hp' => ?_⟩, fun h => h.1⟩
    by_cases hpk : p = 0
    · subst hpk; rw [h]; rfl
    · exact hp p (by omega) hp'

theorem getD_dots (l : List (Int × Int)) (k : Nat) (h : (k < l.length) = True) : (l.map fun d => dotD d.1 d.2)[k]? = some (dotD (l.getD k (0, 0)).1 (l.getD k (0, 0)).2) := by
  have h := of_eq_true h
  simp [h]
theorem eqB_dot (a b : Int × Int) : eqB (dotD a.1 a.2) (dotD b.1 b.2) = decide (a = b) :=
  eqB_eq (by rw [D.agg.injEq]; simp [Prod.ext_iff])
theorem pureL_dots (l : List (Int × Int)) : pureL (l.map fun d => dotD d.1 d.2) = True := pureL_map _ _ fun _ => by simp [pureD, pureL]

theorem ref_dots (a b : List (Int × Int)) (ha : a.length < 4000000000) : PSpec Try.prog CT 57 [dotsD a .no, dotsD b .no] (· = .bool (decide (a = b))) := by
  refine PSpec.of hT Try.func57 rfl (by kernel_rfl) rfl rfl ?_
  simp only [Try.f57, go_sem, Nat.reduceAdd, Nat.reduceSub, Nat.reduceMul, Nat.reduceLT, Nat.reduceLeDiff, ↓reduceIte, reduceCtorEq, Nat.reduceEqDiff, Int.reduceToNat, Int.reduceLT, Int.reduceLE, Int.reduceEq, beq_self_eq_true]
  refine condK_split (fun hc => ?_) (fun hc => ?_)
  · have : a ≠ b := by rintro rfl; simp at hc
    simp only [go_sem, Nat.reduceAdd, Nat.reduceSub, Nat.reduceMul, Nat.reduceLT, Nat.reduceLeDiff, ↓reduceIte, reduceCtorEq, Nat.reduceEqDiff, Int.reduceToNat, Int.reduceLT, Int.reduceLE, Int.reduceEq, beq_self_eq_true, decide_eq_false this]
  · have hl : a.length = b.length := by simp only [Bool.not_eq_false', decide_eq_true_eq] at hc; omega
    simp only [go_sem, Nat.reduceAdd, Nat.reduceSub, Nat.reduceMul, Nat.reduceLT, Nat.reduceLeDiff, ↓reduceIte, reduceCtorEq, Nat.reduceEqDiff, Int.reduceToNat, Int.reduceLT, Int.reduceLE, Int.reduceEq, beq_self_eq_true]
    refine awp_loop (fun n s => ∃ (k : Nat) (g : Nat → D), s = ⟨[dotsD a .no, dotsD b .no, g 2, g 3, .lit (.bool false), .lit (.int .i64 k), g 6, g 7, g 8, g 9, g 10, g 11, g 12, g 13, g 14, g 15, g 16, g 17, g 18, g 19, g 20, g 21, g 22, g 23, g 24, g 25], ⟨[], []⟩⟩ ∧ n = a.length - k ∧ k ≤ a.length ∧ ∀ p, p < k → a.getD p (0, 0) = b.getD p (0, 0)) a.length ⟨0, reg_intro rfl rfl ⟨by simp, by omega, by simp⟩⟩ ?_
    rintro n s ⟨k, g, rfl, hn, hk, hp⟩
    simp only [go_sem, Nat.reduceAdd, Nat.reduceSub, Nat.reduceMul, Nat.reduceLT, Nat.reduceLeDiff, ↓reduceIte, reduceCtorEq, Nat.reduceEqDiff, Int.reduceToNat, Int.reduceLT, Int.reduceLE, Int.reduceEq, beq_self_eq_true]
    refine condK_split (fun hc => ?_) (fun hc => ?_)
    · have hk' : k < a.length := by have := of_decide_eq_true hc; omega
      have hk2 : k < b.length := by omega
      simp only [go_sem, Nat.reduceAdd, Nat.reduceSub, Nat.reduceMul, Nat.reduceLT, Nat.reduceLeDiff, ↓reduceIte, reduceCtorEq, Nat.reduceEqDiff, Int.reduceToNat, Int.reduceLT, Int.reduceLE, Int.reduceEq, beq_self_eq_true, hk', hk2, getD_dots]
      refine .inl ⟨by kernel_rfl, condK_split (fun h1 => ?_) (fun h1 => ?_)⟩
      · simp only [eqB_dot, Bool.not_eq_true', decide_eq_false_iff_not] at h1
        have : a ≠ b := by rintro rfl; exact h1 rfl
        simp only [go_sem, Nat.reduceAdd, Nat.reduceSub, Nat.reduceMul, Nat.reduceLT, Nat.reduceLeDiff, ↓reduceIte, reduceCtorEq, Nat.reduceEqDiff, Int.reduceToNat, Int.reduceLT, Int.reduceLE, Int.reduceEq, beq_self_eq_true, decide_eq_false this]
      · simp only [eqB_dot, Bool.not_eq_false', decide_eq_true_eq] at h1
        simp only [go_sem, Nat.reduceAdd, Nat.reduceSub, Nat.reduceMul, Nat.reduceLT, Nat.reduceLeDiff, ↓reduceIte, reduceCtorEq, Nat.reduceEqDiff, Int.reduceToNat, Int.reduceLT, Int.reduceLE, Int.reduceEq, beq_self_eq_true, wrapNat k (by omega)]
        refine ⟨a.length - (k + 1), by omega, k + 1, reg_intro rfl rfl ⟨rfl, by omega, fun p h => ?_⟩⟩
        by_cases hpk : p = k
        · subst hpk; exact h1
        · exact hp p (by omega)
    · have hi := of_decide_eq_false hc
      obtain rfl : k = a.length := by omega
      have : a = b := List.ext_getElem hl fun i h1 h2 => by
        have := hp i h1
        simpa [List.getD_eq_getElem?_getD, h1, h2] using this
      simp only [go_sem, Nat.reduceAdd, Nat.reduceSub, Nat.reduceMul, Nat.reduceLT, Nat.reduceLeDiff, ↓reduceIte, reduceCtorEq, Nat.reduceEqDiff, Int.reduceToNat, Int.reduceLT, Int.reduceLE, Int.reduceEq, beq_self_eq_true, decide_eq_true this]

end Go.Ab
