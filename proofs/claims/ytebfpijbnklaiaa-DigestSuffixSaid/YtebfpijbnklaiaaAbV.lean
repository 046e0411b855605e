/- Vectors: what the program's functions on them compute. Conditions: none. -/
import Derived.Test.YtebfpijbnklaiaaAbT
set_option linter.unusedSimpArgs false
namespace Go.Ab
open Go.Proofs



def vjoin (a b : List Int) : List Int := List.zipWith max a b
def vmeet (a b : List Int) : List Int := List.zipWith min a b
def vleq (a b : List Int) : Bool := decide (vjoin a b = b)

theorem wrapS (k : Nat) (h : k < 1000000) : IntKind.i64.wrap ((k : Int) + 1) = ((k + 1 : Nat) : Int) := by rw [wrap64] <;> omega

theorem getD_set (l : List Int) (k : Nat) (x : Int) (p : Nat) (h : k < l.length) : (l.set k x).getD p 0 = if p = k then x else l.getD p 0 := by
  by_cases h1 : p = k
  · subst h1; simp [List.getD_eq_getElem?_getD, h]
  · rw [if_neg h1]; simp [List.getD_eq_getElem?_getD, List.getElem?_set, Ne.symm h1]
theorem ext13 {l m : List Int} (hl : l.length = 13) (hm : m.length = 13) (h : ∀ p, p < 13 → l.getD p 0 = m.getD p 0) : l = m :=
  List.ext_getElem (by omega) fun i h1 h2 => by
    have := h i (by omega)
    rwa [List.getD_eq_getElem?_getD, List.getD_eq_getElem?_getD, List.getElem?_eq_getElem h1, List.getElem?_eq_getElem h2] at this
theorem zip_at (f : Int → Int → Int) (a b : List Int) (ha : a.length = 13) (hb : b.length = 13) (p : Nat) (h : p < 13) : (List.zipWith f a b).getD p 0 = f (a.getD p 0) (b.getD p 0) := by
  have h1 : p < a.length := by omega
  have h2 : p < b.length := by omega
  simp [List.getD_eq_getElem?_getD, List.getElem?_zipWith, h1, h2]
theorem vjoin_at (a b : List Int) (ha : a.length = 13) (hb : b.length = 13) (p : Nat) (h : p < 13) : (vjoin a b).getD p 0 = max (a.getD p 0) (b.getD p 0) := zip_at max a b ha hb p h
theorem vmeet_at (a b : List Int) (ha : a.length = 13) (hb : b.length = 13) (p : Nat) (h : p < 13) : (vmeet a b).getD p 0 = min (a.getD p 0) (b.getD p 0) := zip_at min a b ha hb p h
theorem vjoin_len (a b : List Int) (ha : a.length = 13) (hb : b.length = 13) : (vjoin a b).length = 13 := by simp [vjoin, ha, hb]
theorem vmeet_len (a b : List Int) (ha : a.length = 13) (hb : b.length = 13) : (vmeet a b).length = 13 := by simp [vmeet, ha, hb]

theorem vec_join (a b : List Int) (ha : a.length = 13) (hb : b.length = 13) : PSpec Try.prog CT 34 [ints a, ints b] (· = ints (vjoin a b)) := by
  refine PSpec.of hT Try.func34 rfl (by kernel_rfl) rfl rfl ?_
  simp only [Try.f34, go_sem, Nat.reduceAdd, Nat.reduceSub, Nat.reduceMul, Nat.reduceLT, Nat.reduceLeDiff, ↓reduceIte, reduceCtorEq, Nat.reduceEqDiff, Int.reduceToNat, Int.reduceLT, Int.reduceLE, Int.reduceEq, beq_self_eq_true, ha, hb]
  refine awp_loop (fun n s => ∃ (k : Nat) (l : List Int) (g : Nat → D), s = ⟨[ints a, ints b, .ptr 0 [], .ptr 1 [], .ptr 2 [], g 5, .lit (.int .i64 k), g 7, g 8, g 9, g 10, g 11, g 12, g 13, g 14, g 15, g 16, g 17, g 18, g 19], ⟨[(.arr 13 .leaf, ints l), (.arr 13 .leaf, ints b), (.arr 13 .leaf, ints (zeros 13))], []⟩⟩ ∧ n = 13 - k ∧ k ≤ 13 ∧ l.length = 13 ∧ ∀ p, l.getD p 0 = if p < k then max (a.getD p 0) (b.getD p 0) else a.getD p 0) 13 ⟨0, a, reg_intro rfl rfl ⟨by simp, by omega, ha, by simp⟩⟩ ?_
  rintro n s ⟨k, l, g, rfl, hn, hk, hl, hp⟩
  simp only [go_sem, Nat.reduceAdd, Nat.reduceSub, Nat.reduceMul, Nat.reduceLT, Nat.reduceLeDiff, ↓reduceIte, reduceCtorEq, Nat.reduceEqDiff, Int.reduceToNat, Int.reduceLT, Int.reduceLE, Int.reduceEq, beq_self_eq_true, hl, hb]
  refine condK_split (fun hc => ?_) (fun hc => ?_)
  · have hi := of_decide_eq_true hc
    have hk' : k < 13 := by omega
    simp only [go_sem, Nat.reduceAdd, Nat.reduceSub, Nat.reduceMul, Nat.reduceLT, Nat.reduceLeDiff, ↓reduceIte, reduceCtorEq, Nat.reduceEqDiff, Int.reduceToNat, Int.reduceLT, Int.reduceLE, Int.reduceEq, beq_self_eq_true, hl, hb, hk', hi, wrapS k (by omega)]
    refine .inl ⟨by kernel_rfl, 13 - (k + 1), by omega, k + 1, _, reg_intro rfl rfl ⟨rfl, by omega, by simp [hl], fun p => ?_⟩⟩
    rw [getD_set _ _ _ _ (by omega)]
    by_cases h1 : p = k
    · subst h1; rw [if_pos rfl, hp, if_neg (by omega), if_pos (by omega)]
    · rw [if_neg h1, hp]; by_cases h2 : p < k
      · rw [if_pos h2, if_pos (by omega)]
      · rw [if_neg h2, if_neg (by omega)]
  · have hi := of_decide_eq_false hc
    obtain rfl : k = 13 := by omega
    simp only [go_sem, Nat.reduceAdd, Nat.reduceSub, Nat.reduceMul, Nat.reduceLT, Nat.reduceLeDiff, ↓reduceIte, reduceCtorEq, Nat.reduceEqDiff, Int.reduceToNat, Int.reduceLT, Int.reduceLE, Int.reduceEq, beq_self_eq_true, hl, hb]
    congr 2
    exact ext13 hl (by simp [vjoin, ha, hb]) fun p h => by rw [hp, if_pos h, vjoin_at _ _ ha hb _ h]
theorem vec_meet (a b : List Int) (ha : a.length = 13) (hb : b.length = 13) : PSpec Try.prog CT 35 [ints a, ints b] (· = ints (vmeet a b)) := by
  refine PSpec.of hT Try.func35 rfl (by kernel_rfl) rfl rfl ?_
  simp only [Try.f35, go_sem, Nat.reduceAdd, Nat.reduceSub, Nat.reduceMul, Nat.reduceLT, Nat.reduceLeDiff, ↓reduceIte, reduceCtorEq, Nat.reduceEqDiff, Int.reduceToNat, Int.reduceLT, Int.reduceLE, Int.reduceEq, beq_self_eq_true, ha, hb]
  refine awp_loop (fun n s => ∃ (k : Nat) (l : List Int) (g : Nat → D), s = ⟨[ints a, ints b, .ptr 0 [], .ptr 1 [], .ptr 2 [], g 5, .lit (.int .i64 k), g 7, g 8, g 9, g 10, g 11, g 12, g 13, g 14, g 15, g 16, g 17, g 18, g 19], ⟨[(.arr 13 .leaf, ints l), (.arr 13 .leaf, ints b), (.arr 13 .leaf, ints (zeros 13))], []⟩⟩ ∧ n = 13 - k ∧ k ≤ 13 ∧ l.length = 13 ∧ ∀ p, l.getD p 0 = if p < k then min (a.getD p 0) (b.getD p 0) else a.getD p 0) 13 ⟨0, a, reg_intro rfl rfl ⟨by simp, by omega, ha, by simp⟩⟩ ?_
  rintro n s ⟨k, l, g, rfl, hn, hk, hl, hp⟩
  simp only [go_sem, Nat.reduceAdd, Nat.reduceSub, Nat.reduceMul, Nat.reduceLT, Nat.reduceLeDiff, ↓reduceIte, reduceCtorEq, Nat.reduceEqDiff, Int.reduceToNat, Int.reduceLT, Int.reduceLE, Int.reduceEq, beq_self_eq_true, hl, hb]
  refine condK_split (fun hc => ?_) (fun hc => ?_)
  · have hi := of_decide_eq_true hc
    have hk' : k < 13 := by omega
    simp only [go_sem, Nat.reduceAdd, Nat.reduceSub, Nat.reduceMul, Nat.reduceLT, Nat.reduceLeDiff, ↓reduceIte, reduceCtorEq, Nat.reduceEqDiff, Int.reduceToNat, Int.reduceLT, Int.reduceLE, Int.reduceEq, beq_self_eq_true, hl, hb, hk', hi, wrapS k (by omega)]
    refine .inl ⟨by kernel_rfl, 13 - (k + 1), by omega, k + 1, _, reg_intro rfl rfl ⟨rfl, by omega, by simp [hl], fun p => ?_⟩⟩
    rw [getD_set _ _ _ _ (by omega)]
    by_cases h1 : p = k
    · subst h1; rw [if_pos rfl, hp, if_neg (by omega), if_pos (by omega)]
    · rw [if_neg h1, hp]; by_cases h2 : p < k
      · rw [if_pos h2, if_pos (by omega)]
      · rw [if_neg h2, if_neg (by omega)]
  · have hi := of_decide_eq_false hc
    obtain rfl : k = 13 := by omega
    simp only [go_sem, Nat.reduceAdd, Nat.reduceSub, Nat.reduceMul, Nat.reduceLT, Nat.reduceLeDiff, ↓reduceIte, reduceCtorEq, Nat.reduceEqDiff, Int.reduceToNat, Int.reduceLT, Int.reduceLE, Int.reduceEq, beq_self_eq_true, hl, hb]
    congr 2
    exact ext13 hl (by simp [vmeet, ha, hb]) fun p h => by rw [hp, if_pos h, vmeet_at _ _ ha hb _ h]

theorem vec_leq (a b : List Int) (ha : a.length = 13) (hb : b.length = 13) : PSpec Try.prog CT 36 [ints a, ints b] (· = .bool (vleq a b)) := by
  refine PSpec.of hT Try.func36 rfl (by kernel_rfl) rfl rfl ?_
  simp only [Try.f36, go_sem, Nat.reduceAdd, Nat.reduceSub, Nat.reduceMul, Nat.reduceLT, Nat.reduceLeDiff, ↓reduceIte, reduceCtorEq, Nat.reduceEqDiff, Int.reduceToNat, Int.reduceLT, Int.reduceLE, Int.reduceEq, beq_self_eq_true, ha, hb]
  refine .inl ⟨by kernel_rfl, callD_pure (vec_join a b ha hb) (by simp only [go_sem, Nat.reduceAdd, Nat.reduceSub, Nat.reduceMul, Nat.reduceLT, Nat.reduceLeDiff, ↓reduceIte, reduceCtorEq, Nat.reduceEqDiff, Int.reduceToNat, Int.reduceLT, Int.reduceLE, Int.reduceEq, beq_self_eq_true]) (by simp only [go_sem, Nat.reduceAdd, Nat.reduceSub, Nat.reduceMul, Nat.reduceLT, Nat.reduceLeDiff, ↓reduceIte, reduceCtorEq, Nat.reduceEqDiff, Int.reduceToNat, Int.reduceLT, Int.reduceLE, Int.reduceEq, beq_self_eq_true]) ?_⟩
  simp only [go_sem, Nat.reduceAdd, Nat.reduceSub, Nat.reduceMul, Nat.reduceLT, Nat.reduceLeDiff, ↓reduceIte, reduceCtorEq, Nat.reduceEqDiff, Int.reduceToNat, Int.reduceLT, Int.reduceLE, Int.reduceEq, beq_self_eq_true, ha, hb, vjoin_len a b ha hb]
  rfl
end Go.Ab
