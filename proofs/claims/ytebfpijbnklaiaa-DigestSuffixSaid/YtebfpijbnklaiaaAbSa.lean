/- The document's vectors, and lists of numbers: what the program's functions on them compute. Conditions: none. -/
import Derived.Test.YtebfpijbnklaiaaAbLa
set_option linter.unusedSimpArgs false
namespace Go.Ab
open Go.Proofs

theorem ref_join (a b : List Int) (ha : a.length = 13) (hb : b.length = 13) : PSpec Try.prog CT 32 [ints a, ints b] (· = ints (vjoin a b)) := by
  refine PSpec.of hT Try.func32 rfl (by kernel_rfl) rfl rfl ?_
  simp only [Try.f32, go_sem, Nat.reduceAdd, Nat.reduceSub, Nat.reduceMul, Nat.reduceLT, Nat.reduceLeDiff, ↓reduceIte, reduceCtorEq, Nat.reduceEqDiff, Int.reduceToNat, Int.reduceLT, Int.reduceLE, Int.reduceEq, beq_self_eq_true, ha, hb]
  refine awp_loop (fun n s => ∃ (k : Nat) (l : List Int) (g : Nat → D), s = ⟨[ints a, ints b, .ptr 0 [], .ptr 1 [], .ptr 2 [], .lit (.int .i64 k), g 6, g 7, g 8, g 9, g 10, g 11, g 12, g 13, g 14, g 15, g 16, g 17, g 18, g 19], ⟨[(.arr 13 .leaf, ints l), (.arr 13 .leaf, ints b), (.arr 13 .leaf, ints (zeros 13))], []⟩⟩ ∧ n = 13 - k ∧ k ≤ 13 ∧ l.length = 13 ∧ ∀ p, l.getD p 0 = if p < k then max (a.getD p 0) (b.getD p 0) else a.getD p 0) 13 ⟨0, a, reg_intro rfl rfl ⟨by simp, by omega, ha, by simp⟩⟩ ?_
  rintro n s ⟨k, l, g, rfl, hn, hk, hl, hp⟩
  simp only [go_sem, Nat.reduceAdd, Nat.reduceSub, Nat.reduceMul, Nat.reduceLT, Nat.reduceLeDiff, ↓reduceIte, reduceCtorEq, Nat.reduceEqDiff, Int.reduceToNat, Int.reduceLT, Int.reduceLE, Int.reduceEq, beq_self_eq_true, hl, hb]
  refine condK_split (fun hc => ?_) (fun hc => ?_)
  · have hi := of_decide_eq_true hc
    have hk' : k < 13 := by omega
    simp only [go_sem, Nat.reduceAdd, Nat.reduceSub, Nat.reduceMul, Nat.reduceLT, Nat.reduceLeDiff, ↓reduceIte, reduceCtorEq, Nat.reduceEqDiff, Int.reduceToNat, Int.reduceLT, Int.reduceLE, Int.reduceEq, beq_self_eq_true, hl, hb, hk', hi, wrapS k (by omega)]
    refine .inl ⟨by kernel_rfl, 13 - (k + 1), by omega, k + 1, _, reg_intro rfl rfl ⟨rfl, by omega, by simp [hl], fun p => ?_⟩⟩
    rw [getD_set _ _ _ _ (by omega)]
    by_cases h1 : p = k
    · subst h1; rw [if_pos rfl, hp, if_neg (by omega), if_pos (by omega)]
    · rw [if_neg h1, hp]; by_cases h2 : p < k
      · rw [if_pos h2, if_pos (by omega)]
      · rw [if_neg h2, if_neg (by omega)]
  · have hi := of_decide_eq_false hc
    obtain rfl : k = 13 := by omega
    simp only [go_sem, Nat.reduceAdd, Nat.reduceSub, Nat.reduceMul, Nat.reduceLT, Nat.reduceLeDiff, ↓reduceIte, reduceCtorEq, Nat.reduceEqDiff, Int.reduceToNat, Int.reduceLT, Int.reduceLE, Int.reduceEq, beq_self_eq_true, hl, hb]
    congr 2
    exact ext13 hl (by simp [vjoin, ha, hb]) fun p h => by rw [hp, if_pos h, vjoin_at _ _ ha hb _ h]
theorem ref_meet (a b : List Int) (ha : a.length = 13) (hb : b.length = 13) : PSpec Try.prog CT 53 [ints a, ints b] (· = ints (vmeet a b)) := by
  refine PSpec.of hT Try.func53 rfl (by kernel_rfl) rfl rfl ?_
  simp only [Try.f53, go_sem, Nat.reduceAdd, Nat.reduceSub, Nat.reduceMul, Nat.reduceLT, Nat.reduceLeDiff, ↓reduceIte, reduceCtorEq, Nat.reduceEqDiff, Int.reduceToNat, Int.reduceLT, Int.reduceLE, Int.reduceEq, beq_self_eq_true, ha, hb]
  refine awp_loop (fun n s => ∃ (k : Nat) (l : List Int) (g : Nat → D), s = ⟨[ints a, ints b, .ptr 0 [], .ptr 1 [], .ptr 2 [], .lit (.int .i64 k), g 6, g 7, g 8, g 9, g 10, g 11, g 12, g 13, g 14, g 15, g 16, g 17, g 18, g 19], ⟨[(.arr 13 .leaf, ints l), (.arr 13 .leaf, ints b), (.arr 13 .leaf, ints (zeros 13))], []⟩⟩ ∧ n = 13 - k ∧ k ≤ 13 ∧ l.length = 13 ∧ ∀ p, l.getD p 0 = if p < k then min (a.getD p 0) (b.getD p 0) else a.getD p 0) 13 ⟨0, a, reg_intro rfl rfl ⟨by simp, by omega, ha, by simp⟩⟩ ?_
  rintro n s ⟨k, l, g, rfl, hn, hk, hl, hp⟩
  simp only [go_sem, Nat.reduceAdd, Nat.reduceSub, Nat.reduceMul, Nat.reduceLT, Nat.reduceLeDiff, ↓reduceIte, reduceCtorEq, Nat.reduceEqDiff, Int.reduceToNat, Int.reduceLT, Int.reduceLE, Int.reduceEq, beq_self_eq_true, hl, hb]
  refine condK_split (fun hc => ?_) (fun hc => ?_)
  · have hi := of_decide_eq_true hc
    have hk' : k < 13 := by omega
    simp only [go_sem, Nat.reduceAdd, Nat.reduceSub, Nat.reduceMul, Nat.reduceLT, Nat.reduceLeDiff, ↓reduceIte, reduceCtorEq, Nat.reduceEqDiff, Int.reduceToNat, Int.reduceLT, Int.reduceLE, Int.reduceEq, beq_self_eq_true, hl, hb, hk', hi, wrapS k (by omega)]
    refine .inl ⟨by kernel_rfl, 13 - (k + 1), by omega, k + 1, _, reg_intro rfl rfl ⟨rfl, by omega, by simp [hl], fun p => ?_⟩⟩
    rw [getD_set _ _ _ _ (by omega)]
    by_cases h1 : p = k
    · subst h1; rw [if_pos rfl, hp, if_neg (by omega), if_pos (by omega)]
    · rw [if_neg h1, hp]; by_cases h2 : p < k
      · rw [if_pos h2, if_pos (by omega)]
      · rw [if_neg h2, if_neg (by omega)]
  · have hi := of_decide_eq_false hc
    obtain rfl : k = 13 := by omega
    simp only [go_sem, Nat.reduceAdd, Nat.reduceSub, Nat.reduceMul, Nat.reduceLT, Nat.reduceLeDiff, ↓reduceIte, reduceCtorEq, Nat.reduceEqDiff, Int.reduceToNat, Int.reduceLT, Int.reduceLE, Int.reduceEq, beq_self_eq_true, hl, hb]
    congr 2
    exact ext13 hl (by simp [vmeet, ha, hb]) fun p h => by rw [hp, if_pos h, vmeet_at _ _ ha hb _ h]
theorem ref_peer (p : Int) : PSpec Try.prog CT 50 [.lit (.int .i64 p)] (· = .bool (vpeer p)) := by
  refine PSpec.of hT Try.func50 rfl (by kernel_rfl) rfl rfl ?_
  simp only [Try.f50, go_sem, Nat.reduceAdd, Nat.reduceSub, Nat.reduceMul, Nat.reduceLT, Nat.reduceLeDiff, ↓reduceIte, reduceCtorEq, Nat.reduceEqDiff, Int.reduceToNat, Int.reduceLT, Int.reduceLE, Int.reduceEq, beq_self_eq_true]
  refine guardK_split (fun h => ?_) (fun h => ?_)
  · simp only [go_sem, Nat.reduceAdd, Nat.reduceSub, Nat.reduceMul, Nat.reduceLT, Nat.reduceLeDiff, ↓reduceIte, reduceCtorEq, Nat.reduceEqDiff, Int.reduceToNat, Int.reduceLT, Int.reduceLE, Int.reduceEq, beq_self_eq_true, h, vpeer, Bool.true_and]
  · simp only [go_sem, Nat.reduceAdd, Nat.reduceSub, Nat.reduceMul, Nat.reduceLT, Nat.reduceLeDiff, ↓reduceIte, reduceCtorEq, Nat.reduceEqDiff, Int.reduceToNat, Int.reduceLT, Int.reduceLE, Int.reduceEq, beq_self_eq_true, h, vpeer, Bool.false_and]

theorem stable_peer (p : Int) : PSpec Try.prog CT 61 [.lit (.int .i64 p)] (· = .bool (vpeer p)) := by
  refine PSpec.of hT Try.func61 rfl (by kernel_rfl) rfl rfl ?_
  simp only [Try.f61, go_sem, Nat.reduceAdd, Nat.reduceSub, Nat.reduceMul, Nat.reduceLT, Nat.reduceLeDiff, ↓reduceIte, reduceCtorEq, Nat.reduceEqDiff, Int.reduceToNat, Int.reduceLT, Int.reduceLE, Int.reduceEq, beq_self_eq_true]
  refine guardK_split (fun h => ?_) (fun h => ?_)
  · simp only [go_sem, Nat.reduceAdd, Nat.reduceSub, Nat.reduceMul, Nat.reduceLT, Nat.reduceLeDiff, ↓reduceIte, reduceCtorEq, Nat.reduceEqDiff, Int.reduceToNat, Int.reduceLT, Int.reduceLE, Int.reduceEq, beq_self_eq_true, h, vpeer, Bool.true_and]
  · simp only [go_sem, Nat.reduceAdd, Nat.reduceSub, Nat.reduceMul, Nat.reduceLT, Nat.reduceLeDiff, ↓reduceIte, reduceCtorEq, Nat.reduceEqDiff, Int.reduceToNat, Int.reduceLT, Int.reduceLE, Int.reduceEq, beq_self_eq_true, h, vpeer, Bool.false_and]

theorem ref_has (v : List Int) (p s : Int) (hv : v.length = 13) : PSpec Try.prog CT 17 [ints v, dotD p s] (· = .bool (vhas v p s)) := by
  refine PSpec.of hT Try.func17 rfl (by kernel_rfl) rfl rfl ?_
  simp only [Try.f17, go_sem, Nat.reduceAdd, Nat.reduceSub, Nat.reduceMul, Nat.reduceLT, Nat.reduceLeDiff, ↓reduceIte, reduceCtorEq, Nat.reduceEqDiff, Int.reduceToNat, Int.reduceLT, Int.reduceLE, Int.reduceEq, beq_self_eq_true, hv]
  refine .inl ⟨by kernel_rfl, callD_pure (ref_peer p) (by simp only [go_sem, Nat.reduceAdd, Nat.reduceSub, Nat.reduceMul, Nat.reduceLT, Nat.reduceLeDiff, ↓reduceIte, reduceCtorEq, Nat.reduceEqDiff, Int.reduceToNat, Int.reduceLT, Int.reduceLE, Int.reduceEq, beq_self_eq_true]) (by simp only [go_sem, Nat.reduceAdd, Nat.reduceSub, Nat.reduceMul, Nat.reduceLT, Nat.reduceLeDiff, ↓reduceIte, reduceCtorEq, Nat.reduceEqDiff, Int.reduceToNat, Int.reduceLT, Int.reduceLE, Int.reduceEq, beq_self_eq_true]) ?_⟩
  simp only [go_sem, Nat.reduceAdd, Nat.reduceSub, Nat.reduceMul, Nat.reduceLT, Nat.reduceLeDiff, ↓reduceIte, reduceCtorEq, Nat.reduceEqDiff, Int.reduceToNat, Int.reduceLT, Int.reduceLE, Int.reduceEq, beq_self_eq_true, hv]
  refine guardK_split (fun h => ?_) (fun h => ?_)
  · obtain ⟨h0, h1⟩ := vpeer_of h
    simp only [go_sem, Nat.reduceAdd, Nat.reduceSub, Nat.reduceMul, Nat.reduceLT, Nat.reduceLeDiff, ↓reduceIte, reduceCtorEq, Nat.reduceEqDiff, Int.reduceToNat, Int.reduceLT, Int.reduceLE, Int.reduceEq, beq_self_eq_true, hv, h0, h1, h]
    refine guardK_split (fun h2 => ?_) (fun h2 => ?_)
    · simp only [go_sem, Nat.reduceAdd, Nat.reduceSub, Nat.reduceMul, Nat.reduceLT, Nat.reduceLeDiff, ↓reduceIte, reduceCtorEq, Nat.reduceEqDiff, Int.reduceToNat, Int.reduceLT, Int.reduceLE, Int.reduceEq, beq_self_eq_true, hv, h0, h1, h, h2, vhas, Bool.true_and]
    · simp only [go_sem, Nat.reduceAdd, Nat.reduceSub, Nat.reduceMul, Nat.reduceLT, Nat.reduceLeDiff, ↓reduceIte, reduceCtorEq, Nat.reduceEqDiff, Int.reduceToNat, Int.reduceLT, Int.reduceLE, Int.reduceEq, beq_self_eq_true, hv, h0, h1, h, h2, vhas, Bool.true_and, Bool.false_and]
  · simp only [go_sem, Nat.reduceAdd, Nat.reduceSub, Nat.reduceMul, Nat.reduceLT, Nat.reduceLeDiff, ↓reduceIte, reduceCtorEq, Nat.reduceEqDiff, Int.reduceToNat, Int.reduceLT, Int.reduceLE, Int.reduceEq, beq_self_eq_true, h, vhas, Bool.false_and]


theorem ref_leq (a b : List Int) (ha : a.length = 13) (hb : b.length = 13) : PSpec Try.prog CT 33 [ints a, ints b] (· = .bool (vleq a b)) := by
  refine PSpec.of hT Try.func33 rfl (by kernel_rfl) rfl rfl ?_
  simp only [Try.f33, go_sem, Nat.reduceAdd, Nat.reduceSub, Nat.reduceMul, Nat.reduceLT, Nat.reduceLeDiff, ↓reduceIte, reduceCtorEq, Nat.reduceEqDiff, Int.reduceToNat, Int.reduceLT, Int.reduceLE, Int.reduceEq, beq_self_eq_true, ha, hb]
  refine awp_loop (fun n s => ∃ (k : Nat) (g : Nat → D), s = ⟨[ints a, ints b, .ptr 0 [], .ptr 1 [], g 4, .lit (.int .i64 k), g 6, g 7, g 8, g 9, g 10, g 11, g 12, g 13, g 14, g 15, g 16], ⟨[(.arr 13 .leaf, ints a), (.arr 13 .leaf, ints b)], []⟩⟩ ∧ n = 13 - k ∧ k ≤ 13 ∧ ∀ p, p < k → a.getD p 0 ≤ b.getD p 0) 13 ⟨0, reg_intro rfl rfl ⟨by simp, by omega, by simp⟩⟩ ?_
  rintro n s ⟨k, g, rfl, hn, hk, hp⟩
  simp only [go_sem, Nat.reduceAdd, Nat.reduceSub, Nat.reduceMul, Nat.reduceLT, Nat.reduceLeDiff, ↓reduceIte, reduceCtorEq, Nat.reduceEqDiff, Int.reduceToNat, Int.reduceLT, Int.reduceLE, Int.reduceEq, beq_self_eq_true, ha, hb]
  refine condK_split (fun hc => ?_) (fun hc => ?_)
  · have hi := of_decide_eq_true hc
    have hk' : k < 13 := by omega
    simp only [go_sem, Nat.reduceAdd, Nat.reduceSub, Nat.reduceMul, Nat.reduceLT, Nat.reduceLeDiff, ↓reduceIte, reduceCtorEq, Nat.reduceEqDiff, Int.reduceToNat, Int.reduceLT, Int.reduceLE, Int.reduceEq, beq_self_eq_true, ha, hb, hk', wrapNat k (by omega)]
    refine .inl ⟨by kernel_rfl, condK_split (fun h1 => ?_) (fun h1 => ?_)⟩
    · have h1 := of_decide_eq_true h1
      have : vleq a b = false := by
        rw [← Bool.not_eq_true, vleq_iff a b ha hb]
        intro h; have := h k hk'; omega
      simp only [go_sem, Nat.reduceAdd, Nat.reduceSub, Nat.reduceMul, Nat.reduceLT, Nat.reduceLeDiff, ↓reduceIte, reduceCtorEq, Nat.reduceEqDiff, Int.reduceToNat, Int.reduceLT, Int.reduceLE, Int.reduceEq, beq_self_eq_true, ha, hb, this]
    · have h1 := of_decide_eq_false h1
      simp only [go_sem, Nat.reduceAdd, Nat.reduceSub, Nat.reduceMul, Nat.reduceLT, Nat.reduceLeDiff, ↓reduceIte, reduceCtorEq, Nat.reduceEqDiff, Int.reduceToNat, Int.reduceLT, Int.reduceLE, Int.reduceEq, beq_self_eq_true, ha, hb, wrapNat k (by omega)]
      refine ⟨13 - (k + 1), by omega, k + 1, reg_intro rfl rfl ⟨rfl, by omega, fun p h => ?_⟩⟩
      by_cases hpk : p = k
      · subst hpk; omega
      · exact hp p (by omega)
  · have hi := of_decide_eq_false hc
    obtain rfl : k = 13 := by omega
    have : vleq a b = true := (vleq_iff a b ha hb).2 hp
    simp only [go_sem, Nat.reduceAdd, Nat.reduceSub, Nat.reduceMul, Nat.reduceLT, Nat.reduceLeDiff, ↓reduceIte, reduceCtorEq, Nat.reduceEqDiff, Int.reduceToNat, Int.reduceLT, Int.reduceLE, Int.reduceEq, beq_self_eq_true, ha, hb, this]

abbrev intsL (l : List Int) (t : Tok) : D := .lst 3 (l.map fun n => .lit (.int .i64 n)) t

def idxOf (l : List Int) (n : Int) : Int := match l.findIdx? (· == n) with | some i => (i : Int) | none => -1
theorem slices_index (l : List Int) (n : Int) (hl : l.length < 4000000000) : PSpec Try.prog CT 67 [intsL l .no, .lit (.int .i64 n)] (fun d => ∃ i : Int, d = .lit (.int .i64 i) ∧ (0 ≤ i ↔ n ∈ l)) := by
  refine PSpec.of hT Try.func67 rfl (by kernel_rfl) rfl rfl ?_
  simp only [Try.f67, go_sem, Nat.reduceAdd, Nat.reduceSub, Nat.reduceMul, Nat.reduceLT, Nat.reduceLeDiff, ↓reduceIte, reduceCtorEq, Nat.reduceEqDiff, Int.reduceToNat, Int.reduceLT, Int.reduceLE, Int.reduceEq, beq_self_eq_true]
  refine awp_loop (fun m s => ∃ (k : Nat) (g : Nat → D), s = ⟨[intsL l .no, .lit (.int .i64 n), g 2, g 3, g 4, g 5, g 6, .lit (.int .i64 l.length), .lit (.int .i64 k), g 9, g 10, g 11, g 12, g 13, g 14, g 15, g 16, g 17, g 18], ⟨[], []⟩⟩ ∧ m = l.length - k ∧ k ≤ l.length ∧ ∀ p, p < k → l.getD p 0 ≠ n) l.length ⟨0, reg_intro rfl rfl ⟨by simp, by omega, by simp⟩⟩ ?_
  rintro m s ⟨k, g, rfl, hn, hk, hp⟩
  simp only [go_sem, Nat.reduceAdd, Nat.reduceSub, Nat.reduceMul, Nat.reduceLT, Nat.reduceLeDiff, ↓reduceIte, reduceCtorEq, Nat.reduceEqDiff, Int.reduceToNat, Int.reduceLT, Int.reduceLE, Int.reduceEq, beq_self_eq_true]
  refine condK_split (fun hc => ?_) (fun hc => ?_)
  · have hk' : k < l.length := by have := of_decide_eq_true hc; omega
    simp only [go_sem, Nat.reduceAdd, Nat.reduceSub, Nat.reduceMul, Nat.reduceLT, Nat.reduceLeDiff, ↓reduceIte, reduceCtorEq, Nat.reduceEqDiff, Int.reduceToNat, Int.reduceLT, Int.reduceLE, Int.reduceEq, beq_self_eq_true, hk']
    refine condK_split (fun h1 => ?_) (fun h1 => ?_)
    · have h1 := of_decide_eq_true h1
      simp only [go_sem, Nat.reduceAdd, Nat.reduceSub, Nat.reduceMul, Nat.reduceLT, Nat.reduceLeDiff, ↓reduceIte, reduceCtorEq, Nat.reduceEqDiff, Int.reduceToNat, Int.reduceLT, Int.reduceLE, Int.reduceEq, beq_self_eq_true]
      refine ⟨k, rfl, ?_⟩
      have : n ∈ l := by
        rw [h1, List.getD_eq_getElem?_getD, List.getElem?_eq_getElem hk', Option.getD_some]
        exact List.getElem_mem hk'
      simp [this]
    · have h1 := of_decide_eq_false h1
      simp only [go_sem, Nat.reduceAdd, Nat.reduceSub, Nat.reduceMul, Nat.reduceLT, Nat.reduceLeDiff, ↓reduceIte, reduceCtorEq, Nat.reduceEqDiff, Int.reduceToNat, Int.reduceLT, Int.reduceLE, Int.reduceEq, beq_self_eq_true, wrapNat k (by omega)]
      refine ⟨l.length - (k + 1), by omega, k + 1, reg_intro rfl rfl ⟨rfl, by omega, fun p h => ?_⟩⟩
      by_cases hpk : p = k
      · subst hpk; exact fun e => h1 e.symm
      · exact hp p (by omega)
  · have hi := of_decide_eq_false hc
    obtain rfl : k = l.length := by omega
    simp only [go_sem, Nat.reduceAdd, Nat.reduceSub, Nat.reduceMul, Nat.reduceLT, Nat.reduceLeDiff, ↓reduceIte, reduceCtorEq, Nat.reduceEqDiff, Int.reduceToNat, Int.reduceLT, Int.reduceLE, Int.reduceEq, beq_self_eq_true]
    refine ⟨-1, rfl, ?_⟩
    constructor
    · intro h; omega
    · intro h
      obtain ⟨i, hi, rfl⟩ := List.mem_iff_getElem.1 h
      exact absurd (by simp [List.getD_eq_getElem?_getD, hi]) (hp i hi)

theorem slices_contains (l : List Int) (n : Int) (hl : l.length < 4000000000) : PSpec Try.prog CT 63 [intsL l .no, .lit (.int .i64 n)] (· = .bool (decide (n ∈ l))) := by
  refine PSpec.of hT Try.func63 rfl (by kernel_rfl) rfl rfl ?_
  simp only [Try.f63, go_sem, Nat.reduceAdd, Nat.reduceSub, Nat.reduceMul, Nat.reduceLT, Nat.reduceLeDiff, ↓reduceIte, reduceCtorEq, Nat.reduceEqDiff, Int.reduceToNat, Int.reduceLT, Int.reduceLE, Int.reduceEq, beq_self_eq_true]
  refine callK_rel (slices_index l n hl) (by simp only [go_sem, Nat.reduceAdd, Nat.reduceSub, Nat.reduceMul, Nat.reduceLT, Nat.reduceLeDiff, ↓reduceIte, reduceCtorEq, Nat.reduceEqDiff, Int.reduceToNat, Int.reduceLT, Int.reduceLE, Int.reduceEq, beq_self_eq_true]) (by simp only [go_sem, Nat.reduceAdd, Nat.reduceSub, Nat.reduceMul, Nat.reduceLT, Nat.reduceLeDiff, ↓reduceIte, reduceCtorEq, Nat.reduceEqDiff, Int.reduceToNat, Int.reduceLT, Int.reduceLE, Int.reduceEq, beq_self_eq_true]) ?_
  rintro c ⟨i, rfl, hi⟩
  simp only [go_sem, Nat.reduceAdd, Nat.reduceSub, Nat.reduceMul, Nat.reduceLT, Nat.reduceLeDiff, ↓reduceIte, reduceCtorEq, Nat.reduceEqDiff, Int.reduceToNat, Int.reduceLT, Int.reduceLE, Int.reduceEq, beq_self_eq_true]
  congr 2
  simp [hi]

end Go.Ab
