/- Lists of numbers: what the document's functions on them compute. Conditions: none. -/
import Derived.Test.YtjafmlbcjhoflaaGreatOpC
open Nat (reduceAdd reduceSub reduceMul reduceLT reduceLeDiff reduceEqDiff)
open Int (reduceToNat reduceLE reduceEq)
set_option linter.unusedSimpArgs false
namespace Go.Ab
open Go.Proofs

abbrev intsL (l : List Int) (t : Tok) : D := .lst 3 (l.map fun n => .lit (.int .i64 n)) t
theorem ints_snoc (l : List Int) (n : Int) : (l.map fun n => D.lit (.int .i64 n)) ++ [D.lit (.int .i64 n)] = (l ++ [n]).map fun n => D.lit (.int .i64 n) := by simp

def rosterAt (l : List Int) (i : Nat) : Bool := vpeer (l.getD i 0) && (decide (i = 0) || decide (l.getD (i - 1) 0 < l.getD i 0))
def rosterOk (l : List Int) : Bool := (List.range l.length).all fun i => rosterAt l i
theorem rosterOk_iff (l : List Int) : rosterOk l = true ↔ ∀ i, i < l.length → rosterAt l i = true := by
  simp only [rosterOk, List.all_eq_true, List.mem_range]
theorem rosterOk_not {l : List Int} {i : Nat} (hi : i < l.length) (h : rosterAt l i = false) : rosterOk l = false := by
  rw [← Bool.not_eq_true, rosterOk_iff]
  intro hh; rw [hh i hi] at h; cases h
theorem wrapPred (k : Nat) (h0 : 0 < k) (h : k < 4000000000) : IntKind.i64.wrap ((k : Int) - 1) = ((k - 1 : Nat) : Int) := by rw [wrap64] <;> omega

theorem roster_check (l : List Int) (hl : l.length < 4000000000) : PSpec Tryz.prog CT 87 [intsL l .no] (· = .bool (rosterOk l)) := by
  refine PSpec.of hT Tryz.func87 rfl (by kernel_rfl) rfl rfl ?_
  simp only [Tryz.f87, go_sem, reduceAdd, reduceSub, reduceMul, reduceLT, reduceLeDiff, ↓reduceIte, reduceCtorEq, reduceEqDiff, reduceToNat, Int.reduceLT, reduceLE, reduceEq]
  refine awp_loop (fun n s => ∃ (k : Nat) (g : Nat → D), s = ⟨[intsL l .no, g 1, g 2, g 3, g 4, intsL l .no, .lit (.int .i64 l.length), .lit (.int .i64 k), g 8, g 9, g 10, g 11, g 12, g 13, g 14, g 15, g 16, g 17, g 18, g 19, g 20, g 21, g 22, g 23, g 24, g 25, g 26, g 27, g 28, g 29, g 30, g 31], ⟨[], []⟩⟩ ∧ n = l.length - k ∧ k ≤ l.length ∧ ∀ p, p < k → rosterAt l p = true) l.length ⟨0, reg_intro rfl rfl ⟨by simp, by omega, by simp⟩⟩ ?_
  rintro n s ⟨k, g, rfl, hn, hk, hp⟩
  simp only [go_sem, reduceAdd, reduceSub, reduceMul, reduceLT, reduceLeDiff, ↓reduceIte, reduceCtorEq, reduceEqDiff, reduceToNat, Int.reduceLT, reduceLE, reduceEq]
  refine condK_split (fun hc => ?_) (fun hc => ?_)
  · have hk' : k < l.length := by have := of_decide_eq_true hc; omega
    simp only [go_sem, reduceAdd, reduceSub, reduceMul, reduceLT, reduceLeDiff, ↓reduceIte, reduceCtorEq, reduceEqDiff, reduceToNat, Int.reduceLT, reduceLE, reduceEq, hk']
    have next : ∀ (h : rosterAt l k = true), ∀ p, p < k + 1 → rosterAt l p = true := fun h p hpk => by
      by_cases e : p = k
      · subst e; exact h
      · exact hp p (by omega)
    have bad : rosterAt l k = false → rosterOk l = false := rosterOk_not hk'
    refine guardK_split (fun h1 => ?_) (fun h1 => ?_)
    · have h1' := of_decide_eq_true h1
      simp only [go_sem, reduceAdd, reduceSub, reduceMul, reduceLT, reduceLeDiff, ↓reduceIte, reduceCtorEq, reduceEqDiff, reduceToNat, Int.reduceLT, reduceLE, reduceEq, h1, bad (by simp only [rosterAt, vpeer, Bool.and_eq_false_iff, decide_eq_false_iff_not]; omega)]
    · simp only [go_sem, reduceAdd, reduceSub, reduceMul, reduceLT, reduceLeDiff, ↓reduceIte, reduceCtorEq, reduceEqDiff, reduceToNat, Int.reduceLT, reduceLE, reduceEq, h1]
      refine guardK_split (fun h2 => ?_) (fun h2 => ?_)
      · have h2' := of_decide_eq_true h2
        simp only [go_sem, reduceAdd, reduceSub, reduceMul, reduceLT, reduceLeDiff, ↓reduceIte, reduceCtorEq, reduceEqDiff, reduceToNat, Int.reduceLT, reduceLE, reduceEq, h1, h2, bad (by simp only [rosterAt, vpeer, Bool.and_eq_false_iff, decide_eq_false_iff_not]; omega)]
      · simp only [go_sem, reduceAdd, reduceSub, reduceMul, reduceLT, reduceLeDiff, ↓reduceIte, reduceCtorEq, reduceEqDiff, reduceToNat, Int.reduceLT, reduceLE, reduceEq, h1, h2]
        have h1' := of_decide_eq_false h1
        have h2' := of_decide_eq_false h2
        have hpe : vpeer (l.getD k 0) = true := by simp only [vpeer, Bool.and_eq_true, decide_eq_true_eq]; omega
        refine guardK_split (fun h3 => ?_) (fun h3 => ?_)
        · have h3' := of_decide_eq_true h3
          have hk1 : k - 1 < l.length := by omega
          simp only [go_sem, reduceAdd, reduceSub, reduceMul, reduceLT, reduceLeDiff, ↓reduceIte, reduceCtorEq, reduceEqDiff, reduceToNat, Int.reduceLT, reduceLE, reduceEq, h1, h2, h3, hk', hk1, wrapPred k (by omega) (by omega)]
          refine condK_split (fun h4 => ?_) (fun h4 => ?_)
          · have h4' := of_decide_eq_true h4
            simp only [go_sem, reduceAdd, reduceSub, reduceMul, reduceLT, reduceLeDiff, ↓reduceIte, reduceCtorEq, reduceEqDiff, reduceToNat, Int.reduceLT, reduceLE, reduceEq, bad (by simp only [rosterAt, hpe, Bool.true_and, Bool.or_eq_false_iff, decide_eq_false_iff_not]; omega)]
          · have h4' := of_decide_eq_false h4
            simp only [go_sem, reduceAdd, reduceSub, reduceMul, reduceLT, reduceLeDiff, ↓reduceIte, reduceCtorEq, reduceEqDiff, reduceToNat, Int.reduceLT, reduceLE, reduceEq, wrapNat k (by omega)]
            refine ⟨l.length - (k + 1), by omega, k + 1, reg_intro rfl rfl ⟨rfl, by omega, next (by simp only [rosterAt, hpe, Bool.true_and, Bool.or_eq_true, decide_eq_true_eq]; omega)⟩⟩
        · have h3' := of_decide_eq_false h3
          simp only [go_sem, reduceAdd, reduceSub, reduceMul, reduceLT, reduceLeDiff, ↓reduceIte, reduceCtorEq, reduceEqDiff, reduceToNat, Int.reduceLT, reduceLE, reduceEq, h1, h2, h3, wrapNat k (by omega)]
          refine ⟨l.length - (k + 1), by omega, k + 1, reg_intro rfl rfl ⟨rfl, by omega, next (by simp only [rosterAt, hpe, Bool.true_and, Bool.or_eq_true, decide_eq_true_eq]; omega)⟩⟩
  · have hi := of_decide_eq_false hc
    obtain rfl : k = l.length := by omega
    simp only [go_sem, reduceAdd, reduceSub, reduceMul, reduceLT, reduceLeDiff, ↓reduceIte, reduceCtorEq, reduceEqDiff, reduceToNat, Int.reduceLT, reduceLE, reduceEq, (rosterOk_iff l).2 hp]

theorem ref18_check (l : List Int) (hl : l.length < 4000000000) : PSpec Tryz.prog CT 25 [intsL l .no] (· = .bool (rosterOk l)) := by
  refine PSpec.of hT Tryz.func25 rfl (by kernel_rfl) rfl rfl ?_
  simp only [Tryz.f25, go_sem, reduceAdd, reduceSub, reduceMul, reduceLT, reduceLeDiff, ↓reduceIte, reduceCtorEq, reduceEqDiff, reduceToNat, Int.reduceLT, reduceLE, reduceEq]
  refine awp_loop (fun n s => ∃ (k : Nat) (g : Nat → D), s = ⟨[intsL l .no, g 1, g 2, .lit (.int .i64 k), g 4, g 5, g 6, g 7, g 8, g 9, g 10, g 11, g 12, g 13, g 14, g 15, g 16, g 17, g 18, g 19, g 20, g 21, g 22, g 23, g 24, g 25, g 26, g 27, g 28, g 29, g 30, g 31], ⟨[], []⟩⟩ ∧ n = l.length - k ∧ k ≤ l.length ∧ ∀ p, p < k → rosterAt l p = true) l.length ⟨0, reg_intro rfl rfl ⟨by simp, by omega, by simp⟩⟩ ?_
  rintro n s ⟨k, g, rfl, hn, hk, hp⟩
  simp only [go_sem, reduceAdd, reduceSub, reduceMul, reduceLT, reduceLeDiff, ↓reduceIte, reduceCtorEq, reduceEqDiff, reduceToNat, Int.reduceLT, reduceLE, reduceEq]
  refine condK_split (fun hc => ?_) (fun hc => ?_)
  · have hk' : k < l.length := by have := of_decide_eq_true hc; omega
    simp only [go_sem, reduceAdd, reduceSub, reduceMul, reduceLT, reduceLeDiff, ↓reduceIte, reduceCtorEq, reduceEqDiff, reduceToNat, Int.reduceLT, reduceLE, reduceEq, hk']
    have next : ∀ (h : rosterAt l k = true), ∀ p, p < k + 1 → rosterAt l p = true := fun h p hpk => by
      by_cases e : p = k
      · subst e; exact h
      · exact hp p (by omega)
    have bad : rosterAt l k = false → rosterOk l = false := rosterOk_not hk'
    refine .inl ⟨by kernel_rfl, ?_⟩
    cases hpe : vpeer (l.getD k 0) with
    | false =>
      refine callD_pure (ref_peer (l.getD k 0)) (by simp only [go_sem, hk', hpe, bad (by simp only [rosterAt, hpe, Bool.false_and])]) (by simp only [go_sem, hk', hpe, bad (by simp only [rosterAt, hpe, Bool.false_and])]) ?_; simp only [go_sem, reduceAdd, reduceSub, reduceMul, reduceLT, reduceLeDiff, ↓reduceIte, reduceCtorEq, reduceEqDiff, reduceToNat, Int.reduceLT, reduceLE, reduceEq, hk', hpe, bad (by simp only [rosterAt, hpe, Bool.false_and])]
    | true =>
      refine callD_pure (ref_peer (l.getD k 0)) (by simp only [go_sem, hk', hpe]) (by simp only [go_sem, hk', hpe]) ?_; simp only [go_sem, reduceAdd, reduceSub, reduceMul, reduceLT, reduceLeDiff, ↓reduceIte, reduceCtorEq, reduceEqDiff, reduceToNat, Int.reduceLT, reduceLE, reduceEq, hk', hpe]
      refine guardK_split (fun h3 => ?_) (fun h3 => ?_)
      · have h3' := of_decide_eq_true h3
        have hk1 : k - 1 < l.length := by omega
        simp only [go_sem, reduceAdd, reduceSub, reduceMul, reduceLT, reduceLeDiff, ↓reduceIte, reduceCtorEq, reduceEqDiff, reduceToNat, Int.reduceLT, reduceLE, reduceEq, h3, hk', hk1, wrapPred k (by omega) (by omega)]
        refine condK_split (fun h4 => ?_) (fun h4 => ?_)
        · have h4' := of_decide_eq_true h4
          simp only [go_sem, reduceAdd, reduceSub, reduceMul, reduceLT, reduceLeDiff, ↓reduceIte, reduceCtorEq, reduceEqDiff, reduceToNat, Int.reduceLT, reduceLE, reduceEq, bad (by simp only [rosterAt, hpe, Bool.true_and, Bool.or_eq_false_iff, decide_eq_false_iff_not]; omega)]
        · have h4' := of_decide_eq_false h4
          simp only [go_sem, reduceAdd, reduceSub, reduceMul, reduceLT, reduceLeDiff, ↓reduceIte, reduceCtorEq, reduceEqDiff, reduceToNat, Int.reduceLT, reduceLE, reduceEq, wrapNat k (by omega)]
          refine ⟨l.length - (k + 1), by omega, k + 1, reg_intro rfl rfl ⟨rfl, by omega, next (by simp only [rosterAt, hpe, Bool.true_and, Bool.or_eq_true, decide_eq_true_eq]; omega)⟩⟩
      · have h3' := of_decide_eq_false h3
        simp only [go_sem, reduceAdd, reduceSub, reduceMul, reduceLT, reduceLeDiff, ↓reduceIte, reduceCtorEq, reduceEqDiff, reduceToNat, Int.reduceLT, reduceLE, reduceEq, h3, wrapNat k (by omega)]
        refine ⟨l.length - (k + 1), by omega, k + 1, reg_intro rfl rfl ⟨rfl, by omega, next (by simp only [rosterAt, hpe, Bool.true_and, Bool.or_eq_true, decide_eq_true_eq]; omega)⟩⟩
  · have hi := of_decide_eq_false hc
    obtain rfl : k = l.length := by omega
    simp only [go_sem, reduceAdd, reduceSub, reduceMul, reduceLT, reduceLeDiff, ↓reduceIte, reduceCtorEq, reduceEqDiff, reduceToNat, Int.reduceLT, reduceLE, reduceEq, (rosterOk_iff l).2 hp]


theorem ref18_has (l : List Int) (n : Int) (hl : l.length < 4000000000) : PSpec Tryz.prog CT 12 [intsL l .no, .lit (.int .i64 n)] (· = .bool (decide (n ∈ l))) := by
  refine PSpec.of hT Tryz.func12 rfl (by kernel_rfl) rfl rfl ?_
  simp only [Tryz.f12, go_sem, reduceAdd, reduceSub, reduceMul, reduceLT, reduceLeDiff, ↓reduceIte, reduceCtorEq, reduceEqDiff, reduceToNat, Int.reduceLT, reduceLE, reduceEq]
  refine awp_loop (fun m s => ∃ (k : Nat) (g : Nat → D), s = ⟨[intsL l .no, .lit (.int .i64 n), g 2, g 3, g 4, .lit (.int .i64 k), g 6, g 7, g 8, g 9, g 10, g 11, g 12, g 13, g 14, g 15, g 16, g 17], ⟨[], []⟩⟩ ∧ m = l.length - k ∧ k ≤ l.length ∧ ∀ p, p < k → l.getD p 0 ≠ n) l.length ⟨0, reg_intro rfl rfl ⟨by simp, by omega, by simp⟩⟩ ?_
  rintro m s ⟨k, g, rfl, hn, hk, hp⟩
  simp only [go_sem, reduceAdd, reduceSub, reduceMul, reduceLT, reduceLeDiff, ↓reduceIte, reduceCtorEq, reduceEqDiff, reduceToNat, Int.reduceLT, reduceLE, reduceEq]
  refine condK_split (fun hc => ?_) (fun hc => ?_)
  · have hk' : k < l.length := by have := of_decide_eq_true hc; omega
    simp only [go_sem, reduceAdd, reduceSub, reduceMul, reduceLT, reduceLeDiff, ↓reduceIte, reduceCtorEq, reduceEqDiff, reduceToNat, Int.reduceLT, reduceLE, reduceEq, hk']
    refine condK_split (fun h1 => ?_) (fun h1 => ?_)
    · have h1 := of_decide_eq_true h1
      have : n ∈ l := by
        rw [← h1, List.getD_eq_getElem?_getD, List.getElem?_eq_getElem hk', Option.getD_some]; exact List.getElem_mem hk'
      simp only [go_sem, reduceAdd, reduceSub, reduceMul, reduceLT, reduceLeDiff, ↓reduceIte, reduceCtorEq, reduceEqDiff, reduceToNat, Int.reduceLT, reduceLE, reduceEq, this]
    · have h1 := of_decide_eq_false h1
      simp only [go_sem, reduceAdd, reduceSub, reduceMul, reduceLT, reduceLeDiff, ↓reduceIte, reduceCtorEq, reduceEqDiff, reduceToNat, Int.reduceLT, reduceLE, reduceEq, wrapNat k (by omega)]
      refine ⟨l.length - (k + 1), by omega, k + 1, reg_intro rfl rfl ⟨rfl, by omega, fun p hpk => ?_⟩⟩
      by_cases e : p = k
      · subst e; exact h1
      · exact hp p (by omega)
  · have hi := of_decide_eq_false hc
    obtain rfl : k = l.length := by omega
    have : n ∉ l := fun hm => by
      obtain ⟨i, hi, rfl⟩ := List.mem_iff_getElem.1 hm
      exact hp i hi (by rw [List.getD_eq_getElem?_getD, List.getElem?_eq_getElem hi, Option.getD_some])
    simp only [go_sem, reduceAdd, reduceSub, reduceMul, reduceLT, reduceLeDiff, ↓reduceIte, reduceCtorEq, reduceEqDiff, reduceToNat, Int.reduceLT, reduceLE, reduceEq, this]

theorem ref18_ints (a b : List Int) (ha : a.length < 4000000000) : PSpec Tryz.prog CT 27 [intsL a .no, intsL b .no] (· = .bool (decide (a = b))) := by
  refine PSpec.of hT Tryz.func27 rfl (by kernel_rfl) rfl rfl ?_
  simp only [Tryz.f27, go_sem, reduceAdd, reduceSub, reduceMul, reduceLT, reduceLeDiff, ↓reduceIte, reduceCtorEq, reduceEqDiff, reduceToNat, Int.reduceLT, reduceLE, reduceEq]
  refine condK_split (fun hc => ?_) (fun hc => ?_)
  · have : a ≠ b := by rintro rfl; simp at hc
    simp only [go_sem, reduceAdd, reduceSub, reduceMul, reduceLT, reduceLeDiff, ↓reduceIte, reduceCtorEq, reduceEqDiff, reduceToNat, Int.reduceLT, reduceLE, reduceEq, decide_eq_false this]
  · have hl : a.length = b.length := by simp only [Bool.not_eq_false', decide_eq_true_eq] at hc; omega
    simp only [go_sem, reduceAdd, reduceSub, reduceMul, reduceLT, reduceLeDiff, ↓reduceIte, reduceCtorEq, reduceEqDiff, reduceToNat, Int.reduceLT, reduceLE, reduceEq]
    refine awp_loop (fun n s => ∃ (k : Nat) (g : Nat → D), s = ⟨[intsL a .no, intsL b .no, g 2, g 3, g 4, .lit (.int .i64 k), g 6, g 7, g 8, g 9, g 10, g 11, g 12, g 13, g 14, g 15, g 16, g 17, g 18, g 19, g 20, g 21, g 22, g 23, g 24, g 25], ⟨[], []⟩⟩ ∧ n = a.length - k ∧ k ≤ a.length ∧ ∀ p, p < k → a.getD p 0 = b.getD p 0) a.length ⟨0, reg_intro rfl rfl ⟨by simp, by omega, by simp⟩⟩ ?_
    rintro n s ⟨k, g, rfl, hn, hk, hp⟩
    simp only [go_sem, reduceAdd, reduceSub, reduceMul, reduceLT, reduceLeDiff, ↓reduceIte, reduceCtorEq, reduceEqDiff, reduceToNat, Int.reduceLT, reduceLE, reduceEq]
    refine condK_split (fun hc => ?_) (fun hc => ?_)
    · have hk' : k < a.length := by have := of_decide_eq_true hc; omega
      have hk2 : k < b.length := by omega
      simp only [go_sem, reduceAdd, reduceSub, reduceMul, reduceLT, reduceLeDiff, ↓reduceIte, reduceCtorEq, reduceEqDiff, reduceToNat, Int.reduceLT, reduceLE, reduceEq, hk', hk2]
      refine .inl ⟨by kernel_rfl, condK_split (fun h1 => ?_) (fun h1 => ?_)⟩
      · have : a ≠ b := by rintro rfl; simp at h1
        simp only [go_sem, reduceAdd, reduceSub, reduceMul, reduceLT, reduceLeDiff, ↓reduceIte, reduceCtorEq, reduceEqDiff, reduceToNat, Int.reduceLT, reduceLE, reduceEq, decide_eq_false this]
      · simp only [Bool.not_eq_false', decide_eq_true_eq] at h1
        simp only [go_sem, reduceAdd, reduceSub, reduceMul, reduceLT, reduceLeDiff, ↓reduceIte, reduceCtorEq, reduceEqDiff, reduceToNat, Int.reduceLT, reduceLE, reduceEq, wrapNat k (by omega)]
        refine ⟨a.length - (k + 1), by omega, k + 1, reg_intro rfl rfl ⟨rfl, by omega, fun p h => ?_⟩⟩
        by_cases hpk : p = k
        · subst hpk; exact h1
        · exact hp p (by omega)
    · have hi := of_decide_eq_false hc
      obtain rfl : k = a.length := by omega
      have : a = b := List.ext_getElem hl fun i h1 h2 => by
        have := hp i h1
        simpa [List.getD_eq_getElem?_getD, h1, h2] using this
      simp only [go_sem, reduceAdd, reduceSub, reduceMul, reduceLT, reduceLeDiff, ↓reduceIte, reduceCtorEq, reduceEqDiff, reduceToNat, Int.reduceLT, reduceLE, reduceEq, decide_eq_true this]

end Go.Ab
set_option linter.unusedSimpArgs false
namespace Go.Ab
open Go.Proofs

/-- Put ahead of the first that is greater. -/
def insL (n : Int) : List Int → List Int
  | [] => [n]
  | x :: r => if n < x then n :: x :: r else x :: insL n r
def withL (l : List Int) (n : Int) : List Int := if n ∈ l then l else insL n l
theorem insL_len (n : Int) : ∀ l, (insL n l).length = l.length + 1
  | [] => rfl
  | x :: r => by unfold insL; split <;> simp [insL_len n r]
theorem insL_snoc_done {n x : Int} : ∀ {l : List Int}, (∃ y ∈ l, n < y) → insL n (l ++ [x]) = insL n l ++ [x]
  | [], h => by simp at h
  | y :: r, h => by
    simp only [List.cons_append, insL]
    split
    · simp
    · rename_i hy
      have : ∃ z ∈ r, n < z := by
        obtain ⟨z, hz, hn⟩ := h
        rcases List.mem_cons.1 hz with rfl | hz
        · exact absurd hn hy
        · exact ⟨z, hz, hn⟩
      rw [insL_snoc_done this]; simp
theorem insL_all {n : Int} : ∀ {l : List Int}, (∀ y ∈ l, ¬ n < y) → insL n l = l ++ [n]
  | [], _ => rfl
  | y :: r, h => by
    simp only [insL]
    rw [if_neg (h y (by simp)), insL_all (fun z hz => h z (by simp [hz]))]
    try simp
theorem insL_snoc_new {n x : Int} : ∀ {l : List Int}, (∀ y ∈ l, ¬ n < y) → n < x → insL n (l ++ [x]) = l ++ [n] ++ [x]
  | [], _, hx => by simp [insL, hx]
  | y :: r, h, hx => by
    simp only [List.cons_append, insL]
    rw [if_neg (h y (by simp)), insL_snoc_new (fun z hz => h z (by simp [hz])) hx]
    try simp

theorem take_snoc (l : List Int) (k : Nat) (hk : k < l.length) : l.take (k + 1) = l.take k ++ [l.getD k 0] := by
  rw [List.take_add_one, List.getElem?_eq_getElem hk, List.getD_eq_getElem?_getD, List.getElem?_eq_getElem hk]; rfl

set_option maxRecDepth 8000 in
theorem ref18_with (l : List Int) (n : Int) (hl : l.length < 1000000000) : PSpec Tryz.prog CT 78 [intsL l .no, .lit (.int .i64 n)] (· = intsL (withL l n) .no) := by
  refine PSpec.of hT Tryz.func78 rfl (by kernel_rfl) rfl rfl ?_
  simp only [Tryz.f78, go_sem, reduceAdd, reduceSub, reduceMul, reduceLT, reduceLeDiff, ↓reduceIte, reduceCtorEq, reduceEqDiff, reduceToNat, Int.reduceLT, reduceLE, reduceEq]
  refine callK_pure (ref18_has l n (by omega)) (by simp only [go_sem, withL]) (by simp only [go_sem, withL]) ?_; simp only [go_sem, reduceAdd, reduceSub, reduceMul, reduceLT, reduceLeDiff, ↓reduceIte, reduceCtorEq, reduceEqDiff, reduceToNat, Int.reduceLT, reduceLE, reduceEq, withL]
  refine condK_split (fun h => ?_) (fun h => ?_)
  · have h := of_decide_eq_true h
    simp only [go_sem, reduceAdd, reduceSub, reduceMul, reduceLT, reduceLeDiff, ↓reduceIte, reduceCtorEq, reduceEqDiff, reduceToNat, Int.reduceLT, reduceLE, reduceEq, h, if_true]
  · have h := of_decide_eq_false h
    simp only [go_sem, reduceAdd, reduceSub, reduceMul, reduceLT, reduceLeDiff, ↓reduceIte, reduceCtorEq, reduceEqDiff, reduceToNat, Int.reduceLT, reduceLE, reduceEq, h]
    refine awp_loop (fun m s => ∃ (k : Nat) (o : List Int) (d : Bool) (t : Tok) (tk : List Bool) (g : Nat → D), s = ⟨[intsL l .no, .lit (.int .i64 n), g 2, g 3, g 4, intsL o t, .lit (.bool d), .lit (.int .i64 k), g 8, g 9, g 10, g 11, g 12, g 13, g 14, g 15, g 16, g 17, g 18, g 19, g 20, g 21, g 22, g 23, g 24, g 25, g 26, g 27, g 28, g 29, g 30, g 31, g 32, g 33, g 34, g 35, g 36, g 37, g 38, g 39, g 40, g 41, g 42, g 43, g 44, g 45], ⟨[], tk⟩⟩ ∧ m = l.length - k ∧ k ≤ l.length ∧ live t tk ∧ (d = true → (∃ y ∈ l.take k, n < y) ∧ o = insL n (l.take k)) ∧ (d = false → (∀ y ∈ l.take k, ¬ n < y) ∧ o = l.take k)) l.length ⟨0, [], false, .full, [], reg_intro rfl rfl ⟨by simp, by omega, trivial, by simp, by simp⟩⟩ ?_
    rintro m s ⟨k, o, d, t, tk, g, rfl, hn, hk, ht, hd1, hd2⟩
    have hol : o.length ≤ k + 1 := by
      cases d with
      | true => rw [(hd1 rfl).2, insL_len, List.length_take]; omega
      | false => rw [(hd2 rfl).2, List.length_take]; omega
    simp only [go_sem, reduceAdd, reduceSub, reduceMul, reduceLT, reduceLeDiff, ↓reduceIte, reduceCtorEq, reduceEqDiff, reduceToNat, Int.reduceLT, reduceLE, reduceEq]
    refine condK_split (fun hc => ?_) (fun hc => ?_)
    · have hk' : k < l.length := by have := of_decide_eq_true hc; omega
      have hts := take_snoc l k hk'
      cases d with
      | true =>
        obtain ⟨e1, e2⟩ := hd1 rfl
        simp only [go_sem, reduceAdd, reduceSub, reduceMul, reduceLT, reduceLeDiff, ↓reduceIte, reduceCtorEq, reduceEqDiff, reduceToNat, Int.reduceLT, reduceLE, reduceEq, hk']
        refine appK_live _ _ _ _ _ _ _ _ _ _ ht (by simp) (by simp only [go_sem, reduceAdd, reduceSub, reduceMul, reduceLT, reduceLeDiff, ↓reduceIte, reduceCtorEq, reduceEqDiff, reduceToNat, Int.reduceLT, reduceLE, reduceEq]) (by simp only [go_sem, reduceAdd, reduceSub, reduceMul, reduceLT, reduceLeDiff, ↓reduceIte, reduceCtorEq, reduceEqDiff, reduceToNat, Int.reduceLT, reduceLE, reduceEq]; omega) (fun u tk' hu => ?_)
        simp only [go_sem, reduceAdd, reduceSub, reduceMul, reduceLT, reduceLeDiff, ↓reduceIte, reduceCtorEq, reduceEqDiff, reduceToNat, Int.reduceLT, reduceLE, reduceEq, ints_snoc, wrapNat k (by omega)]
        refine ⟨l.length - (k + 1), by omega, k + 1, o ++ [l.getD k 0], true, u, tk', reg_intro rfl rfl ⟨rfl, by omega, hu, fun _ => ⟨?_, ?_⟩, by simp⟩⟩
        · obtain ⟨y, hy, hny⟩ := e1
          exact ⟨y, by rw [hts]; simp [hy], hny⟩
        · rw [hts, insL_snoc_done e1, e2]
      | false =>
        obtain ⟨e1, e2⟩ := hd2 rfl
        simp only [go_sem, reduceAdd, reduceSub, reduceMul, reduceLT, reduceLeDiff, ↓reduceIte, reduceCtorEq, reduceEqDiff, reduceToNat, Int.reduceLT, reduceLE, reduceEq, hk']
        refine condK_split (fun h1 => ?_) (fun h1 => ?_)
        · have h1 := of_decide_eq_true h1
          simp only [go_sem, reduceAdd, reduceSub, reduceMul, reduceLT, reduceLeDiff, ↓reduceIte, reduceCtorEq, reduceEqDiff, reduceToNat, Int.reduceLT, reduceLE, reduceEq, hk']
          refine appK_live _ _ _ _ _ _ _ _ _ _ ht (by simp) (by simp only [go_sem, reduceAdd, reduceSub, reduceMul, reduceLT, reduceLeDiff, ↓reduceIte, reduceCtorEq, reduceEqDiff, reduceToNat, Int.reduceLT, reduceLE, reduceEq]) (by simp only [go_sem, reduceAdd, reduceSub, reduceMul, reduceLT, reduceLeDiff, ↓reduceIte, reduceCtorEq, reduceEqDiff, reduceToNat, Int.reduceLT, reduceLE, reduceEq]; omega) (fun u tk' hu => ?_)
          simp only [go_sem, reduceAdd, reduceSub, reduceMul, reduceLT, reduceLeDiff, ↓reduceIte, reduceCtorEq, reduceEqDiff, reduceToNat, Int.reduceLT, reduceLE, reduceEq, ints_snoc, hk']
          refine appK_live _ _ _ _ _ _ _ _ _ _ hu (by simp) (by simp only [go_sem, reduceAdd, reduceSub, reduceMul, reduceLT, reduceLeDiff, ↓reduceIte, reduceCtorEq, reduceEqDiff, reduceToNat, Int.reduceLT, reduceLE, reduceEq]) (by simp only [go_sem, reduceAdd, reduceSub, reduceMul, reduceLT, reduceLeDiff, ↓reduceIte, reduceCtorEq, reduceEqDiff, reduceToNat, Int.reduceLT, reduceLE, reduceEq, List.length_append]; omega) (fun u2 tk2 hu2 => ?_)
          simp only [go_sem, reduceAdd, reduceSub, reduceMul, reduceLT, reduceLeDiff, ↓reduceIte, reduceCtorEq, reduceEqDiff, reduceToNat, Int.reduceLT, reduceLE, reduceEq, ints_snoc, wrapNat k (by omega)]
          refine ⟨l.length - (k + 1), by omega, k + 1, o ++ [n] ++ [l.getD k 0], true, u2, tk2, reg_intro rfl rfl ⟨rfl, by omega, hu2, fun _ => ⟨⟨l.getD k 0, by rw [hts]; simp, h1⟩, ?_⟩, by simp⟩⟩
          rw [hts, insL_snoc_new e1 h1, e2]
        · have h1 := of_decide_eq_false h1
          simp only [go_sem, reduceAdd, reduceSub, reduceMul, reduceLT, reduceLeDiff, ↓reduceIte, reduceCtorEq, reduceEqDiff, reduceToNat, Int.reduceLT, reduceLE, reduceEq, hk']
          refine appK_live _ _ _ _ _ _ _ _ _ _ ht (by simp) (by simp only [go_sem, reduceAdd, reduceSub, reduceMul, reduceLT, reduceLeDiff, ↓reduceIte, reduceCtorEq, reduceEqDiff, reduceToNat, Int.reduceLT, reduceLE, reduceEq]) (by simp only [go_sem, reduceAdd, reduceSub, reduceMul, reduceLT, reduceLeDiff, ↓reduceIte, reduceCtorEq, reduceEqDiff, reduceToNat, Int.reduceLT, reduceLE, reduceEq]; omega) (fun u tk' hu => ?_)
          simp only [go_sem, reduceAdd, reduceSub, reduceMul, reduceLT, reduceLeDiff, ↓reduceIte, reduceCtorEq, reduceEqDiff, reduceToNat, Int.reduceLT, reduceLE, reduceEq, ints_snoc, wrapNat k (by omega)]
          refine ⟨l.length - (k + 1), by omega, k + 1, o ++ [l.getD k 0], false, u, tk', reg_intro rfl rfl ⟨rfl, by omega, hu, by simp, fun _ => ⟨fun y hy => ?_, by rw [hts, e2]⟩⟩⟩
          rw [hts] at hy
          rcases List.mem_append.1 hy with hy | hy
          · exact e1 y hy
          · simp only [List.mem_singleton] at hy; subst hy; exact h1
    · have hi := of_decide_eq_false hc
      obtain rfl : k = l.length := by omega
      rw [List.take_of_length_le (Nat.le_refl _)] at hd1 hd2
      cases d with
      | true =>
        simp only [go_sem, reduceAdd, reduceSub, reduceMul, reduceLT, reduceLeDiff, ↓reduceIte, reduceCtorEq, reduceEqDiff, reduceToNat, Int.reduceLT, reduceLE, reduceEq, (hd1 rfl).2, if_false, h]
      | false =>
        obtain ⟨e1, e2⟩ := hd2 rfl
        simp only [go_sem, reduceAdd, reduceSub, reduceMul, reduceLT, reduceLeDiff, ↓reduceIte, reduceCtorEq, reduceEqDiff, reduceToNat, Int.reduceLT, reduceLE, reduceEq]
        refine appK_live _ _ _ _ _ _ _ _ _ _ ht (by simp) (by simp only [go_sem, reduceAdd, reduceSub, reduceMul, reduceLT, reduceLeDiff, ↓reduceIte, reduceCtorEq, reduceEqDiff, reduceToNat, Int.reduceLT, reduceLE, reduceEq]) (by simp only [go_sem, reduceAdd, reduceSub, reduceMul, reduceLT, reduceLeDiff, ↓reduceIte, reduceCtorEq, reduceEqDiff, reduceToNat, Int.reduceLT, reduceLE, reduceEq]; omega) (fun u tk' hu => ?_)
        simp only [go_sem, reduceAdd, reduceSub, reduceMul, reduceLT, reduceLeDiff, ↓reduceIte, reduceCtorEq, reduceEqDiff, reduceToNat, Int.reduceLT, reduceLE, reduceEq, ints_snoc, e2, h, if_false, insL_all e1]

/-- Those that are not among others. -/
def liveL (j l : List Int) : List Int := if rosterOk j && rosterOk l then j.filter fun n => !decide (n ∈ l) else []
end Go.Ab
