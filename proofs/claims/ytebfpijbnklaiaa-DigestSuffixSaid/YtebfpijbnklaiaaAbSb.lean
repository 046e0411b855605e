/- Lists of numbers that may be; rows that are taken in. Conditions: none. -/
import Derived.Test.YtebfpijbnklaiaaAbSa
import Derived.Test.YtebfpijbnklaiaaAbLb
set_option linter.unusedSimpArgs false
namespace Go.Ab
open Go.Proofs

def rosterAt (l : List Int) (i : Nat) : Bool := vpeer (l.getD i 0) && (decide (i = 0) || decide (l.getD (i - 1) 0 < l.getD i 0))
def rosterOk (l : List Int) : Bool := (List.range l.length).all fun i => rosterAt l i
theorem rosterOk_iff (l : List Int) : rosterOk l = true ↔ ∀ i, i < l.length → rosterAt l i = true := by
  simp only [rosterOk, List.all_eq_true, List.mem_range]
theorem rosterOk_not {l : List Int} {i : Nat} (hi : i < l.length) (h : rosterAt l i = false) : rosterOk l = false := by
  rw [← Bool.not_eq_true, rosterOk_iff]
  intro hh; rw [hh i hi] at h; cases h
theorem wrapPred (k : Nat) (h0 : 0 < k) (h : k < 4000000000) : IntKind.i64.wrap ((k : Int) - 1) = ((k - 1 : Nat) : Int) := by rw [wrap64] <;> omega

theorem roster_check (l : List Int) (hl : l.length < 4000000000) : PSpec Try.prog CT 62 [intsL l .no] (· = .bool (rosterOk l)) := by
  refine PSpec.of hT Try.func62 rfl (by kernel_rfl) rfl rfl ?_
  simp only [Try.f62, go_sem, Nat.reduceAdd, Nat.reduceSub, Nat.reduceMul, Nat.reduceLT, Nat.reduceLeDiff, ↓reduceIte, reduceCtorEq, Nat.reduceEqDiff, Int.reduceToNat, Int.reduceLT, Int.reduceLE, Int.reduceEq, beq_self_eq_true]
  refine awp_loop (fun n s => ∃ (k : Nat) (g : Nat → D), s = ⟨[intsL l .no, g 1, g 2, g 3, g 4, intsL l .no, .lit (.int .i64 l.length), .lit (.int .i64 k), g 8, g 9, g 10, g 11, g 12, g 13, g 14, g 15, g 16, g 17, g 18, g 19, g 20, g 21, g 22, g 23, g 24, g 25, g 26, g 27, g 28, g 29, g 30, g 31], ⟨[], []⟩⟩ ∧ n = l.length - k ∧ k ≤ l.length ∧ ∀ p, p < k → rosterAt l p = true) l.length ⟨0, reg_intro rfl rfl ⟨by simp, by omega, by simp⟩⟩ ?_
  rintro n s ⟨k, g, rfl, hn, hk, hp⟩
  simp only [go_sem, Nat.reduceAdd, Nat.reduceSub, Nat.reduceMul, Nat.reduceLT, Nat.reduceLeDiff, ↓reduceIte, reduceCtorEq, Nat.reduceEqDiff, Int.reduceToNat, Int.reduceLT, Int.reduceLE, Int.reduceEq, beq_self_eq_true]
  refine condK_split (fun hc => ?_) (fun hc => ?_)
  · have hk' : k < l.length := by have := of_decide_eq_true hc; omega
    simp only [go_sem, Nat.reduceAdd, Nat.reduceSub, Nat.reduceMul, Nat.reduceLT, Nat.reduceLeDiff, ↓reduceIte, reduceCtorEq, Nat.reduceEqDiff, Int.reduceToNat, Int.reduceLT, Int.reduceLE, Int.reduceEq, beq_self_eq_true, hk']
    have next : ∀ (h : rosterAt l k = true), ∀ p, p < k + 1 → rosterAt l p = true := fun h p hpk => by
      by_cases e : p = k
      · subst e; exact h
      · exact hp p (by omega)
    have bad : rosterAt l k = false → rosterOk l = false := rosterOk_not hk'
    refine guardK_split (fun h1 => ?_) (fun h1 => ?_)
    · have h1' := of_decide_eq_true h1
      simp only [go_sem, Nat.reduceAdd, Nat.reduceSub, Nat.reduceMul, Nat.reduceLT, Nat.reduceLeDiff, ↓reduceIte, reduceCtorEq, Nat.reduceEqDiff, Int.reduceToNat, Int.reduceLT, Int.reduceLE, Int.reduceEq, beq_self_eq_true, h1, bad (by simp only [rosterAt, vpeer, Bool.and_eq_false_iff, decide_eq_false_iff_not]; omega)]
    · simp only [go_sem, Nat.reduceAdd, Nat.reduceSub, Nat.reduceMul, Nat.reduceLT, Nat.reduceLeDiff, ↓reduceIte, reduceCtorEq, Nat.reduceEqDiff, Int.reduceToNat, Int.reduceLT, Int.reduceLE, Int.reduceEq, beq_self_eq_true, h1]
      refine guardK_split (fun h2 => ?_) (fun h2 => ?_)
      · have h2' := of_decide_eq_true h2
        simp only [go_sem, Nat.reduceAdd, Nat.reduceSub, Nat.reduceMul, Nat.reduceLT, Nat.reduceLeDiff, ↓reduceIte, reduceCtorEq, Nat.reduceEqDiff, Int.reduceToNat, Int.reduceLT, Int.reduceLE, Int.reduceEq, beq_self_eq_true, h1, h2, bad (by simp only [rosterAt, vpeer, Bool.and_eq_false_iff, decide_eq_false_iff_not]; omega)]
      · simp only [go_sem, Nat.reduceAdd, Nat.reduceSub, Nat.reduceMul, Nat.reduceLT, Nat.reduceLeDiff, ↓reduceIte, reduceCtorEq, Nat.reduceEqDiff, Int.reduceToNat, Int.reduceLT, Int.reduceLE, Int.reduceEq, beq_self_eq_true, h1, h2]
        have h1' := of_decide_eq_false h1
        have h2' := of_decide_eq_false h2
        have hpe : vpeer (l.getD k 0) = true := by simp only [vpeer, Bool.and_eq_true, decide_eq_true_eq]; omega
        refine guardK_split (fun h3 => ?_) (fun h3 => ?_)
        · have h3' := of_decide_eq_true h3
          have hk1 : k - 1 < l.length := by omega
          simp only [go_sem, Nat.reduceAdd, Nat.reduceSub, Nat.reduceMul, Nat.reduceLT, Nat.reduceLeDiff, ↓reduceIte, reduceCtorEq, Nat.reduceEqDiff, Int.reduceToNat, Int.reduceLT, Int.reduceLE, Int.reduceEq, beq_self_eq_true, h1, h2, h3, hk', hk1, wrapPred k (by omega) (by omega)]
          refine condK_split (fun h4 => ?_) (fun h4 => ?_)
          · have h4' := of_decide_eq_true h4
            simp only [go_sem, Nat.reduceAdd, Nat.reduceSub, Nat.reduceMul, Nat.reduceLT, Nat.reduceLeDiff, ↓reduceIte, reduceCtorEq, Nat.reduceEqDiff, Int.reduceToNat, Int.reduceLT, Int.reduceLE, Int.reduceEq, beq_self_eq_true, bad (by simp only [rosterAt, hpe, Bool.true_and, Bool.or_eq_false_iff, decide_eq_false_iff_not]; omega)]
          · have h4' := of_decide_eq_false h4
            simp only [go_sem, Nat.reduceAdd, Nat.reduceSub, Nat.reduceMul, Nat.reduceLT, Nat.reduceLeDiff, ↓reduceIte, reduceCtorEq, Nat.reduceEqDiff, Int.reduceToNat, Int.reduceLT, Int.reduceLE, Int.reduceEq, beq_self_eq_true, wrapNat k (by omega)]
            refine ⟨l.length - (k + 1), by omega, k + 1, reg_intro rfl rfl ⟨rfl, by omega, next (by simp only [rosterAt, hpe, Bool.true_and, Bool.or_eq_true, decide_eq_true_eq]; omega)⟩⟩
        · have h3' := of_decide_eq_false h3
          simp only [go_sem, Nat.reduceAdd, Nat.reduceSub, Nat.reduceMul, Nat.reduceLT, Nat.reduceLeDiff, ↓reduceIte, reduceCtorEq, Nat.reduceEqDiff, Int.reduceToNat, Int.reduceLT, Int.reduceLE, Int.reduceEq, beq_self_eq_true, h1, h2, h3, wrapNat k (by omega)]
          refine ⟨l.length - (k + 1), by omega, k + 1, reg_intro rfl rfl ⟨rfl, by omega, next (by simp only [rosterAt, hpe, Bool.true_and, Bool.or_eq_true, decide_eq_true_eq]; omega)⟩⟩
  · have hi := of_decide_eq_false hc
    obtain rfl : k = l.length := by omega
    simp only [go_sem, Nat.reduceAdd, Nat.reduceSub, Nat.reduceMul, Nat.reduceLT, Nat.reduceLeDiff, ↓reduceIte, reduceCtorEq, Nat.reduceEqDiff, Int.reduceToNat, Int.reduceLT, Int.reduceLE, Int.reduceEq, beq_self_eq_true, (rosterOk_iff l).2 hp]

theorem ref18_check (l : List Int) (hl : l.length < 4000000000) : PSpec Try.prog CT 64 [intsL l .no] (· = .bool (rosterOk l)) := by
  refine PSpec.of hT Try.func64 rfl (by kernel_rfl) rfl rfl ?_
  simp only [Try.f64, go_sem, Nat.reduceAdd, Nat.reduceSub, Nat.reduceMul, Nat.reduceLT, Nat.reduceLeDiff, ↓reduceIte, reduceCtorEq, Nat.reduceEqDiff, Int.reduceToNat, Int.reduceLT, Int.reduceLE, Int.reduceEq, beq_self_eq_true]
  refine awp_loop (fun n s => ∃ (k : Nat) (g : Nat → D), s = ⟨[intsL l .no, g 1, g 2, .lit (.int .i64 k), g 4, g 5, g 6, g 7, g 8, g 9, g 10, g 11, g 12, g 13, g 14, g 15, g 16, g 17, g 18, g 19, g 20, g 21, g 22, g 23, g 24, g 25, g 26, g 27, g 28, g 29, g 30, g 31], ⟨[], []⟩⟩ ∧ n = l.length - k ∧ k ≤ l.length ∧ ∀ p, p < k → rosterAt l p = true) l.length ⟨0, reg_intro rfl rfl ⟨by simp, by omega, by simp⟩⟩ ?_
  rintro n s ⟨k, g, rfl, hn, hk, hp⟩
  simp only [go_sem, Nat.reduceAdd, Nat.reduceSub, Nat.reduceMul, Nat.reduceLT, Nat.reduceLeDiff, ↓reduceIte, reduceCtorEq, Nat.reduceEqDiff, Int.reduceToNat, Int.reduceLT, Int.reduceLE, Int.reduceEq, beq_self_eq_true]
  refine condK_split (fun hc => ?_) (fun hc => ?_)
  · have hk' : k < l.length := by have := of_decide_eq_true hc; omega
    simp only [go_sem, Nat.reduceAdd, Nat.reduceSub, Nat.reduceMul, Nat.reduceLT, Nat.reduceLeDiff, ↓reduceIte, reduceCtorEq, Nat.reduceEqDiff, Int.reduceToNat, Int.reduceLT, Int.reduceLE, Int.reduceEq, beq_self_eq_true, hk']
    have next : ∀ (h : rosterAt l k = true), ∀ p, p < k + 1 → rosterAt l p = true := fun h p hpk => by
      by_cases e : p = k
      · subst e; exact h
      · exact hp p (by omega)
    have bad : rosterAt l k = false → rosterOk l = false := rosterOk_not hk'
    refine .inl ⟨by kernel_rfl, ?_⟩
    cases hpe : vpeer (l.getD k 0) with
    | false =>
      refine callD_pure (ref_peer (l.getD k 0)) (by simp only [go_sem, Nat.reduceAdd, Nat.reduceSub, Nat.reduceMul, Nat.reduceLT, Nat.reduceLeDiff, ↓reduceIte, reduceCtorEq, Nat.reduceEqDiff, Int.reduceToNat, Int.reduceLT, Int.reduceLE, Int.reduceEq, beq_self_eq_true, hk', hpe, bad (by simp only [rosterAt, hpe, Bool.false_and])]) (by simp only [go_sem, Nat.reduceAdd, Nat.reduceSub, Nat.reduceMul, Nat.reduceLT, Nat.reduceLeDiff, ↓reduceIte, reduceCtorEq, Nat.reduceEqDiff, Int.reduceToNat, Int.reduceLT, Int.reduceLE, Int.reduceEq, beq_self_eq_true, hk', hpe, bad (by simp only [rosterAt, hpe, Bool.false_and])]) ?_; simp only [go_sem, Nat.reduceAdd, Nat.reduceSub, Nat.reduceMul, Nat.reduceLT, Nat.reduceLeDiff, ↓reduceIte, reduceCtorEq, Nat.reduceEqDiff, Int.reduceToNat, Int.reduceLT, Int.reduceLE, Int.reduceEq, beq_self_eq_true, hk', hpe, bad (by simp only [rosterAt, hpe, Bool.false_and])]
    | true =>
      refine callD_pure (ref_peer (l.getD k 0)) (by simp only [go_sem, Nat.reduceAdd, Nat.reduceSub, Nat.reduceMul, Nat.reduceLT, Nat.reduceLeDiff, ↓reduceIte, reduceCtorEq, Nat.reduceEqDiff, Int.reduceToNat, Int.reduceLT, Int.reduceLE, Int.reduceEq, beq_self_eq_true, hk', hpe]) (by simp only [go_sem, Nat.reduceAdd, Nat.reduceSub, Nat.reduceMul, Nat.reduceLT, Nat.reduceLeDiff, ↓reduceIte, reduceCtorEq, Nat.reduceEqDiff, Int.reduceToNat, Int.reduceLT, Int.reduceLE, Int.reduceEq, beq_self_eq_true, hk', hpe]) ?_; simp only [go_sem, Nat.reduceAdd, Nat.reduceSub, Nat.reduceMul, Nat.reduceLT, Nat.reduceLeDiff, ↓reduceIte, reduceCtorEq, Nat.reduceEqDiff, Int.reduceToNat, Int.reduceLT, Int.reduceLE, Int.reduceEq, beq_self_eq_true, hk', hpe]
      refine guardK_split (fun h3 => ?_) (fun h3 => ?_)
      · have h3' := of_decide_eq_true h3
        have hk1 : k - 1 < l.length := by omega
        simp only [go_sem, Nat.reduceAdd, Nat.reduceSub, Nat.reduceMul, Nat.reduceLT, Nat.reduceLeDiff, ↓reduceIte, reduceCtorEq, Nat.reduceEqDiff, Int.reduceToNat, Int.reduceLT, Int.reduceLE, Int.reduceEq, beq_self_eq_true, h3, hk', hk1, wrapPred k (by omega) (by omega)]
        refine condK_split (fun h4 => ?_) (fun h4 => ?_)
        · have h4' := of_decide_eq_true h4
          simp only [go_sem, Nat.reduceAdd, Nat.reduceSub, Nat.reduceMul, Nat.reduceLT, Nat.reduceLeDiff, ↓reduceIte, reduceCtorEq, Nat.reduceEqDiff, Int.reduceToNat, Int.reduceLT, Int.reduceLE, Int.reduceEq, beq_self_eq_true, bad (by simp only [rosterAt, hpe, Bool.true_and, Bool.or_eq_false_iff, decide_eq_false_iff_not]; omega)]
        · have h4' := of_decide_eq_false h4
          simp only [go_sem, Nat.reduceAdd, Nat.reduceSub, Nat.reduceMul, Nat.reduceLT, Nat.reduceLeDiff, ↓reduceIte, reduceCtorEq, Nat.reduceEqDiff, Int.reduceToNat, Int.reduceLT, Int.reduceLE, Int.reduceEq, beq_self_eq_true, wrapNat k (by omega)]
          refine ⟨l.length - (k + 1), by omega, k + 1, reg_intro rfl rfl ⟨rfl, by omega, next (by simp only [rosterAt, hpe, Bool.true_and, Bool.or_eq_true, decide_eq_true_eq]; omega)⟩⟩
      · have h3' := of_decide_eq_false h3
        simp only [go_sem, Nat.reduceAdd, Nat.reduceSub, Nat.reduceMul, Nat.reduceLT, Nat.reduceLeDiff, ↓reduceIte, reduceCtorEq, Nat.reduceEqDiff, Int.reduceToNat, Int.reduceLT, Int.reduceLE, Int.reduceEq, beq_self_eq_true, h3, wrapNat k (by omega)]
        refine ⟨l.length - (k + 1), by omega, k + 1, reg_intro rfl rfl ⟨rfl, by omega, next (by simp only [rosterAt, hpe, Bool.true_and, Bool.or_eq_true, decide_eq_true_eq]; omega)⟩⟩
  · have hi := of_decide_eq_false hc
    obtain rfl : k = l.length := by omega
    simp only [go_sem, Nat.reduceAdd, Nat.reduceSub, Nat.reduceMul, Nat.reduceLT, Nat.reduceLeDiff, ↓reduceIte, reduceCtorEq, Nat.reduceEqDiff, Int.reduceToNat, Int.reduceLT, Int.reduceLE, Int.reduceEq, beq_self_eq_true, (rosterOk_iff l).2 hp]

abbrev tab (l : List (List Int)) : D := .agg (l.map fun v => .agg (v.map fun n => .lit (.int .i64 n)))
def vaccept (rows : List (List Int)) (p : Int) (row v : List Int) : List (List Int) × Bool :=
  if vpeer p && vcheck row && vleq row v && vleq (rows.getD p.toNat []) row then (rows.set p.toNat row, true) else (rows, false)

theorem stable_accept (rows : List (List Int)) (p : Int) (row v : List Int) (hr : rows.length = 13) (hr2 : lens 13 rows) (hrow : row.length = 13) (hv : v.length = 13) :
    PSpec Try.prog CT 44 [tab rows, .lit (.int .i64 p), ints row, ints v] (· = .tup [tab (vaccept rows p row v).1, .bool (vaccept rows p row v).2]) := by
  refine PSpec.of hT Try.func44 rfl (by kernel_rfl) rfl rfl ?_
  simp only [Try.f44, go_sem, Nat.reduceAdd, Nat.reduceSub, Nat.reduceMul, Nat.reduceLT, Nat.reduceLeDiff, ↓reduceIte, reduceCtorEq, Nat.reduceEqDiff, Int.reduceToNat, Int.reduceLT, Int.reduceLE, Int.reduceEq, beq_self_eq_true, hr, hr2, hrow, hv]
  refine .inl ⟨by kernel_rfl, ?_⟩
  cases h1 : vpeer p with
  | false =>
    refine callD_pure (stable_peer p) (by simp only [go_sem, Nat.reduceAdd, Nat.reduceSub, Nat.reduceMul, Nat.reduceLT, Nat.reduceLeDiff, ↓reduceIte, reduceCtorEq, Nat.reduceEqDiff, Int.reduceToNat, Int.reduceLT, Int.reduceLE, Int.reduceEq, beq_self_eq_true, hr, hr2, hrow, hv, h1, vaccept, Bool.false_and]) (by simp only [go_sem, Nat.reduceAdd, Nat.reduceSub, Nat.reduceMul, Nat.reduceLT, Nat.reduceLeDiff, ↓reduceIte, reduceCtorEq, Nat.reduceEqDiff, Int.reduceToNat, Int.reduceLT, Int.reduceLE, Int.reduceEq, beq_self_eq_true, hr, hr2, hrow, hv, h1, vaccept, Bool.false_and]) ?_; simp only [go_sem, Nat.reduceAdd, Nat.reduceSub, Nat.reduceMul, Nat.reduceLT, Nat.reduceLeDiff, ↓reduceIte, reduceCtorEq, Nat.reduceEqDiff, Int.reduceToNat, Int.reduceLT, Int.reduceLE, Int.reduceEq, beq_self_eq_true, hr, hr2, hrow, hv, h1, vaccept, Bool.false_and]
  | true =>
  obtain ⟨hp0, hp1⟩ := vpeer_of h1
  refine callD_pure (stable_peer p) (by simp only [go_sem, Nat.reduceAdd, Nat.reduceSub, Nat.reduceMul, Nat.reduceLT, Nat.reduceLeDiff, ↓reduceIte, reduceCtorEq, Nat.reduceEqDiff, Int.reduceToNat, Int.reduceLT, Int.reduceLE, Int.reduceEq, beq_self_eq_true, hr, hr2, hrow, hv, h1]) (by simp only [go_sem, Nat.reduceAdd, Nat.reduceSub, Nat.reduceMul, Nat.reduceLT, Nat.reduceLeDiff, ↓reduceIte, reduceCtorEq, Nat.reduceEqDiff, Int.reduceToNat, Int.reduceLT, Int.reduceLE, Int.reduceEq, beq_self_eq_true, hr, hr2, hrow, hv, h1]) ?_; simp only [go_sem, Nat.reduceAdd, Nat.reduceSub, Nat.reduceMul, Nat.reduceLT, Nat.reduceLeDiff, ↓reduceIte, reduceCtorEq, Nat.reduceEqDiff, Int.reduceToNat, Int.reduceLT, Int.reduceLE, Int.reduceEq, beq_self_eq_true, hr, hr2, hrow, hv, h1]
  cases h2 : vcheck row with
  | false =>
    refine callD_pure (vec_check row hrow) (by simp only [go_sem, Nat.reduceAdd, Nat.reduceSub, Nat.reduceMul, Nat.reduceLT, Nat.reduceLeDiff, ↓reduceIte, reduceCtorEq, Nat.reduceEqDiff, Int.reduceToNat, Int.reduceLT, Int.reduceLE, Int.reduceEq, beq_self_eq_true, hr, hr2, hrow, hv, h1, h2, vaccept, Bool.false_and, Bool.and_false]) (by simp only [go_sem, Nat.reduceAdd, Nat.reduceSub, Nat.reduceMul, Nat.reduceLT, Nat.reduceLeDiff, ↓reduceIte, reduceCtorEq, Nat.reduceEqDiff, Int.reduceToNat, Int.reduceLT, Int.reduceLE, Int.reduceEq, beq_self_eq_true, hr, hr2, hrow, hv, h1, h2, vaccept, Bool.false_and, Bool.and_false]) ?_; simp only [go_sem, Nat.reduceAdd, Nat.reduceSub, Nat.reduceMul, Nat.reduceLT, Nat.reduceLeDiff, ↓reduceIte, reduceCtorEq, Nat.reduceEqDiff, Int.reduceToNat, Int.reduceLT, Int.reduceLE, Int.reduceEq, beq_self_eq_true, hr, hr2, hrow, hv, h1, h2, vaccept, Bool.false_and, Bool.and_false]
  | true =>
  refine callD_pure (vec_check row hrow) (by simp only [go_sem, Nat.reduceAdd, Nat.reduceSub, Nat.reduceMul, Nat.reduceLT, Nat.reduceLeDiff, ↓reduceIte, reduceCtorEq, Nat.reduceEqDiff, Int.reduceToNat, Int.reduceLT, Int.reduceLE, Int.reduceEq, beq_self_eq_true, hr, hr2, hrow, hv, h1, h2]) (by simp only [go_sem, Nat.reduceAdd, Nat.reduceSub, Nat.reduceMul, Nat.reduceLT, Nat.reduceLeDiff, ↓reduceIte, reduceCtorEq, Nat.reduceEqDiff, Int.reduceToNat, Int.reduceLT, Int.reduceLE, Int.reduceEq, beq_self_eq_true, hr, hr2, hrow, hv, h1, h2]) ?_; simp only [go_sem, Nat.reduceAdd, Nat.reduceSub, Nat.reduceMul, Nat.reduceLT, Nat.reduceLeDiff, ↓reduceIte, reduceCtorEq, Nat.reduceEqDiff, Int.reduceToNat, Int.reduceLT, Int.reduceLE, Int.reduceEq, beq_self_eq_true, hr, hr2, hrow, hv, h1, h2]
  cases h3 : vleq row v with
  | false =>
    refine callD_pure (vec_leq row v hrow hv) (by simp only [go_sem, Nat.reduceAdd, Nat.reduceSub, Nat.reduceMul, Nat.reduceLT, Nat.reduceLeDiff, ↓reduceIte, reduceCtorEq, Nat.reduceEqDiff, Int.reduceToNat, Int.reduceLT, Int.reduceLE, Int.reduceEq, beq_self_eq_true, hr, hr2, hrow, hv, h1, h2, h3, vaccept, Bool.false_and, Bool.and_false]) (by simp only [go_sem, Nat.reduceAdd, Nat.reduceSub, Nat.reduceMul, Nat.reduceLT, Nat.reduceLeDiff, ↓reduceIte, reduceCtorEq, Nat.reduceEqDiff, Int.reduceToNat, Int.reduceLT, Int.reduceLE, Int.reduceEq, beq_self_eq_true, hr, hr2, hrow, hv, h1, h2, h3, vaccept, Bool.false_and, Bool.and_false]) ?_; simp only [go_sem, Nat.reduceAdd, Nat.reduceSub, Nat.reduceMul, Nat.reduceLT, Nat.reduceLeDiff, ↓reduceIte, reduceCtorEq, Nat.reduceEqDiff, Int.reduceToNat, Int.reduceLT, Int.reduceLE, Int.reduceEq, beq_self_eq_true, hr, hr2, hrow, hv, h1, h2, h3, vaccept, Bool.false_and, Bool.and_false]
  | true =>
  refine callD_pure (vec_leq row v hrow hv) (by simp only [go_sem, Nat.reduceAdd, Nat.reduceSub, Nat.reduceMul, Nat.reduceLT, Nat.reduceLeDiff, ↓reduceIte, reduceCtorEq, Nat.reduceEqDiff, Int.reduceToNat, Int.reduceLT, Int.reduceLE, Int.reduceEq, beq_self_eq_true, hr, hr2, hrow, hv, h1, h2, h3, hp0, hp1]) (by simp only [go_sem, Nat.reduceAdd, Nat.reduceSub, Nat.reduceMul, Nat.reduceLT, Nat.reduceLeDiff, ↓reduceIte, reduceCtorEq, Nat.reduceEqDiff, Int.reduceToNat, Int.reduceLT, Int.reduceLE, Int.reduceEq, beq_self_eq_true, hr, hr2, hrow, hv, h1, h2, h3, hp0, hp1]) ?_; simp only [go_sem, Nat.reduceAdd, Nat.reduceSub, Nat.reduceMul, Nat.reduceLT, Nat.reduceLeDiff, ↓reduceIte, reduceCtorEq, Nat.reduceEqDiff, Int.reduceToNat, Int.reduceLT, Int.reduceLE, Int.reduceEq, beq_self_eq_true, hr, hr2, hrow, hv, h1, h2, h3, hp0, hp1]
  have hg : (rows.getD p.toNat []).length = 13 := lens_getD hr2 (by omega)
  cases h4 : vleq (rows.getD p.toNat []) row with
  | false =>
    refine callD_pure (vec_leq _ row hg hrow) (by simp only [go_sem, Nat.reduceAdd, Nat.reduceSub, Nat.reduceMul, Nat.reduceLT, Nat.reduceLeDiff, ↓reduceIte, reduceCtorEq, Nat.reduceEqDiff, Int.reduceToNat, Int.reduceLT, Int.reduceLE, Int.reduceEq, beq_self_eq_true, hr, hr2, hrow, hv, h1, h2, h3, h4, vaccept, Bool.false_and, Bool.and_false]) (by simp only [go_sem, Nat.reduceAdd, Nat.reduceSub, Nat.reduceMul, Nat.reduceLT, Nat.reduceLeDiff, ↓reduceIte, reduceCtorEq, Nat.reduceEqDiff, Int.reduceToNat, Int.reduceLT, Int.reduceLE, Int.reduceEq, beq_self_eq_true, hr, hr2, hrow, hv, h1, h2, h3, h4, vaccept, Bool.false_and, Bool.and_false]) ?_; simp only [go_sem, Nat.reduceAdd, Nat.reduceSub, Nat.reduceMul, Nat.reduceLT, Nat.reduceLeDiff, ↓reduceIte, reduceCtorEq, Nat.reduceEqDiff, Int.reduceToNat, Int.reduceLT, Int.reduceLE, Int.reduceEq, beq_self_eq_true, hr, hr2, hrow, hv, h1, h2, h3, h4, vaccept, Bool.false_and, Bool.and_false]
  | true =>
  refine callD_pure (vec_leq _ row hg hrow) (by simp only [go_sem, Nat.reduceAdd, Nat.reduceSub, Nat.reduceMul, Nat.reduceLT, Nat.reduceLeDiff, ↓reduceIte, reduceCtorEq, Nat.reduceEqDiff, Int.reduceToNat, Int.reduceLT, Int.reduceLE, Int.reduceEq, beq_self_eq_true, hr, hr2, hrow, hv, h1, h2, h3, h4, hp0, hp1, hg]) (by simp only [go_sem, Nat.reduceAdd, Nat.reduceSub, Nat.reduceMul, Nat.reduceLT, Nat.reduceLeDiff, ↓reduceIte, reduceCtorEq, Nat.reduceEqDiff, Int.reduceToNat, Int.reduceLT, Int.reduceLE, Int.reduceEq, beq_self_eq_true, hr, hr2, hrow, hv, h1, h2, h3, h4, hp0, hp1, hg]) ?_; simp only [go_sem, Nat.reduceAdd, Nat.reduceSub, Nat.reduceMul, Nat.reduceLT, Nat.reduceLeDiff, ↓reduceIte, reduceCtorEq, Nat.reduceEqDiff, Int.reduceToNat, Int.reduceLT, Int.reduceLE, Int.reduceEq, beq_self_eq_true, hr, hr2, hrow, hv, h1, h2, h3, h4, hp0, hp1, hg]
  refine .inl ⟨by kernel_rfl, condK_split (fun h5 => ?_) (fun h5 => ?_)⟩
  · simp only [go_sem, Nat.reduceAdd, Nat.reduceSub, Nat.reduceMul, Nat.reduceLT, Nat.reduceLeDiff, ↓reduceIte, reduceCtorEq, Nat.reduceEqDiff, Int.reduceToNat, Int.reduceLT, Int.reduceLE, Int.reduceEq, beq_self_eq_true, hr, hr2, hrow, hv, hp0, hp1, hg, vaccept, h1, h2, h3, h4, Bool.and_self]
  · simp only [Bool.not_eq_false', decide_eq_true_eq] at h5
    have : rows.set p.toNat row = rows := by
      rw [← h5]
      refine List.ext_getElem (by simp) fun i hi1 hi2 => ?_
      rw [List.getElem_set]
      split
      · rename_i e; subst e; simp [List.getD_eq_getElem?_getD, hi2]
      · rfl
    simp only [go_sem, Nat.reduceAdd, Nat.reduceSub, Nat.reduceMul, Nat.reduceLT, Nat.reduceLeDiff, ↓reduceIte, reduceCtorEq, Nat.reduceEqDiff, Int.reduceToNat, Int.reduceLT, Int.reduceLE, Int.reduceEq, beq_self_eq_true, hr, hr2, hrow, hv, hp0, hp1, hg, vaccept, h1, h2, h3, h4, Bool.and_self, this]

theorem ref20_accept (rows : List (List Int)) (p : Int) (row v : List Int) (hr : rows.length = 13) (hr2 : lens 13 rows) (hrow : row.length = 13) (hv : v.length = 13) :
    PSpec Try.prog CT 45 [tab rows, .lit (.int .i64 p), ints row, ints v] (· = .tup [tab (vaccept rows p row v).1, .bool (vaccept rows p row v).2]) := by
  refine PSpec.of hT Try.func45 rfl (by kernel_rfl) rfl rfl ?_
  simp only [Try.f45, go_sem, Nat.reduceAdd, Nat.reduceSub, Nat.reduceMul, Nat.reduceLT, Nat.reduceLeDiff, ↓reduceIte, reduceCtorEq, Nat.reduceEqDiff, Int.reduceToNat, Int.reduceLT, Int.reduceLE, Int.reduceEq, beq_self_eq_true, hr, hr2, hrow, hv]
  refine .inl ⟨by kernel_rfl, ?_⟩
  cases h1 : vpeer p with
  | false =>
    refine callD_pure (ref_peer p) (by simp only [go_sem, Nat.reduceAdd, Nat.reduceSub, Nat.reduceMul, Nat.reduceLT, Nat.reduceLeDiff, ↓reduceIte, reduceCtorEq, Nat.reduceEqDiff, Int.reduceToNat, Int.reduceLT, Int.reduceLE, Int.reduceEq, beq_self_eq_true, hr, hr2, hrow, hv, h1, vaccept, Bool.false_and]) (by simp only [go_sem, Nat.reduceAdd, Nat.reduceSub, Nat.reduceMul, Nat.reduceLT, Nat.reduceLeDiff, ↓reduceIte, reduceCtorEq, Nat.reduceEqDiff, Int.reduceToNat, Int.reduceLT, Int.reduceLE, Int.reduceEq, beq_self_eq_true, hr, hr2, hrow, hv, h1, vaccept, Bool.false_and]) ?_; simp only [go_sem, Nat.reduceAdd, Nat.reduceSub, Nat.reduceMul, Nat.reduceLT, Nat.reduceLeDiff, ↓reduceIte, reduceCtorEq, Nat.reduceEqDiff, Int.reduceToNat, Int.reduceLT, Int.reduceLE, Int.reduceEq, beq_self_eq_true, hr, hr2, hrow, hv, h1, vaccept, Bool.false_and]
  | true =>
  obtain ⟨hp0, hp1⟩ := vpeer_of h1
  refine callD_pure (ref_peer p) (by simp only [go_sem, Nat.reduceAdd, Nat.reduceSub, Nat.reduceMul, Nat.reduceLT, Nat.reduceLeDiff, ↓reduceIte, reduceCtorEq, Nat.reduceEqDiff, Int.reduceToNat, Int.reduceLT, Int.reduceLE, Int.reduceEq, beq_self_eq_true, hr, hr2, hrow, hv, h1]) (by simp only [go_sem, Nat.reduceAdd, Nat.reduceSub, Nat.reduceMul, Nat.reduceLT, Nat.reduceLeDiff, ↓reduceIte, reduceCtorEq, Nat.reduceEqDiff, Int.reduceToNat, Int.reduceLT, Int.reduceLE, Int.reduceEq, beq_self_eq_true, hr, hr2, hrow, hv, h1]) ?_; simp only [go_sem, Nat.reduceAdd, Nat.reduceSub, Nat.reduceMul, Nat.reduceLT, Nat.reduceLeDiff, ↓reduceIte, reduceCtorEq, Nat.reduceEqDiff, Int.reduceToNat, Int.reduceLT, Int.reduceLE, Int.reduceEq, beq_self_eq_true, hr, hr2, hrow, hv, h1]
  cases h2 : vcheck row with
  | false =>
    refine callD_pure (ref_check row hrow) (by simp only [go_sem, Nat.reduceAdd, Nat.reduceSub, Nat.reduceMul, Nat.reduceLT, Nat.reduceLeDiff, ↓reduceIte, reduceCtorEq, Nat.reduceEqDiff, Int.reduceToNat, Int.reduceLT, Int.reduceLE, Int.reduceEq, beq_self_eq_true, hr, hr2, hrow, hv, h1, h2, vaccept, Bool.false_and, Bool.and_false]) (by simp only [go_sem, Nat.reduceAdd, Nat.reduceSub, Nat.reduceMul, Nat.reduceLT, Nat.reduceLeDiff, ↓reduceIte, reduceCtorEq, Nat.reduceEqDiff, Int.reduceToNat, Int.reduceLT, Int.reduceLE, Int.reduceEq, beq_self_eq_true, hr, hr2, hrow, hv, h1, h2, vaccept, Bool.false_and, Bool.and_false]) ?_; simp only [go_sem, Nat.reduceAdd, Nat.reduceSub, Nat.reduceMul, Nat.reduceLT, Nat.reduceLeDiff, ↓reduceIte, reduceCtorEq, Nat.reduceEqDiff, Int.reduceToNat, Int.reduceLT, Int.reduceLE, Int.reduceEq, beq_self_eq_true, hr, hr2, hrow, hv, h1, h2, vaccept, Bool.false_and, Bool.and_false]
  | true =>
  refine callD_pure (ref_check row hrow) (by simp only [go_sem, Nat.reduceAdd, Nat.reduceSub, Nat.reduceMul, Nat.reduceLT, Nat.reduceLeDiff, ↓reduceIte, reduceCtorEq, Nat.reduceEqDiff, Int.reduceToNat, Int.reduceLT, Int.reduceLE, Int.reduceEq, beq_self_eq_true, hr, hr2, hrow, hv, h1, h2]) (by simp only [go_sem, Nat.reduceAdd, Nat.reduceSub, Nat.reduceMul, Nat.reduceLT, Nat.reduceLeDiff, ↓reduceIte, reduceCtorEq, Nat.reduceEqDiff, Int.reduceToNat, Int.reduceLT, Int.reduceLE, Int.reduceEq, beq_self_eq_true, hr, hr2, hrow, hv, h1, h2]) ?_; simp only [go_sem, Nat.reduceAdd, Nat.reduceSub, Nat.reduceMul, Nat.reduceLT, Nat.reduceLeDiff, ↓reduceIte, reduceCtorEq, Nat.reduceEqDiff, Int.reduceToNat, Int.reduceLT, Int.reduceLE, Int.reduceEq, beq_self_eq_true, hr, hr2, hrow, hv, h1, h2]
  cases h3 : vleq row v with
  | false =>
    refine callD_pure (ref_leq row v hrow hv) (by simp only [go_sem, Nat.reduceAdd, Nat.reduceSub, Nat.reduceMul, Nat.reduceLT, Nat.reduceLeDiff, ↓reduceIte, reduceCtorEq, Nat.reduceEqDiff, Int.reduceToNat, Int.reduceLT, Int.reduceLE, Int.reduceEq, beq_self_eq_true, hr, hr2, hrow, hv, h1, h2, h3, vaccept, Bool.false_and, Bool.and_false]) (by simp only [go_sem, Nat.reduceAdd, Nat.reduceSub, Nat.reduceMul, Nat.reduceLT, Nat.reduceLeDiff, ↓reduceIte, reduceCtorEq, Nat.reduceEqDiff, Int.reduceToNat, Int.reduceLT, Int.reduceLE, Int.reduceEq, beq_self_eq_true, hr, hr2, hrow, hv, h1, h2, h3, vaccept, Bool.false_and, Bool.and_false]) ?_; simp only [go_sem, Nat.reduceAdd, Nat.reduceSub, Nat.reduceMul, Nat.reduceLT, Nat.reduceLeDiff, ↓reduceIte, reduceCtorEq, Nat.reduceEqDiff, Int.reduceToNat, Int.reduceLT, Int.reduceLE, Int.reduceEq, beq_self_eq_true, hr, hr2, hrow, hv, h1, h2, h3, vaccept, Bool.false_and, Bool.and_false]
  | true =>
  refine callD_pure (ref_leq row v hrow hv) (by simp only [go_sem, Nat.reduceAdd, Nat.reduceSub, Nat.reduceMul, Nat.reduceLT, Nat.reduceLeDiff, ↓reduceIte, reduceCtorEq, Nat.reduceEqDiff, Int.reduceToNat, Int.reduceLT, Int.reduceLE, Int.reduceEq, beq_self_eq_true, hr, hr2, hrow, hv, h1, h2, h3, hp0, hp1]) (by simp only [go_sem, Nat.reduceAdd, Nat.reduceSub, Nat.reduceMul, Nat.reduceLT, Nat.reduceLeDiff, ↓reduceIte, reduceCtorEq, Nat.reduceEqDiff, Int.reduceToNat, Int.reduceLT, Int.reduceLE, Int.reduceEq, beq_self_eq_true, hr, hr2, hrow, hv, h1, h2, h3, hp0, hp1]) ?_; simp only [go_sem, Nat.reduceAdd, Nat.reduceSub, Nat.reduceMul, Nat.reduceLT, Nat.reduceLeDiff, ↓reduceIte, reduceCtorEq, Nat.reduceEqDiff, Int.reduceToNat, Int.reduceLT, Int.reduceLE, Int.reduceEq, beq_self_eq_true, hr, hr2, hrow, hv, h1, h2, h3, hp0, hp1]
  have hg : (rows.getD p.toNat []).length = 13 := lens_getD hr2 (by omega)
  cases h4 : vleq (rows.getD p.toNat []) row with
  | false =>
    refine callD_pure (ref_leq _ row hg hrow) (by simp only [go_sem, Nat.reduceAdd, Nat.reduceSub, Nat.reduceMul, Nat.reduceLT, Nat.reduceLeDiff, ↓reduceIte, reduceCtorEq, Nat.reduceEqDiff, Int.reduceToNat, Int.reduceLT, Int.reduceLE, Int.reduceEq, beq_self_eq_true, hr, hr2, hrow, hv, h1, h2, h3, h4, vaccept, Bool.false_and, Bool.and_false]) (by simp only [go_sem, Nat.reduceAdd, Nat.reduceSub, Nat.reduceMul, Nat.reduceLT, Nat.reduceLeDiff, ↓reduceIte, reduceCtorEq, Nat.reduceEqDiff, Int.reduceToNat, Int.reduceLT, Int.reduceLE, Int.reduceEq, beq_self_eq_true, hr, hr2, hrow, hv, h1, h2, h3, h4, vaccept, Bool.false_and, Bool.and_false]) ?_; simp only [go_sem, Nat.reduceAdd, Nat.reduceSub, Nat.reduceMul, Nat.reduceLT, Nat.reduceLeDiff, ↓reduceIte, reduceCtorEq, Nat.reduceEqDiff, Int.reduceToNat, Int.reduceLT, Int.reduceLE, Int.reduceEq, beq_self_eq_true, hr, hr2, hrow, hv, h1, h2, h3, h4, vaccept, Bool.false_and, Bool.and_false]
  | true =>
  refine callD_pure (ref_leq _ row hg hrow) (by simp only [go_sem, Nat.reduceAdd, Nat.reduceSub, Nat.reduceMul, Nat.reduceLT, Nat.reduceLeDiff, ↓reduceIte, reduceCtorEq, Nat.reduceEqDiff, Int.reduceToNat, Int.reduceLT, Int.reduceLE, Int.reduceEq, beq_self_eq_true, hr, hr2, hrow, hv, hp0, hp1, hg, h1, h2, h3, h4, vaccept, Bool.and_self]) (by simp only [go_sem, Nat.reduceAdd, Nat.reduceSub, Nat.reduceMul, Nat.reduceLT, Nat.reduceLeDiff, ↓reduceIte, reduceCtorEq, Nat.reduceEqDiff, Int.reduceToNat, Int.reduceLT, Int.reduceLE, Int.reduceEq, beq_self_eq_true, hr, hr2, hrow, hv, hp0, hp1, hg, h1, h2, h3, h4, vaccept, Bool.and_self]) ?_; simp only [go_sem, Nat.reduceAdd, Nat.reduceSub, Nat.reduceMul, Nat.reduceLT, Nat.reduceLeDiff, ↓reduceIte, reduceCtorEq, Nat.reduceEqDiff, Int.reduceToNat, Int.reduceLT, Int.reduceLE, Int.reduceEq, beq_self_eq_true, hr, hr2, hrow, hv, hp0, hp1, hg, h1, h2, h3, h4, vaccept, Bool.and_self]

def vcutL (rows : List (List Int)) (self : Int) (own : List Int) (live : List Int) : List Int := live.foldl (fun o p => if p = self then o else vmeet o (rows.getD p.toNat [])) own
def vcut (rows : List (List Int)) (self : Int) (own : List Int) (live : List Int) : List Int := if rosterOk live && !decide (live = []) && vpeer self then vcutL rows self own live else zeros 13
theorem vcutL_take (rows : List (List Int)) (self : Int) (own live : List Int) (k : Nat) (hk : k < live.length) :
    vcutL rows self own (live.take (k + 1)) = if live.getD k 0 = self then vcutL rows self own (live.take k) else vmeet (vcutL rows self own (live.take k)) (rows.getD (live.getD k 0).toNat []) := by
  simp only [vcutL, List.take_add_one, List.getElem?_eq_getElem hk, Option.toList_some, List.foldl_append, List.foldl_cons, List.foldl_nil, List.getD_eq_getElem?_getD, Option.getD_some]
theorem roster_pos {live : List Int} (h : rosterOk live = true) {k : Nat} (hk : k < live.length) : 0 ≤ live.getD k 0 ∧ (live.getD k 0).toNat < 13 := by
  have := (rosterOk_iff live).1 h k hk
  simp only [rosterAt, Bool.and_eq_true] at this
  exact vpeer_of this.1
theorem vcutL_len {rows : List (List Int)} {self : Int} {own live : List Int} (hr : rows.length = 13) (hr2 : lens 13 rows) (ho : own.length = 13) (h : rosterOk live = true) : ∀ k, k ≤ live.length → (vcutL rows self own (live.take k)).length = 13
  | 0, _ => by simpa [vcutL] using ho
  | k + 1, hk => by
    rw [vcutL_take _ _ _ _ k (by omega)]
    have ih := vcutL_len (self := self) hr hr2 ho h k (by omega)
    obtain ⟨h1, h2⟩ := roster_pos h (show k < live.length by omega)
    split
    · exact ih
    · exact vmeet_len _ _ ih (lens_getD hr2 (by omega))

theorem ref20_cut (rows : List (List Int)) (self : Int) (own live : List Int) (hr : rows.length = 13) (hr2 : lens 13 rows) (ho : own.length = 13) (hl : live.length < 4000000000) :
    PSpec Try.prog CT 46 [tab rows, .lit (.int .i64 self), ints own, intsL live .no] (· = ints (vcut rows self own live)) := by
  refine PSpec.of hT Try.func46 rfl (by kernel_rfl) rfl rfl ?_
  simp only [Try.f46, go_sem, Nat.reduceAdd, Nat.reduceSub, Nat.reduceMul, Nat.reduceLT, Nat.reduceLeDiff, ↓reduceIte, reduceCtorEq, Nat.reduceEqDiff, Int.reduceToNat, Int.reduceLT, Int.reduceLE, Int.reduceEq, beq_self_eq_true, hr, hr2, ho]
  cases h1 : rosterOk live with
  | false =>
    refine callK_pure (ref18_check live hl) (by simp only [go_sem, Nat.reduceAdd, Nat.reduceSub, Nat.reduceMul, Nat.reduceLT, Nat.reduceLeDiff, ↓reduceIte, reduceCtorEq, Nat.reduceEqDiff, Int.reduceToNat, Int.reduceLT, Int.reduceLE, Int.reduceEq, beq_self_eq_true, hr, hr2, ho, h1, vcut, Bool.false_and]) (by simp only [go_sem, Nat.reduceAdd, Nat.reduceSub, Nat.reduceMul, Nat.reduceLT, Nat.reduceLeDiff, ↓reduceIte, reduceCtorEq, Nat.reduceEqDiff, Int.reduceToNat, Int.reduceLT, Int.reduceLE, Int.reduceEq, beq_self_eq_true, hr, hr2, ho, h1, vcut, Bool.false_and]) ?_; simp only [go_sem, Nat.reduceAdd, Nat.reduceSub, Nat.reduceMul, Nat.reduceLT, Nat.reduceLeDiff, ↓reduceIte, reduceCtorEq, Nat.reduceEqDiff, Int.reduceToNat, Int.reduceLT, Int.reduceLE, Int.reduceEq, beq_self_eq_true, hr, hr2, ho, h1, vcut, Bool.false_and]
  | true =>
  refine callK_pure (ref18_check live hl) (by simp only [go_sem, Nat.reduceAdd, Nat.reduceSub, Nat.reduceMul, Nat.reduceLT, Nat.reduceLeDiff, ↓reduceIte, reduceCtorEq, Nat.reduceEqDiff, Int.reduceToNat, Int.reduceLT, Int.reduceLE, Int.reduceEq, beq_self_eq_true, hr, hr2, ho, h1]) (by simp only [go_sem, Nat.reduceAdd, Nat.reduceSub, Nat.reduceMul, Nat.reduceLT, Nat.reduceLeDiff, ↓reduceIte, reduceCtorEq, Nat.reduceEqDiff, Int.reduceToNat, Int.reduceLT, Int.reduceLE, Int.reduceEq, beq_self_eq_true, hr, hr2, ho, h1]) ?_; simp only [go_sem, Nat.reduceAdd, Nat.reduceSub, Nat.reduceMul, Nat.reduceLT, Nat.reduceLeDiff, ↓reduceIte, reduceCtorEq, Nat.reduceEqDiff, Int.reduceToNat, Int.reduceLT, Int.reduceLE, Int.reduceEq, beq_self_eq_true, hr, hr2, ho, h1]
  refine guardK_split (fun h2 => ?_) (fun h2 => ?_)
  · have e : live = [] := by
      have := of_decide_eq_true h2
      exact List.eq_nil_of_length_eq_zero (by omega)
    have e2 : vcut rows self own live = zeros 13 := by simp only [vcut, e, decide_true, Bool.not_true, Bool.and_false, Bool.false_and, Bool.false_eq_true, if_false]
    simp only [go_sem, Nat.reduceAdd, Nat.reduceSub, Nat.reduceMul, Nat.reduceLT, Nat.reduceLeDiff, ↓reduceIte, reduceCtorEq, Nat.reduceEqDiff, Int.reduceToNat, Int.reduceLT, Int.reduceLE, Int.reduceEq, beq_self_eq_true, hr, hr2, ho, h2, e2]
  have hne : decide (live = []) = false := by
    rw [decide_eq_false_iff_not]; rintro rfl; simp at h2
  simp only [go_sem, Nat.reduceAdd, Nat.reduceSub, Nat.reduceMul, Nat.reduceLT, Nat.reduceLeDiff, ↓reduceIte, reduceCtorEq, Nat.reduceEqDiff, Int.reduceToNat, Int.reduceLT, Int.reduceLE, Int.reduceEq, beq_self_eq_true, hr, hr2, ho, h2]
  cases h3 : vpeer self with
  | false =>
    refine callK_pure (ref_peer self) (by simp only [go_sem, Nat.reduceAdd, Nat.reduceSub, Nat.reduceMul, Nat.reduceLT, Nat.reduceLeDiff, ↓reduceIte, reduceCtorEq, Nat.reduceEqDiff, Int.reduceToNat, Int.reduceLT, Int.reduceLE, Int.reduceEq, beq_self_eq_true, hr, hr2, ho, h2, h3, vcut, Bool.and_false]) (by simp only [go_sem, Nat.reduceAdd, Nat.reduceSub, Nat.reduceMul, Nat.reduceLT, Nat.reduceLeDiff, ↓reduceIte, reduceCtorEq, Nat.reduceEqDiff, Int.reduceToNat, Int.reduceLT, Int.reduceLE, Int.reduceEq, beq_self_eq_true, hr, hr2, ho, h2, h3, vcut, Bool.and_false]) ?_; simp only [go_sem, Nat.reduceAdd, Nat.reduceSub, Nat.reduceMul, Nat.reduceLT, Nat.reduceLeDiff, ↓reduceIte, reduceCtorEq, Nat.reduceEqDiff, Int.reduceToNat, Int.reduceLT, Int.reduceLE, Int.reduceEq, beq_self_eq_true, hr, hr2, ho, h2, h3, vcut, Bool.and_false]
  | true =>
  refine callK_pure (ref_peer self) (by simp only [go_sem, Nat.reduceAdd, Nat.reduceSub, Nat.reduceMul, Nat.reduceLT, Nat.reduceLeDiff, ↓reduceIte, reduceCtorEq, Nat.reduceEqDiff, Int.reduceToNat, Int.reduceLT, Int.reduceLE, Int.reduceEq, beq_self_eq_true, hr, hr2, ho, h2, h3]) (by simp only [go_sem, Nat.reduceAdd, Nat.reduceSub, Nat.reduceMul, Nat.reduceLT, Nat.reduceLeDiff, ↓reduceIte, reduceCtorEq, Nat.reduceEqDiff, Int.reduceToNat, Int.reduceLT, Int.reduceLE, Int.reduceEq, beq_self_eq_true, hr, hr2, ho, h2, h3]) ?_; simp only [go_sem, Nat.reduceAdd, Nat.reduceSub, Nat.reduceMul, Nat.reduceLT, Nat.reduceLeDiff, ↓reduceIte, reduceCtorEq, Nat.reduceEqDiff, Int.reduceToNat, Int.reduceLT, Int.reduceLE, Int.reduceEq, beq_self_eq_true, hr, hr2, ho, h2, h3]
  have hv : vcut rows self own live = vcutL rows self own live := by simp only [vcut, h1, hne, h3, Bool.not_false, Bool.and_self, if_true]
  refine awp_loop (fun n s => ∃ (k : Nat) (v : List Int) (g : Nat → D), s = ⟨[tab rows, .lit (.int .i64 self), ints own, intsL live .no, .ptr 0 [], g 5, .ptr 1 [], g 7, .ptr 2 [], .ptr 3 [], .lit (.int .i64 k), g 11, g 12, g 13, g 14, g 15, g 16, g 17, g 18, g 19, g 20, g 21, g 22, g 23, g 24, g 25, g 26, g 27, g 28, g 29, g 30, g 31, g 32, g 33, g 34, g 35, g 36, g 37, g 38, g 39, g 40, g 41, g 42, g 43, g 44, g 45, g 46], ⟨[(.arr 13 (.arr 13 .leaf), tab rows), (.arr 13 .leaf, ints own), (.arr 13 .leaf, ints (zeros 13)), (.arr 13 .leaf, ints v)], []⟩⟩ ∧ n = live.length - k ∧ k ≤ live.length ∧ v = vcutL rows self own (live.take k)) live.length ⟨0, own, reg_intro rfl rfl ⟨by simp, by omega, by simp [vcutL]⟩⟩ ?_
  rintro n s ⟨k, v, g, rfl, hn, hk, hvk⟩
  have hvl : v.length = 13 := by rw [hvk]; exact vcutL_len hr hr2 ho h1 k hk
  simp only [go_sem, Nat.reduceAdd, Nat.reduceSub, Nat.reduceMul, Nat.reduceLT, Nat.reduceLeDiff, ↓reduceIte, reduceCtorEq, Nat.reduceEqDiff, Int.reduceToNat, Int.reduceLT, Int.reduceLE, Int.reduceEq, beq_self_eq_true, hr, hr2, ho, hvl]
  refine condK_split (fun hc => ?_) (fun hc => ?_)
  · have hk' : k < live.length := by have := of_decide_eq_true hc; omega
    obtain ⟨q1, q2⟩ := roster_pos h1 hk'
    simp only [go_sem, Nat.reduceAdd, Nat.reduceSub, Nat.reduceMul, Nat.reduceLT, Nat.reduceLeDiff, ↓reduceIte, reduceCtorEq, Nat.reduceEqDiff, Int.reduceToNat, Int.reduceLT, Int.reduceLE, Int.reduceEq, beq_self_eq_true, hr, hr2, ho, hvl, hk']
    have htk := vcutL_take rows self own live k hk'
    refine condK_split (fun h4 => ?_) (fun h4 => ?_)
    · simp only [Bool.not_eq_true', decide_eq_false_iff_not] at h4
      rw [if_neg h4, ← hvk] at htk
      have hg : (rows.getD (live.getD k 0).toNat []).length = 13 := lens_getD hr2 (by omega)
      simp only [go_sem, Nat.reduceAdd, Nat.reduceSub, Nat.reduceMul, Nat.reduceLT, Nat.reduceLeDiff, ↓reduceIte, reduceCtorEq, Nat.reduceEqDiff, Int.reduceToNat, Int.reduceLT, Int.reduceLE, Int.reduceEq, beq_self_eq_true, hr, hr2, ho, hvl, hk', q1, q2, hg]
      refine .inl ⟨by kernel_rfl, ?_⟩
      refine callD_pure (ref_meet v _ hvl hg) (by simp only [go_sem, Nat.reduceAdd, Nat.reduceSub, Nat.reduceMul, Nat.reduceLT, Nat.reduceLeDiff, ↓reduceIte, reduceCtorEq, Nat.reduceEqDiff, Int.reduceToNat, Int.reduceLT, Int.reduceLE, Int.reduceEq, beq_self_eq_true, hr, hr2, ho, hvl, hk', q1, q2, hg, vmeet_len v _ hvl hg, wrapNat k (by omega)]) (by simp only [go_sem, Nat.reduceAdd, Nat.reduceSub, Nat.reduceMul, Nat.reduceLT, Nat.reduceLeDiff, ↓reduceIte, reduceCtorEq, Nat.reduceEqDiff, Int.reduceToNat, Int.reduceLT, Int.reduceLE, Int.reduceEq, beq_self_eq_true, hr, hr2, ho, hvl, hk', q1, q2, hg, vmeet_len v _ hvl hg, wrapNat k (by omega)]) ?_; simp only [go_sem, Nat.reduceAdd, Nat.reduceSub, Nat.reduceMul, Nat.reduceLT, Nat.reduceLeDiff, ↓reduceIte, reduceCtorEq, Nat.reduceEqDiff, Int.reduceToNat, Int.reduceLT, Int.reduceLE, Int.reduceEq, beq_self_eq_true, hr, hr2, ho, hvl, hk', q1, q2, hg, vmeet_len v _ hvl hg, wrapNat k (by omega)]
      exact ⟨live.length - (k + 1), by omega, k + 1, _, reg_intro rfl rfl ⟨rfl, by omega, htk.symm⟩⟩
    · simp only [Bool.not_eq_false', decide_eq_true_eq] at h4
      rw [if_pos h4, ← hvk] at htk
      simp only [go_sem, Nat.reduceAdd, Nat.reduceSub, Nat.reduceMul, Nat.reduceLT, Nat.reduceLeDiff, ↓reduceIte, reduceCtorEq, Nat.reduceEqDiff, Int.reduceToNat, Int.reduceLT, Int.reduceLE, Int.reduceEq, beq_self_eq_true, hr, hr2, ho, hvl, wrapNat k (by omega)]
      exact ⟨live.length - (k + 1), by omega, k + 1, _, reg_intro rfl rfl ⟨rfl, by omega, htk.symm⟩⟩
  · have hi := of_decide_eq_false hc
    obtain rfl : k = live.length := by omega
    rw [List.take_of_length_le (Nat.le_refl _)] at hvk
    simp only [go_sem, Nat.reduceAdd, Nat.reduceSub, Nat.reduceMul, Nat.reduceLT, Nat.reduceLeDiff, ↓reduceIte, reduceCtorEq, Nat.reduceEqDiff, Int.reduceToNat, Int.reduceLT, Int.reduceLE, Int.reduceEq, beq_self_eq_true, hr, hr2, ho, hvl, hv.trans hvk.symm]

/-- What a cut is: the greatest that is below the own one and each other one's. -/
theorem vcutL_iff {rows : List (List Int)} {self : Int} {live : List Int} (hr : rows.length = 13) (hr2 : lens 13 rows) {own : List Int} (ho : own.length = 13) {x : List Int} (hx : x.length = 13) : ∀ {l : List Int}, (∀ p ∈ l, 0 ≤ p ∧ p.toNat < 13) →
    ∀ {o : List Int}, o.length = 13 → ((l.foldl (fun o p => if p = self then o else vmeet o (rows.getD p.toNat [])) o).length = 13 ∧ (vleq x (l.foldl (fun o p => if p = self then o else vmeet o (rows.getD p.toNat [])) o) = true ↔ vleq x o = true ∧ ∀ p ∈ l, p ≠ self → vleq x (rows.getD p.toNat []) = true))
  | [], _, o, hlo => ⟨hlo, by simp⟩
  | p :: l, hp, o, hlo => by
    obtain ⟨p1, p2⟩ := hp p (by simp)
    have hg : (rows.getD p.toNat []).length = 13 := lens_getD hr2 (by omega)
    simp only [List.foldl_cons]
    by_cases h : p = self
    · rw [if_pos h]
      obtain ⟨i1, i2⟩ := vcutL_iff (live := live) hr hr2 ho hx (l := l) (fun q hq => hp q (by simp [hq])) hlo
      refine ⟨i1, ?_⟩
      rw [i2]
      simp only [List.mem_cons, forall_eq_or_imp]
      exact ⟨fun ⟨a, b⟩ => ⟨a, fun hh => absurd h hh, b⟩, fun ⟨a, _, b⟩ => ⟨a, b⟩⟩
    · rw [if_neg h]
      obtain ⟨i1, i2⟩ := vcutL_iff (live := live) hr hr2 ho hx (l := l) (fun q hq => hp q (by simp [hq])) (vmeet_len o _ hlo hg)
      refine ⟨i1, ?_⟩
      rw [i2, leq_vmeet o _ x hlo hg hx, Bool.and_eq_true]
      simp only [List.mem_cons, forall_eq_or_imp]
      exact ⟨fun ⟨⟨a, b⟩, c⟩ => ⟨a, fun _ => b, c⟩, fun ⟨a, b, c⟩ => ⟨⟨a, b h⟩, c⟩⟩

end Go.Ab
