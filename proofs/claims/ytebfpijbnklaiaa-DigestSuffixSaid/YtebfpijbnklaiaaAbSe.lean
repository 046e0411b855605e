/- The laws of what is stable: which rows are taken in, and what is stable; that it is below; that it rises. Conditions: none. -/
import Derived.Test.YtebfpijbnklaiaaAbSd
set_option linter.unusedSimpArgs false
namespace Go.Ab
open Go.Proofs

theorem vaccept_len {rows : List (List Int)} {p : Int} {row v : List Int} (hr : rows.length = 13) : (vaccept rows p row v).1.length = 13 := by
  unfold vaccept; split <;> simp [hr]
theorem vaccept_lens {rows : List (List Int)} {p : Int} {row v : List Int} (hr2 : lens 13 rows) (hrow : row.length = 13) : lens 13 (vaccept rows p row v).1 := by
  unfold vaccept; split
  · rw [lens_set_t 13 rows _ row (eq_true hr2) (eq_true hrow)]; trivial
  · exact hr2
theorem vcut_len {rows : List (List Int)} {self : Int} {own live : List Int} (hr : rows.length = 13) (hr2 : lens 13 rows) (ho : own.length = 13) : (vcut rows self own live).length = 13 := by
  unfold vcut; split
  · rename_i h
    simp only [Bool.and_eq_true] at h
    have := vcutL_len (self := self) hr hr2 ho h.1.1 live.length (Nat.le_refl _)
    rwa [List.take_of_length_le (Nat.le_refl _)] at this
  · exact zeros_len 13
theorem vcut_iff {rows : List (List Int)} {self : Int} {own live : List Int} (hr : rows.length = 13) (hr2 : lens 13 rows) (ho : own.length = 13) (h : (rosterOk live && !decide (live = []) && vpeer self) = true) {x : List Int} (hx : x.length = 13) :
    vleq x (vcut rows self own live) = true ↔ vleq x own = true ∧ ∀ p ∈ live, p ≠ self → vleq x (rows.getD p.toNat []) = true := by
  have hl : ∀ p ∈ live, 0 ≤ p ∧ p.toNat < 13 := fun p hp => by
    simp only [Bool.and_eq_true] at h
    have := roster_mem h.1.1 hp; omega
  unfold vcut vcutL
  rw [if_pos h]
  exact (vcutL_iff (self := self) (live := live) hr hr2 ho hx hl ho).2

theorem law_stable_tells (rows : List (List Int)) (p : Int) (row v live : List Int) (hr : rows.length = 13) (hr2 : lens 13 rows) (hrow : row.length = 13) (hv : v.length = 13) :
    PSpec Try.prog CT 11 [tab rows, .lit (.int .i64 p), ints row, ints v, intsL live .no] (· = .bool true) := by
  refine PSpec.of hT Try.func11 rfl (by kernel_rfl) rfl rfl ?_
  simp only [Try.f11, go_sem, Nat.reduceAdd, Nat.reduceSub, Nat.reduceMul, Nat.reduceLT, Nat.reduceLeDiff, ↓reduceIte, reduceCtorEq, Nat.reduceEqDiff, Int.reduceToNat, Int.reduceLT, Int.reduceLE, Int.reduceEq, beq_self_eq_true, hr, hr2, hrow, hv]
  refine condK_split (fun hc => ?_) (fun hc => ?_)
  · simp only [go_sem, Nat.reduceAdd, Nat.reduceSub, Nat.reduceMul, Nat.reduceLT, Nat.reduceLeDiff, ↓reduceIte, reduceCtorEq, Nat.reduceEqDiff, Int.reduceToNat, Int.reduceLT, Int.reduceLE, Int.reduceEq, beq_self_eq_true, hr, hr2, hrow, hv]
    refine callK_pure (heads20) (by simp only [go_sem, Nat.reduceAdd, Nat.reduceSub, Nat.reduceMul, Nat.reduceLT, Nat.reduceLeDiff, ↓reduceIte, reduceCtorEq, Nat.reduceEqDiff, Int.reduceToNat, Int.reduceLT, Int.reduceLE, Int.reduceEq, beq_self_eq_true, hr, hr2, hrow, hv]) (by simp only [go_sem, Nat.reduceAdd, Nat.reduceSub, Nat.reduceMul, Nat.reduceLT, Nat.reduceLeDiff, ↓reduceIte, reduceCtorEq, Nat.reduceEqDiff, Int.reduceToNat, Int.reduceLT, Int.reduceLE, Int.reduceEq, beq_self_eq_true, hr, hr2, hrow, hv]) ?_; simp only [go_sem, Nat.reduceAdd, Nat.reduceSub, Nat.reduceMul, Nat.reduceLT, Nat.reduceLeDiff, ↓reduceIte, reduceCtorEq, Nat.reduceEqDiff, Int.reduceToNat, Int.reduceLT, Int.reduceLE, Int.reduceEq, beq_self_eq_true, hr, hr2, hrow, hv]
  have hl : live.length < 4000000000 := by have := of_decide_eq_false hc; omega
  simp only [go_sem, Nat.reduceAdd, Nat.reduceSub, Nat.reduceMul, Nat.reduceLT, Nat.reduceLeDiff, ↓reduceIte, reduceCtorEq, Nat.reduceEqDiff, Int.reduceToNat, Int.reduceLT, Int.reduceLE, Int.reduceEq, beq_self_eq_true, hr, hr2, hrow, hv]
  have a1 := vaccept_len (p := p) (row := row) (v := v) hr
  have a2 := vaccept_lens (p := p) (v := v) hr2 hrow
  refine callK_pure (stable_accept rows p row v hr hr2 hrow hv) (by simp only [go_sem, Nat.reduceAdd, Nat.reduceSub, Nat.reduceMul, Nat.reduceLT, Nat.reduceLeDiff, ↓reduceIte, reduceCtorEq, Nat.reduceEqDiff, Int.reduceToNat, Int.reduceLT, Int.reduceLE, Int.reduceEq, beq_self_eq_true, hr, hr2, hrow, hv, a1, a2]) (by simp only [go_sem, Nat.reduceAdd, Nat.reduceSub, Nat.reduceMul, Nat.reduceLT, Nat.reduceLeDiff, ↓reduceIte, reduceCtorEq, Nat.reduceEqDiff, Int.reduceToNat, Int.reduceLT, Int.reduceLE, Int.reduceEq, beq_self_eq_true, hr, hr2, hrow, hv, a1, a2]) ?_; simp only [go_sem, Nat.reduceAdd, Nat.reduceSub, Nat.reduceMul, Nat.reduceLT, Nat.reduceLeDiff, ↓reduceIte, reduceCtorEq, Nat.reduceEqDiff, Int.reduceToNat, Int.reduceLT, Int.reduceLE, Int.reduceEq, beq_self_eq_true, hr, hr2, hrow, hv, a1, a2]
  refine callK_pure (ref20_accept rows p row v hr hr2 hrow hv) (by simp only [go_sem, Nat.reduceAdd, Nat.reduceSub, Nat.reduceMul, Nat.reduceLT, Nat.reduceLeDiff, ↓reduceIte, reduceCtorEq, Nat.reduceEqDiff, Int.reduceToNat, Int.reduceLT, Int.reduceLE, Int.reduceEq, beq_self_eq_true, hr, hr2, hrow, hv, a1, a2, beq_self_eq_true]) (by simp only [go_sem, Nat.reduceAdd, Nat.reduceSub, Nat.reduceMul, Nat.reduceLT, Nat.reduceLeDiff, ↓reduceIte, reduceCtorEq, Nat.reduceEqDiff, Int.reduceToNat, Int.reduceLT, Int.reduceLE, Int.reduceEq, beq_self_eq_true, hr, hr2, hrow, hv, a1, a2, beq_self_eq_true]) ?_; simp only [go_sem, Nat.reduceAdd, Nat.reduceSub, Nat.reduceMul, Nat.reduceLT, Nat.reduceLeDiff, ↓reduceIte, reduceCtorEq, Nat.reduceEqDiff, Int.reduceToNat, Int.reduceLT, Int.reduceLE, Int.reduceEq, beq_self_eq_true, hr, hr2, hrow, hv, a1, a2, beq_self_eq_true]
  refine .inl ⟨by kernel_rfl, ?_⟩
  refine callD_pure (stable_cut rows p v live hr hr2 hv hl) (by simp only [go_sem, Nat.reduceAdd, Nat.reduceSub, Nat.reduceMul, Nat.reduceLT, Nat.reduceLeDiff, ↓reduceIte, reduceCtorEq, Nat.reduceEqDiff, Int.reduceToNat, Int.reduceLT, Int.reduceLE, Int.reduceEq, beq_self_eq_true, hr, hr2, hrow, hv, a1, a2]) (by simp only [go_sem, Nat.reduceAdd, Nat.reduceSub, Nat.reduceMul, Nat.reduceLT, Nat.reduceLeDiff, ↓reduceIte, reduceCtorEq, Nat.reduceEqDiff, Int.reduceToNat, Int.reduceLT, Int.reduceLE, Int.reduceEq, beq_self_eq_true, hr, hr2, hrow, hv, a1, a2]) ?_; simp only [go_sem, Nat.reduceAdd, Nat.reduceSub, Nat.reduceMul, Nat.reduceLT, Nat.reduceLeDiff, ↓reduceIte, reduceCtorEq, Nat.reduceEqDiff, Int.reduceToNat, Int.reduceLT, Int.reduceLE, Int.reduceEq, beq_self_eq_true, hr, hr2, hrow, hv, a1, a2]
  have c1 := vcut_len (self := p) (live := live) hr hr2 hv
  refine callD_pure (ref20_cut rows p v live hr hr2 hv hl) (by simp only [go_sem, Nat.reduceAdd, Nat.reduceSub, Nat.reduceMul, Nat.reduceLT, Nat.reduceLeDiff, ↓reduceIte, reduceCtorEq, Nat.reduceEqDiff, Int.reduceToNat, Int.reduceLT, Int.reduceLE, Int.reduceEq, beq_self_eq_true, hr, hr2, hrow, hv, a1, a2, c1]) (by simp only [go_sem, Nat.reduceAdd, Nat.reduceSub, Nat.reduceMul, Nat.reduceLT, Nat.reduceLeDiff, ↓reduceIte, reduceCtorEq, Nat.reduceEqDiff, Int.reduceToNat, Int.reduceLT, Int.reduceLE, Int.reduceEq, beq_self_eq_true, hr, hr2, hrow, hv, a1, a2, c1]) ?_; simp only [go_sem, Nat.reduceAdd, Nat.reduceSub, Nat.reduceMul, Nat.reduceLT, Nat.reduceLeDiff, ↓reduceIte, reduceCtorEq, Nat.reduceEqDiff, Int.reduceToNat, Int.reduceLT, Int.reduceLE, Int.reduceEq, beq_self_eq_true, hr, hr2, hrow, hv, a1, a2, c1]
  refine callD_pure (heads20) (by simp only [go_sem, Nat.reduceAdd, Nat.reduceSub, Nat.reduceMul, Nat.reduceLT, Nat.reduceLeDiff, ↓reduceIte, reduceCtorEq, Nat.reduceEqDiff, Int.reduceToNat, Int.reduceLT, Int.reduceLE, Int.reduceEq, beq_self_eq_true, hr, hr2, hrow, hv]) (by simp only [go_sem, Nat.reduceAdd, Nat.reduceSub, Nat.reduceMul, Nat.reduceLT, Nat.reduceLeDiff, ↓reduceIte, reduceCtorEq, Nat.reduceEqDiff, Int.reduceToNat, Int.reduceLT, Int.reduceLE, Int.reduceEq, beq_self_eq_true, hr, hr2, hrow, hv]) ?_; simp only [go_sem, Nat.reduceAdd, Nat.reduceSub, Nat.reduceMul, Nat.reduceLT, Nat.reduceLeDiff, ↓reduceIte, reduceCtorEq, Nat.reduceEqDiff, Int.reduceToNat, Int.reduceLT, Int.reduceLE, Int.reduceEq, beq_self_eq_true, hr, hr2, hrow, hv]

theorem law_stable_below (rows : List (List Int)) (self : Int) (own live : List Int) (p : Int) (row : List Int) (hr : rows.length = 13) (hr2 : lens 13 rows) (ho : own.length = 13) (hrow : row.length = 13) :
    PSpec Try.prog CT 12 [tab rows, .lit (.int .i64 self), ints own, intsL live .no, .lit (.int .i64 p), ints row] (· = .bool true) := by
  refine PSpec.of hT Try.func12 rfl (by kernel_rfl) rfl rfl ?_
  simp only [Try.f12, go_sem, Nat.reduceAdd, Nat.reduceSub, Nat.reduceMul, Nat.reduceLT, Nat.reduceLeDiff, ↓reduceIte, reduceCtorEq, Nat.reduceEqDiff, Int.reduceToNat, Int.reduceLT, Int.reduceLE, Int.reduceEq, beq_self_eq_true, hr, hr2, ho, hrow]
  refine condK_split (fun hc => ?_) (fun hc => ?_)
  · simp only [go_sem, Nat.reduceAdd, Nat.reduceSub, Nat.reduceMul, Nat.reduceLT, Nat.reduceLeDiff, ↓reduceIte, reduceCtorEq, Nat.reduceEqDiff, Int.reduceToNat, Int.reduceLT, Int.reduceLE, Int.reduceEq, beq_self_eq_true, hr, hr2, ho, hrow]
    refine callK_pure (heads20) (by simp only [go_sem, Nat.reduceAdd, Nat.reduceSub, Nat.reduceMul, Nat.reduceLT, Nat.reduceLeDiff, ↓reduceIte, reduceCtorEq, Nat.reduceEqDiff, Int.reduceToNat, Int.reduceLT, Int.reduceLE, Int.reduceEq, beq_self_eq_true, hr, hr2, ho, hrow]) (by simp only [go_sem, Nat.reduceAdd, Nat.reduceSub, Nat.reduceMul, Nat.reduceLT, Nat.reduceLeDiff, ↓reduceIte, reduceCtorEq, Nat.reduceEqDiff, Int.reduceToNat, Int.reduceLT, Int.reduceLE, Int.reduceEq, beq_self_eq_true, hr, hr2, ho, hrow]) ?_; simp only [go_sem, Nat.reduceAdd, Nat.reduceSub, Nat.reduceMul, Nat.reduceLT, Nat.reduceLeDiff, ↓reduceIte, reduceCtorEq, Nat.reduceEqDiff, Int.reduceToNat, Int.reduceLT, Int.reduceLE, Int.reduceEq, beq_self_eq_true, hr, hr2, ho, hrow]
  have hl : live.length < 4000000000 := by have := of_decide_eq_false hc; omega
  simp only [go_sem, Nat.reduceAdd, Nat.reduceSub, Nat.reduceMul, Nat.reduceLT, Nat.reduceLeDiff, ↓reduceIte, reduceCtorEq, Nat.reduceEqDiff, Int.reduceToNat, Int.reduceLT, Int.reduceLE, Int.reduceEq, beq_self_eq_true, hr, hr2, ho, hrow]
  have c1 := vcut_len (self := self) (live := live) hr hr2 ho
  refine callK_pure (stable_cut rows self own live hr hr2 ho hl) (by simp only [go_sem, Nat.reduceAdd, Nat.reduceSub, Nat.reduceMul, Nat.reduceLT, Nat.reduceLeDiff, ↓reduceIte, reduceCtorEq, Nat.reduceEqDiff, Int.reduceToNat, Int.reduceLT, Int.reduceLE, Int.reduceEq, beq_self_eq_true, hr, hr2, ho, hrow, c1]) (by simp only [go_sem, Nat.reduceAdd, Nat.reduceSub, Nat.reduceMul, Nat.reduceLT, Nat.reduceLeDiff, ↓reduceIte, reduceCtorEq, Nat.reduceEqDiff, Int.reduceToNat, Int.reduceLT, Int.reduceLE, Int.reduceEq, beq_self_eq_true, hr, hr2, ho, hrow, c1]) ?_; simp only [go_sem, Nat.reduceAdd, Nat.reduceSub, Nat.reduceMul, Nat.reduceLT, Nat.reduceLeDiff, ↓reduceIte, reduceCtorEq, Nat.reduceEqDiff, Int.reduceToNat, Int.reduceLT, Int.reduceLE, Int.reduceEq, beq_self_eq_true, hr, hr2, ho, hrow, c1]
  refine condK_split (fun h0 => ?_) (fun h0 => ?_)
  · simp only [go_sem, Nat.reduceAdd, Nat.reduceSub, Nat.reduceMul, Nat.reduceLT, Nat.reduceLeDiff, ↓reduceIte, reduceCtorEq, Nat.reduceEqDiff, Int.reduceToNat, Int.reduceLT, Int.reduceLE, Int.reduceEq, beq_self_eq_true, hr, hr2, ho, hrow]
    refine callK_pure (heads20) (by simp only [go_sem, Nat.reduceAdd, Nat.reduceSub, Nat.reduceMul, Nat.reduceLT, Nat.reduceLeDiff, ↓reduceIte, reduceCtorEq, Nat.reduceEqDiff, Int.reduceToNat, Int.reduceLT, Int.reduceLE, Int.reduceEq, beq_self_eq_true, hr, hr2, ho, hrow]) (by simp only [go_sem, Nat.reduceAdd, Nat.reduceSub, Nat.reduceMul, Nat.reduceLT, Nat.reduceLeDiff, ↓reduceIte, reduceCtorEq, Nat.reduceEqDiff, Int.reduceToNat, Int.reduceLT, Int.reduceLE, Int.reduceEq, beq_self_eq_true, hr, hr2, ho, hrow]) ?_; simp only [go_sem, Nat.reduceAdd, Nat.reduceSub, Nat.reduceMul, Nat.reduceLT, Nat.reduceLeDiff, ↓reduceIte, reduceCtorEq, Nat.reduceEqDiff, Int.reduceToNat, Int.reduceLT, Int.reduceLE, Int.reduceEq, beq_self_eq_true, hr, hr2, ho, hrow]
  have hok : (rosterOk live && !decide (live = []) && vpeer self) = true := by
    cases hh : (rosterOk live && !decide (live = []) && vpeer self) with
    | true => rfl
    | false =>
      have : vcut rows self own live = zeros 13 := by unfold vcut; rw [hh]; rfl
      rw [this] at h0; simp at h0
  have hro : rosterOk live = true := by simp only [Bool.and_eq_true] at hok; exact hok.1.1
  obtain ⟨u1, u2⟩ := (vcut_iff (self := self) hr hr2 ho hok c1).1 (vleq_refl _ c1)
  simp only [go_sem, Nat.reduceAdd, Nat.reduceSub, Nat.reduceMul, Nat.reduceLT, Nat.reduceLeDiff, ↓reduceIte, reduceCtorEq, Nat.reduceEqDiff, Int.reduceToNat, Int.reduceLT, Int.reduceLE, Int.reduceEq, beq_self_eq_true, hr, hr2, ho, hrow, c1]
  generalize hcv : vcut rows self own live = c at *
  refine awp_loop (fun n s => ∃ (k : Nat) (g : Nat → D), s = ⟨[tab rows, .lit (.int .i64 self), ints own, intsL live .no, .lit (.int .i64 p), ints row, .ptr 0 [], g 7, .ptr 1 [], g 9, g 10, .ptr 2 [], g 12, .ptr 3 [], .lit (.int .i64 k), g 15, g 16, g 17, g 18, g 19, g 20, g 21, g 22, g 23, g 24, g 25, g 26, g 27, g 28, g 29, g 30, g 31, g 32, g 33, g 34, g 35, g 36, g 37, g 38, g 39, g 40, g 41, g 42, g 43, g 44, g 45, g 46, g 47, g 48, g 49, g 50, g 51, g 52, g 53, g 54, g 55, g 56, g 57, g 58, g 59, g 60, g 61, g 62, g 63, g 64, g 65, g 66, g 67, g 68, g 69, g 70, g 71, g 72, g 73, g 74, g 75, g 76, g 77, g 78, g 79], ⟨[(.arr 13 (.arr 13 .leaf), tab rows), (.arr 13 .leaf, ints own), (.arr 13 .leaf, ints row), (.arr 13 .leaf, ints c)], []⟩⟩ ∧ n = live.length - k ∧ k ≤ live.length) live.length ⟨0, reg_intro rfl rfl ⟨by simp, by omega⟩⟩ ?_
  rintro n s ⟨k, g, rfl, hn, hk⟩
  simp only [go_sem, Nat.reduceAdd, Nat.reduceSub, Nat.reduceMul, Nat.reduceLT, Nat.reduceLeDiff, ↓reduceIte, reduceCtorEq, Nat.reduceEqDiff, Int.reduceToNat, Int.reduceLT, Int.reduceLE, Int.reduceEq, beq_self_eq_true, hr, hr2, ho, hrow, c1]
  refine condK_split (fun hc2 => ?_) (fun hc2 => ?_)
  · have hk' : k < live.length := by have := of_decide_eq_true hc2; omega
    obtain ⟨q1, q2⟩ := roster_pos hro hk'
    simp only [go_sem, Nat.reduceAdd, Nat.reduceSub, Nat.reduceMul, Nat.reduceLT, Nat.reduceLeDiff, ↓reduceIte, reduceCtorEq, Nat.reduceEqDiff, Int.reduceToNat, Int.reduceLT, Int.reduceLE, Int.reduceEq, beq_self_eq_true, hr, hr2, ho, hrow, c1, hk']
    refine .inl ⟨by kernel_rfl, guardK_split (fun h4 => ?_) (fun h4 => ?_)⟩
    · have hg : (rows.getD (live.getD k 0).toNat []).length = 13 := lens_getD hr2 (by omega)
      have hmem : live.getD k 0 ∈ live := by
        rw [List.getD_eq_getElem?_getD, List.getElem?_eq_getElem hk', Option.getD_some]; exact List.getElem_mem hk'
      have hne : live.getD k 0 ≠ self := by simpa using h4
      simp only [go_sem, Nat.reduceAdd, Nat.reduceSub, Nat.reduceMul, Nat.reduceLT, Nat.reduceLeDiff, ↓reduceIte, reduceCtorEq, Nat.reduceEqDiff, Int.reduceToNat, Int.reduceLT, Int.reduceLE, Int.reduceEq, beq_self_eq_true, hr, hr2, ho, hrow, c1, hk', q1, q2, hg, h4]
      refine callD_pure (ref_leq c _ c1 hg) (by simp only [go_sem, Nat.reduceAdd, Nat.reduceSub, Nat.reduceMul, Nat.reduceLT, Nat.reduceLeDiff, ↓reduceIte, reduceCtorEq, Nat.reduceEqDiff, Int.reduceToNat, Int.reduceLT, Int.reduceLE, Int.reduceEq, beq_self_eq_true, hr, hr2, ho, hrow, c1, hk', q1, q2, hg, h4, u2 _ hmem hne, wrapNat k (by omega)]) (by simp only [go_sem, Nat.reduceAdd, Nat.reduceSub, Nat.reduceMul, Nat.reduceLT, Nat.reduceLeDiff, ↓reduceIte, reduceCtorEq, Nat.reduceEqDiff, Int.reduceToNat, Int.reduceLT, Int.reduceLE, Int.reduceEq, beq_self_eq_true, hr, hr2, ho, hrow, c1, hk', q1, q2, hg, h4, u2 _ hmem hne, wrapNat k (by omega)]) ?_; simp only [go_sem, Nat.reduceAdd, Nat.reduceSub, Nat.reduceMul, Nat.reduceLT, Nat.reduceLeDiff, ↓reduceIte, reduceCtorEq, Nat.reduceEqDiff, Int.reduceToNat, Int.reduceLT, Int.reduceLE, Int.reduceEq, beq_self_eq_true, hr, hr2, ho, hrow, c1, hk', q1, q2, hg, h4, u2 _ hmem hne, wrapNat k (by omega)]
      exact ⟨live.length - (k + 1), by omega, k + 1, reg_intro rfl rfl ⟨rfl, by omega⟩⟩
    · simp only [go_sem, Nat.reduceAdd, Nat.reduceSub, Nat.reduceMul, Nat.reduceLT, Nat.reduceLeDiff, ↓reduceIte, reduceCtorEq, Nat.reduceEqDiff, Int.reduceToNat, Int.reduceLT, Int.reduceLE, Int.reduceEq, beq_self_eq_true, hr, hr2, ho, hrow, c1, hk', h4, wrapNat k (by omega)]
      exact ⟨live.length - (k + 1), by omega, k + 1, reg_intro rfl rfl ⟨rfl, by omega⟩⟩
  · simp only [go_sem, Nat.reduceAdd, Nat.reduceSub, Nat.reduceMul, Nat.reduceLT, Nat.reduceLeDiff, ↓reduceIte, reduceCtorEq, Nat.reduceEqDiff, Int.reduceToNat, Int.reduceLT, Int.reduceLE, Int.reduceEq, beq_self_eq_true, hr, hr2, ho, hrow, c1]
    have a1 := vaccept_len (p := p) (row := row) (v := own) hr
    have a2 := vaccept_lens (p := p) (v := own) hr2 hrow
    refine callK_pure (stable_accept rows p row own hr hr2 hrow ho) (by simp only [go_sem, Nat.reduceAdd, Nat.reduceSub, Nat.reduceMul, Nat.reduceLT, Nat.reduceLeDiff, ↓reduceIte, reduceCtorEq, Nat.reduceEqDiff, Int.reduceToNat, Int.reduceLT, Int.reduceLE, Int.reduceEq, beq_self_eq_true, hr, hr2, ho, hrow, c1, a1, a2]) (by simp only [go_sem, Nat.reduceAdd, Nat.reduceSub, Nat.reduceMul, Nat.reduceLT, Nat.reduceLeDiff, ↓reduceIte, reduceCtorEq, Nat.reduceEqDiff, Int.reduceToNat, Int.reduceLT, Int.reduceLE, Int.reduceEq, beq_self_eq_true, hr, hr2, ho, hrow, c1, a1, a2]) ?_; simp only [go_sem, Nat.reduceAdd, Nat.reduceSub, Nat.reduceMul, Nat.reduceLT, Nat.reduceLeDiff, ↓reduceIte, reduceCtorEq, Nat.reduceEqDiff, Int.reduceToNat, Int.reduceLT, Int.reduceLE, Int.reduceEq, beq_self_eq_true, hr, hr2, ho, hrow, c1, a1, a2]
    refine .inl ⟨by kernel_rfl, ?_⟩
    refine callD_pure (ref_leq c own c1 ho) (by simp only [go_sem, Nat.reduceAdd, Nat.reduceSub, Nat.reduceMul, Nat.reduceLT, Nat.reduceLeDiff, ↓reduceIte, reduceCtorEq, Nat.reduceEqDiff, Int.reduceToNat, Int.reduceLT, Int.reduceLE, Int.reduceEq, beq_self_eq_true, hr, hr2, ho, hrow, c1, a1, a2, u1]) (by simp only [go_sem, Nat.reduceAdd, Nat.reduceSub, Nat.reduceMul, Nat.reduceLT, Nat.reduceLeDiff, ↓reduceIte, reduceCtorEq, Nat.reduceEqDiff, Int.reduceToNat, Int.reduceLT, Int.reduceLE, Int.reduceEq, beq_self_eq_true, hr, hr2, ho, hrow, c1, a1, a2, u1]) ?_; simp only [go_sem, Nat.reduceAdd, Nat.reduceSub, Nat.reduceMul, Nat.reduceLT, Nat.reduceLeDiff, ↓reduceIte, reduceCtorEq, Nat.reduceEqDiff, Int.reduceToNat, Int.reduceLT, Int.reduceLE, Int.reduceEq, beq_self_eq_true, hr, hr2, ho, hrow, c1, a1, a2, u1]
    cases h5 : (vaccept rows p row own).2 with
    | false =>
      simp only [go_sem, Nat.reduceAdd, Nat.reduceSub, Nat.reduceMul, Nat.reduceLT, Nat.reduceLeDiff, ↓reduceIte, reduceCtorEq, Nat.reduceEqDiff, Int.reduceToNat, Int.reduceLT, Int.reduceLE, Int.reduceEq, beq_self_eq_true, hr, hr2, ho, hrow, c1, a1, a2, h5]
      refine callD_pure (heads20) (by simp only [go_sem, Nat.reduceAdd, Nat.reduceSub, Nat.reduceMul, Nat.reduceLT, Nat.reduceLeDiff, ↓reduceIte, reduceCtorEq, Nat.reduceEqDiff, Int.reduceToNat, Int.reduceLT, Int.reduceLE, Int.reduceEq, beq_self_eq_true, hr, hr2, ho, hrow]) (by simp only [go_sem, Nat.reduceAdd, Nat.reduceSub, Nat.reduceMul, Nat.reduceLT, Nat.reduceLeDiff, ↓reduceIte, reduceCtorEq, Nat.reduceEqDiff, Int.reduceToNat, Int.reduceLT, Int.reduceLE, Int.reduceEq, beq_self_eq_true, hr, hr2, ho, hrow]) ?_; simp only [go_sem, Nat.reduceAdd, Nat.reduceSub, Nat.reduceMul, Nat.reduceLT, Nat.reduceLeDiff, ↓reduceIte, reduceCtorEq, Nat.reduceEqDiff, Int.reduceToNat, Int.reduceLT, Int.reduceLE, Int.reduceEq, beq_self_eq_true, hr, hr2, ho, hrow]
    | true =>
      simp only [go_sem, Nat.reduceAdd, Nat.reduceSub, Nat.reduceMul, Nat.reduceLT, Nat.reduceLeDiff, ↓reduceIte, reduceCtorEq, Nat.reduceEqDiff, Int.reduceToNat, Int.reduceLT, Int.reduceLE, Int.reduceEq, beq_self_eq_true, hr, hr2, ho, hrow, c1, a1, a2, h5]
      refine callD_pure (stable_cut _ self own live a1 a2 ho hl) (by simp only [go_sem, Nat.reduceAdd, Nat.reduceSub, Nat.reduceMul, Nat.reduceLT, Nat.reduceLeDiff, ↓reduceIte, reduceCtorEq, Nat.reduceEqDiff, Int.reduceToNat, Int.reduceLT, Int.reduceLE, Int.reduceEq, beq_self_eq_true, hr, hr2, ho, hrow, c1, a1, a2, h5]) (by simp only [go_sem, Nat.reduceAdd, Nat.reduceSub, Nat.reduceMul, Nat.reduceLT, Nat.reduceLeDiff, ↓reduceIte, reduceCtorEq, Nat.reduceEqDiff, Int.reduceToNat, Int.reduceLT, Int.reduceLE, Int.reduceEq, beq_self_eq_true, hr, hr2, ho, hrow, c1, a1, a2, h5]) ?_; simp only [go_sem, Nat.reduceAdd, Nat.reduceSub, Nat.reduceMul, Nat.reduceLT, Nat.reduceLeDiff, ↓reduceIte, reduceCtorEq, Nat.reduceEqDiff, Int.reduceToNat, Int.reduceLT, Int.reduceLE, Int.reduceEq, beq_self_eq_true, hr, hr2, ho, hrow, c1, a1, a2, h5]
      have hle : vleq c (vcut (vaccept rows p row own).1 self own live) = true := by
        refine (vcut_iff a1 a2 ho hok c1).2 ⟨u1, fun q hq hs => ?_⟩
        have hq0 := roster_mem hro hq
        have hv2 := u2 q hq hs
        unfold vaccept at h5 ⊢
        split at h5
        · rename_i hh
          rw [if_pos hh]
          simp only [Bool.and_eq_true] at hh
          obtain ⟨p0, p1⟩ := vpeer_of hh.1.1.1
          by_cases e : q.toNat = p.toNat
          · rw [e] at hv2 ⊢
            rw [List.getD_eq_getElem?_getD, List.getElem?_set_self (by omega), Option.getD_some]
            exact vleq_trans c1 (lens_getD hr2 (by omega)) hrow hv2 hh.2
          · rw [List.getD_eq_getElem?_getD, List.getElem?_set_ne (fun h => e h.symm), ← List.getD_eq_getElem?_getD]
            exact hv2
        · cases h5
      refine callD_pure (ref_leq c _ c1 (vcut_len (self := self) (live := live) a1 a2 ho)) (by simp only [go_sem, Nat.reduceAdd, Nat.reduceSub, Nat.reduceMul, Nat.reduceLT, Nat.reduceLeDiff, ↓reduceIte, reduceCtorEq, Nat.reduceEqDiff, Int.reduceToNat, Int.reduceLT, Int.reduceLE, Int.reduceEq, beq_self_eq_true, hr, hr2, ho, hrow, c1, a1, a2, h5, hle]) (by simp only [go_sem, Nat.reduceAdd, Nat.reduceSub, Nat.reduceMul, Nat.reduceLT, Nat.reduceLeDiff, ↓reduceIte, reduceCtorEq, Nat.reduceEqDiff, Int.reduceToNat, Int.reduceLT, Int.reduceLE, Int.reduceEq, beq_self_eq_true, hr, hr2, ho, hrow, c1, a1, a2, h5, hle]) ?_; simp only [go_sem, Nat.reduceAdd, Nat.reduceSub, Nat.reduceMul, Nat.reduceLT, Nat.reduceLeDiff, ↓reduceIte, reduceCtorEq, Nat.reduceEqDiff, Int.reduceToNat, Int.reduceLT, Int.reduceLE, Int.reduceEq, beq_self_eq_true, hr, hr2, ho, hrow, c1, a1, a2, h5, hle]
      refine callD_pure (heads20) (by simp only [go_sem, Nat.reduceAdd, Nat.reduceSub, Nat.reduceMul, Nat.reduceLT, Nat.reduceLeDiff, ↓reduceIte, reduceCtorEq, Nat.reduceEqDiff, Int.reduceToNat, Int.reduceLT, Int.reduceLE, Int.reduceEq, beq_self_eq_true, hr, hr2, ho, hrow]) (by simp only [go_sem, Nat.reduceAdd, Nat.reduceSub, Nat.reduceMul, Nat.reduceLT, Nat.reduceLeDiff, ↓reduceIte, reduceCtorEq, Nat.reduceEqDiff, Int.reduceToNat, Int.reduceLT, Int.reduceLE, Int.reduceEq, beq_self_eq_true, hr, hr2, ho, hrow]) ?_; simp only [go_sem, Nat.reduceAdd, Nat.reduceSub, Nat.reduceMul, Nat.reduceLT, Nat.reduceLeDiff, ↓reduceIte, reduceCtorEq, Nat.reduceEqDiff, Int.reduceToNat, Int.reduceLT, Int.reduceLE, Int.reduceEq, beq_self_eq_true, hr, hr2, ho, hrow]
end Go.Ab
