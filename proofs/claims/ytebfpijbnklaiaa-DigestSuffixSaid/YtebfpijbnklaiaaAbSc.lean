/- What is stable. Conditions: none. -/
import Derived.Test.YtebfpijbnklaiaaAbSb
set_option linter.unusedSimpArgs false
namespace Go.Ab
open Go.Proofs

/-- As the program goes through it: peer by peer. -/
def vcutP (rows : List (List Int)) (self : Int) (live : List Int) (own : List Int) (k : Nat) : List Int := (List.range k).foldl (fun o (p : Nat) => if (p : Int) = self ∨ (p : Int) ∉ live then o else vmeet o (rows.getD p [])) own
theorem vcutP_succ (rows : List (List Int)) (self : Int) (live : List Int) (own : List Int) (k : Nat) : vcutP rows self live own (k + 1) = if (k : Int) = self ∨ (k : Int) ∉ live then vcutP rows self live own k else vmeet (vcutP rows self live own k) (rows.getD k []) := by
  simp only [vcutP, List.range_succ, List.foldl_append, List.foldl_cons, List.foldl_nil]
theorem vcutP_iff {rows : List (List Int)} {self : Int} {live : List Int} (hr : rows.length = 13) (hr2 : lens 13 rows) {own : List Int} (ho : own.length = 13) {x : List Int} (hx : x.length = 13) : ∀ k, k ≤ 13 →
    ((vcutP rows self live own k).length = 13 ∧ (vleq x (vcutP rows self live own k) = true ↔ vleq x own = true ∧ ∀ p : Nat, p < k → (p : Int) ∈ live → (p : Int) ≠ self → vleq x (rows.getD p []) = true))
  | 0, _ => ⟨by simpa [vcutP] using ho, by simp [vcutP]⟩
  | k + 1, hk => by
    obtain ⟨i1, i2⟩ := vcutP_iff hr hr2 ho hx k (by omega)
    have hg : (rows.getD k []).length = 13 := lens_getD hr2 (by omega)
    rw [vcutP_succ]
    by_cases h : (k : Int) = self ∨ (k : Int) ∉ live
    · rw [if_pos h]
      refine ⟨i1, ?_⟩
      rw [i2]
      refine ⟨fun ⟨a, b⟩ => ⟨a, fun p hp hl hs => ?_⟩, fun ⟨a, b⟩ => ⟨a, fun p hp => b p (by omega)⟩⟩
      by_cases e : p = k
      · subst e; rcases h with h | h
        · exact absurd h hs
        · exact absurd hl h
      · exact b p (by omega) hl hs
    · rw [if_neg h]
      refine ⟨vmeet_len _ _ i1 hg, ?_⟩
      rw [leq_vmeet _ _ x i1 hg hx, Bool.and_eq_true, i2]
      simp only [not_or, Classical.not_not] at h
      refine ⟨fun ⟨⟨a, b⟩, c⟩ => ⟨a, fun p hp hl hs => ?_⟩, fun ⟨a, b⟩ => ⟨⟨a, fun p hp => b p (by omega)⟩, b k (by omega) h.2 h.1⟩⟩
      by_cases e : p = k
      · subst e; exact c
      · exact b p (by omega) hl hs

theorem roster_mem {live : List Int} (h : rosterOk live = true) {p : Int} (hp : p ∈ live) : 1 ≤ p ∧ p ≤ 12 := by
  obtain ⟨i, hi, rfl⟩ := List.mem_iff_getElem.1 hp
  have := (rosterOk_iff live).1 h i hi
  simp only [rosterAt, vpeer, Bool.and_eq_true, decide_eq_true_eq, List.getD_eq_getElem?_getD, List.getElem?_eq_getElem hi, Option.getD_some] at this
  exact this.1

theorem vcutP_eq {rows : List (List Int)} {self : Int} {live own : List Int} (hr : rows.length = 13) (hr2 : lens 13 rows) (ho : own.length = 13) (h : rosterOk live = true) : vcutP rows self live own 13 = vcutL rows self own live := by
  have hl : ∀ p ∈ live, 0 ≤ p ∧ p.toNat < 13 := fun p hp => by have := roster_mem h hp; omega
  have l1 := (vcutP_iff (self := self) (live := live) hr hr2 ho ho 13 (Nat.le_refl _)).1
  have l2 := (vcutL_iff (self := self) (live := live) hr hr2 ho ho hl ho).1
  have key : ∀ x : List Int, x.length = 13 → (vleq x (vcutP rows self live own 13) = true ↔ vleq x (vcutL rows self own live) = true) := by
    intro x hx
    rw [(vcutP_iff (self := self) (live := live) hr hr2 ho hx 13 (Nat.le_refl _)).2]
    unfold vcutL
    rw [(vcutL_iff (self := self) (live := live) hr hr2 ho hx hl ho).2]
    refine ⟨fun ⟨a, b⟩ => ⟨a, fun p hp hs => ?_⟩, fun ⟨a, b⟩ => ⟨a, fun p hp hl' hs => ?_⟩⟩
    · obtain ⟨q1, q2⟩ := hl p hp
      exact b p.toNat q2 (by rwa [show ((p.toNat : Nat) : Int) = p by omega]) (by rwa [show ((p.toNat : Nat) : Int) = p by omega])
    · have := b p hl' hs
      simpa using this
  exact vleq_anti l1 l2 ((key _ l1).1 (vleq_refl _ l1)) ((key _ l2).2 (vleq_refl _ l2))

theorem stable_cut (rows : List (List Int)) (self : Int) (own live : List Int) (hr : rows.length = 13) (hr2 : lens 13 rows) (ho : own.length = 13) (hl : live.length < 4000000000) :
    PSpec Try.prog CT 43 [tab rows, .lit (.int .i64 self), ints own, intsL live .no] (· = ints (vcut rows self own live)) := by
  refine PSpec.of hT Try.func43 rfl (by kernel_rfl) rfl rfl ?_
  simp only [Try.f43, go_sem, Nat.reduceAdd, Nat.reduceSub, Nat.reduceMul, Nat.reduceLT, Nat.reduceLeDiff, ↓reduceIte, reduceCtorEq, Nat.reduceEqDiff, Int.reduceToNat, Int.reduceLT, Int.reduceLE, Int.reduceEq, beq_self_eq_true, hr, hr2, ho]
  refine guardK_split (fun h2 => ?_) (fun h2 => ?_)
  · have e : live = [] := by
      have := of_decide_eq_true h2
      exact List.eq_nil_of_length_eq_zero (by omega)
    have e2 : vcut rows self own live = zeros 13 := by simp only [vcut, e, decide_true, Bool.not_true, Bool.and_false, Bool.false_and, Bool.false_eq_true, if_false]
    simp only [go_sem, Nat.reduceAdd, Nat.reduceSub, Nat.reduceMul, Nat.reduceLT, Nat.reduceLeDiff, ↓reduceIte, reduceCtorEq, Nat.reduceEqDiff, Int.reduceToNat, Int.reduceLT, Int.reduceLE, Int.reduceEq, beq_self_eq_true, hr, hr2, ho, h2, e2]
  have hne : decide (live = []) = false := by
    rw [decide_eq_false_iff_not]; rintro rfl; simp at h2
  simp only [go_sem, Nat.reduceAdd, Nat.reduceSub, Nat.reduceMul, Nat.reduceLT, Nat.reduceLeDiff, ↓reduceIte, reduceCtorEq, Nat.reduceEqDiff, Int.reduceToNat, Int.reduceLT, Int.reduceLE, Int.reduceEq, beq_self_eq_true, hr, hr2, ho, h2]
  cases h3 : vpeer self with
  | false =>
    refine callK_pure (stable_peer self) (by simp only [go_sem, Nat.reduceAdd, Nat.reduceSub, Nat.reduceMul, Nat.reduceLT, Nat.reduceLeDiff, ↓reduceIte, reduceCtorEq, Nat.reduceEqDiff, Int.reduceToNat, Int.reduceLT, Int.reduceLE, Int.reduceEq, beq_self_eq_true, hr, hr2, ho, h2, h3, vcut, Bool.and_false]) (by simp only [go_sem, Nat.reduceAdd, Nat.reduceSub, Nat.reduceMul, Nat.reduceLT, Nat.reduceLeDiff, ↓reduceIte, reduceCtorEq, Nat.reduceEqDiff, Int.reduceToNat, Int.reduceLT, Int.reduceLE, Int.reduceEq, beq_self_eq_true, hr, hr2, ho, h2, h3, vcut, Bool.and_false]) ?_; simp only [go_sem, Nat.reduceAdd, Nat.reduceSub, Nat.reduceMul, Nat.reduceLT, Nat.reduceLeDiff, ↓reduceIte, reduceCtorEq, Nat.reduceEqDiff, Int.reduceToNat, Int.reduceLT, Int.reduceLE, Int.reduceEq, beq_self_eq_true, hr, hr2, ho, h2, h3, vcut, Bool.and_false]
  | true =>
  refine callK_pure (stable_peer self) (by simp only [go_sem, Nat.reduceAdd, Nat.reduceSub, Nat.reduceMul, Nat.reduceLT, Nat.reduceLeDiff, ↓reduceIte, reduceCtorEq, Nat.reduceEqDiff, Int.reduceToNat, Int.reduceLT, Int.reduceLE, Int.reduceEq, beq_self_eq_true, hr, hr2, ho, h2, h3]) (by simp only [go_sem, Nat.reduceAdd, Nat.reduceSub, Nat.reduceMul, Nat.reduceLT, Nat.reduceLeDiff, ↓reduceIte, reduceCtorEq, Nat.reduceEqDiff, Int.reduceToNat, Int.reduceLT, Int.reduceLE, Int.reduceEq, beq_self_eq_true, hr, hr2, ho, h2, h3]) ?_; simp only [go_sem, Nat.reduceAdd, Nat.reduceSub, Nat.reduceMul, Nat.reduceLT, Nat.reduceLeDiff, ↓reduceIte, reduceCtorEq, Nat.reduceEqDiff, Int.reduceToNat, Int.reduceLT, Int.reduceLE, Int.reduceEq, beq_self_eq_true, hr, hr2, ho, h2, h3]
  cases h1 : rosterOk live with
  | false =>
    refine callK_pure (roster_check live hl) (by simp only [go_sem, Nat.reduceAdd, Nat.reduceSub, Nat.reduceMul, Nat.reduceLT, Nat.reduceLeDiff, ↓reduceIte, reduceCtorEq, Nat.reduceEqDiff, Int.reduceToNat, Int.reduceLT, Int.reduceLE, Int.reduceEq, beq_self_eq_true, hr, hr2, ho, h1, vcut, Bool.false_and]) (by simp only [go_sem, Nat.reduceAdd, Nat.reduceSub, Nat.reduceMul, Nat.reduceLT, Nat.reduceLeDiff, ↓reduceIte, reduceCtorEq, Nat.reduceEqDiff, Int.reduceToNat, Int.reduceLT, Int.reduceLE, Int.reduceEq, beq_self_eq_true, hr, hr2, ho, h1, vcut, Bool.false_and]) ?_; simp only [go_sem, Nat.reduceAdd, Nat.reduceSub, Nat.reduceMul, Nat.reduceLT, Nat.reduceLeDiff, ↓reduceIte, reduceCtorEq, Nat.reduceEqDiff, Int.reduceToNat, Int.reduceLT, Int.reduceLE, Int.reduceEq, beq_self_eq_true, hr, hr2, ho, h1, vcut, Bool.false_and]
  | true =>
  refine callK_pure (roster_check live hl) (by simp only [go_sem, Nat.reduceAdd, Nat.reduceSub, Nat.reduceMul, Nat.reduceLT, Nat.reduceLeDiff, ↓reduceIte, reduceCtorEq, Nat.reduceEqDiff, Int.reduceToNat, Int.reduceLT, Int.reduceLE, Int.reduceEq, beq_self_eq_true, hr, hr2, ho, h1]) (by simp only [go_sem, Nat.reduceAdd, Nat.reduceSub, Nat.reduceMul, Nat.reduceLT, Nat.reduceLeDiff, ↓reduceIte, reduceCtorEq, Nat.reduceEqDiff, Int.reduceToNat, Int.reduceLT, Int.reduceLE, Int.reduceEq, beq_self_eq_true, hr, hr2, ho, h1]) ?_; simp only [go_sem, Nat.reduceAdd, Nat.reduceSub, Nat.reduceMul, Nat.reduceLT, Nat.reduceLeDiff, ↓reduceIte, reduceCtorEq, Nat.reduceEqDiff, Int.reduceToNat, Int.reduceLT, Int.reduceLE, Int.reduceEq, beq_self_eq_true, hr, hr2, ho, h1]
  have hv : vcut rows self own live = vcutP rows self live own 13 := by rw [vcutP_eq hr hr2 ho h1]; simp only [vcut, h1, hne, h3, Bool.not_false, Bool.and_self, if_true]
  refine awp_loop (fun n s => ∃ (k : Nat) (v : List Int) (ex : List (Sh × D)) (g : Nat → D), s = ⟨[tab rows, .lit (.int .i64 self), ints own, intsL live .no, .ptr 0 [], g 5, .ptr 1 [], g 7, .ptr 2 [], g 9, g 10, g 11, g 12, g 13, g 14, g 15, g 16, g 17, g 18, g 19, g 20, g 21, g 22, g 23, g 24, tab rows, .lit (.int .i64 k), g 27, g 28, g 29, g 30, g 31, g 32, g 33, g 34, g 35, g 36, g 37, g 38, g 39, g 40, g 41, g 42], ⟨(.arr 13 (.arr 13 .leaf), tab rows) :: (.arr 13 .leaf, ints v) :: (.arr 13 .leaf, ints (zeros 13)) :: ex, []⟩⟩ ∧ n = 13 - k ∧ k ≤ 13 ∧ v = vcutP rows self live own k) 13 ⟨0, own, [], reg_intro rfl rfl ⟨by simp, by omega, by simp [vcutP]⟩⟩ ?_
  rintro n s ⟨k, v, ex, g, rfl, hn, hk, hvk⟩
  have hvl : v.length = 13 := by rw [hvk]; exact (vcutP_iff hr hr2 ho ho k hk).1
  simp only [go_sem, Nat.reduceAdd, Nat.reduceSub, Nat.reduceMul, Nat.reduceLT, Nat.reduceLeDiff, ↓reduceIte, reduceCtorEq, Nat.reduceEqDiff, Int.reduceToNat, Int.reduceLT, Int.reduceLE, Int.reduceEq, beq_self_eq_true, hr, hr2, ho, hvl]
  refine condK_split (fun hc => ?_) (fun hc => ?_)
  · have hk' : k < 13 := by have := of_decide_eq_true hc; omega
    have hg : (rows.getD k []).length = 13 := lens_getD hr2 (by omega)
    have hs := vcutP_succ rows self live own k
    simp only [go_sem, Nat.reduceAdd, Nat.reduceSub, Nat.reduceMul, Nat.reduceLT, Nat.reduceLeDiff, ↓reduceIte, reduceCtorEq, Nat.reduceEqDiff, Int.reduceToNat, Int.reduceLT, Int.reduceLE, Int.reduceEq, beq_self_eq_true, hr, hr2, ho, hvl, hk', hg]
    refine guardK_split (fun h4 => ?_) (fun h4 => ?_)
    · simp only [Bool.not_eq_true', decide_eq_false_iff_not] at h4
      have h4' : decide ((k : Int) = self) = false := decide_eq_false h4
      simp only [go_sem, Nat.reduceAdd, Nat.reduceSub, Nat.reduceMul, Nat.reduceLT, Nat.reduceLeDiff, ↓reduceIte, reduceCtorEq, Nat.reduceEqDiff, Int.reduceToNat, Int.reduceLT, Int.reduceLE, Int.reduceEq, beq_self_eq_true, hr, hr2, ho, hvl, hk', hg, h4']
      refine callK_pure (slices_contains live (k : Int) hl) (by simp only [go_sem, Nat.reduceAdd, Nat.reduceSub, Nat.reduceMul, Nat.reduceLT, Nat.reduceLeDiff, ↓reduceIte, reduceCtorEq, Nat.reduceEqDiff, Int.reduceToNat, Int.reduceLT, Int.reduceLE, Int.reduceEq, beq_self_eq_true, hr, hr2, ho, hvl, hk', hg]) (by simp only [go_sem, Nat.reduceAdd, Nat.reduceSub, Nat.reduceMul, Nat.reduceLT, Nat.reduceLeDiff, ↓reduceIte, reduceCtorEq, Nat.reduceEqDiff, Int.reduceToNat, Int.reduceLT, Int.reduceLE, Int.reduceEq, beq_self_eq_true, hr, hr2, ho, hvl, hk', hg]) ?_; simp only [go_sem, Nat.reduceAdd, Nat.reduceSub, Nat.reduceMul, Nat.reduceLT, Nat.reduceLeDiff, ↓reduceIte, reduceCtorEq, Nat.reduceEqDiff, Int.reduceToNat, Int.reduceLT, Int.reduceLE, Int.reduceEq, beq_self_eq_true, hr, hr2, ho, hvl, hk', hg]
      refine condK_split (fun h5 => ?_) (fun h5 => ?_)
      · simp only [decide_eq_true_eq] at h5
        rw [if_neg (by simp [h4, h5]), ← hvk] at hs
        simp only [go_sem, Nat.reduceAdd, Nat.reduceSub, Nat.reduceMul, Nat.reduceLT, Nat.reduceLeDiff, ↓reduceIte, reduceCtorEq, Nat.reduceEqDiff, Int.reduceToNat, Int.reduceLT, Int.reduceLE, Int.reduceEq, beq_self_eq_true, hr, hr2, ho, hvl, hk', hg]
        refine callK_pure (vec_meet v _ hvl hg) (by simp only [go_sem, Nat.reduceAdd, Nat.reduceSub, Nat.reduceMul, Nat.reduceLT, Nat.reduceLeDiff, ↓reduceIte, reduceCtorEq, Nat.reduceEqDiff, Int.reduceToNat, Int.reduceLT, Int.reduceLE, Int.reduceEq, beq_self_eq_true, hr, hr2, ho, hvl, hk', hg, vmeet_len v _ hvl hg, wrapNat k (by omega)]) (by simp only [go_sem, Nat.reduceAdd, Nat.reduceSub, Nat.reduceMul, Nat.reduceLT, Nat.reduceLeDiff, ↓reduceIte, reduceCtorEq, Nat.reduceEqDiff, Int.reduceToNat, Int.reduceLT, Int.reduceLE, Int.reduceEq, beq_self_eq_true, hr, hr2, ho, hvl, hk', hg, vmeet_len v _ hvl hg, wrapNat k (by omega)]) ?_; simp only [go_sem, Nat.reduceAdd, Nat.reduceSub, Nat.reduceMul, Nat.reduceLT, Nat.reduceLeDiff, ↓reduceIte, reduceCtorEq, Nat.reduceEqDiff, Int.reduceToNat, Int.reduceLT, Int.reduceLE, Int.reduceEq, beq_self_eq_true, hr, hr2, ho, hvl, hk', hg, vmeet_len v _ hvl hg, wrapNat k (by omega)]
        exact ⟨13 - (k + 1), by omega, k + 1, _, _, reg_intro rfl rfl ⟨rfl, by omega, hs.symm⟩⟩
      · simp only [decide_eq_false_iff_not] at h5
        rw [if_pos (.inr h5), ← hvk] at hs
        simp only [go_sem, Nat.reduceAdd, Nat.reduceSub, Nat.reduceMul, Nat.reduceLT, Nat.reduceLeDiff, ↓reduceIte, reduceCtorEq, Nat.reduceEqDiff, Int.reduceToNat, Int.reduceLT, Int.reduceLE, Int.reduceEq, beq_self_eq_true, hr, hr2, ho, hvl, hk', hg, wrapNat k (by omega)]
        exact ⟨13 - (k + 1), by omega, k + 1, _, _, reg_intro rfl rfl ⟨rfl, by omega, hs.symm⟩⟩
    · simp only [Bool.not_eq_false', decide_eq_true_eq] at h4
      rw [if_pos (.inl h4), ← hvk] at hs
      have h4' : decide ((k : Int) = self) = true := decide_eq_true h4
      simp only [go_sem, Nat.reduceAdd, Nat.reduceSub, Nat.reduceMul, Nat.reduceLT, Nat.reduceLeDiff, ↓reduceIte, reduceCtorEq, Nat.reduceEqDiff, Int.reduceToNat, Int.reduceLT, Int.reduceLE, Int.reduceEq, beq_self_eq_true, hr, hr2, ho, hvl, hk', hg, h4', wrapNat k (by omega)]
      exact ⟨13 - (k + 1), by omega, k + 1, _, _, reg_intro rfl rfl ⟨rfl, by omega, hs.symm⟩⟩
  · have hi := of_decide_eq_false hc
    obtain rfl : k = 13 := by omega
    simp only [go_sem, Nat.reduceAdd, Nat.reduceSub, Nat.reduceMul, Nat.reduceLT, Nat.reduceLeDiff, ↓reduceIte, reduceCtorEq, Nat.reduceEqDiff, Int.reduceToNat, Int.reduceLT, Int.reduceLE, Int.reduceEq, beq_self_eq_true, hr, hr2, ho, hvl, hv.trans hvk.symm]

end Go.Ab
