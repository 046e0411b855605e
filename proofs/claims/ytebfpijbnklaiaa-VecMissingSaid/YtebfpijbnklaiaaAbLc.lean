/- The laws of vectors: what is missing, added one by one, comes to both together. Conditions: none. -/
import Derived.Test.YtebfpijbnklaiaaAbLa
set_option linter.unusedSimpArgs false
namespace Go.Ab
open Go.Proofs

/-- How many of a list are of a peer. -/
def cntP (q : Int) (l : List (Int × Int)) : Nat := l.countP fun d => decide (d.1 = q)
theorem cntP_snoc (q : Int) (l : List (Int × Int)) (d : Int × Int) : cntP q (l ++ [d]) = cntP q l + if d.1 = q then 1 else 0 := by
  simp [cntP, List.countP_append, List.countP_cons]

/-- What each of a list of what is missing is. -/
def GoodM (a b : List Int) (l : List (Int × Int)) : Prop :=
  ∀ x d y, l = x ++ d :: y → 0 ≤ d.1 ∧ d.1.toNat < 13 ∧ d.2 = a.getD d.1.toNat 0 + 1 + (cntP d.1 x : Int) ∧ d.2 ≤ b.getD d.1.toNat 0 ∧ ∀ e ∈ x, e.1 ≤ d.1

theorem GoodM.snoc {a b : List Int} {l : List (Int × Int)} {d : Int × Int} (h : GoodM a b l) (h1 : 0 ≤ d.1) (h2 : d.1.toNat < 13) (h3 : d.2 = a.getD d.1.toNat 0 + 1 + (cntP d.1 l : Int)) (h4 : d.2 ≤ b.getD d.1.toNat 0) (h5 : ∀ e ∈ l, e.1 ≤ d.1) : GoodM a b (l ++ [d]) := by
  intro x e y hxy
  rcases List.append_eq_append_iff.1 hxy with ⟨us, e1, e2⟩ | ⟨bs, e1, e2⟩
  · cases us with
    | nil =>
      simp only [List.nil_append, List.cons.injEq] at e2
      simp only [List.append_nil] at e1
      obtain ⟨rfl, rfl⟩ := e2
      subst e1
      exact ⟨h1, h2, h3, h4, h5⟩
    | cons z us =>
      simp only [List.cons_append, List.cons.injEq] at e2
      exact absurd e2.2 (by simp)
  · cases bs with
    | nil =>
      simp only [List.nil_append, List.cons.injEq] at e2
      simp only [List.append_nil] at e1
      obtain ⟨rfl, rfl⟩ := e2
      subst e1
      exact ⟨h1, h2, h3, h4, h5⟩
    | cons z bs =>
      simp only [List.cons_append, List.cons.injEq] at e2
      obtain ⟨rfl, _⟩ := e2
      exact h x _ bs e1

theorem vmissP_good (a b : List Int) : ∀ (p j : Nat), p < 13 → j ≤ vcnt a b p → GoodM a b (vmissP a b p j) ∧ (∀ e ∈ vmissP a b p j, e.1 ≤ p) ∧ ∀ q : Nat, cntP q (vmissP a b p j) = if q < p then vcnt a b q else if q = p then j else 0 := by
  intro p
  induction p with
  | zero =>
    intro j hp
    induction j with
    | zero => intro _; rw [vmissP_zero]; refine ⟨?_, by simp [vmissTo], by intro q; simp [vmissTo, cntP]⟩
              intro x d y h; simp [vmissTo] at h
    | succ j ih =>
      intro hj
      obtain ⟨i1, i2, i3⟩ := ih (by omega)
      rw [vmissP_succ]
      refine ⟨i1.snoc (by simp) (by simp) ?_ ?_ (by simpa using i2), ?_, ?_⟩
      · have := i3 0; simp at this; simp; omega
      · simp only [vcnt] at hj; simp; simp at hj; omega
      · intro e he; simp only [List.mem_append, List.mem_singleton] at he
        rcases he with he | rfl
        · exact i2 e he
        · simp
      · intro q; rw [cntP_snoc, i3 q]; simp only; by_cases hq : q = 0
        · subst hq; simp
        · have : ¬ ((0 : Nat) : Int) = (q : Int) := by omega
          simp [hq, this]; omega
  | succ p ihp =>
    intro j hp
    induction j with
    | zero =>
      intro _
      obtain ⟨i1, i2, i3⟩ := ihp (vcnt a b p) (by omega) (Nat.le_refl _)
      rw [vmissP_zero, vmissTo_succ]
      refine ⟨i1, fun e he => by have := i2 e he; omega, ?_⟩
      intro q; rw [i3 q]
      by_cases h1 : q < p
      · rw [if_pos h1, if_pos (by omega)]
      · rw [if_neg h1]
        by_cases h2 : q = p
        · subst h2; rw [if_pos rfl, if_pos (by omega)]
        · rw [if_neg h2, if_neg (by omega)]; split <;> rfl
    | succ j ih =>
      intro hj
      obtain ⟨i1, i2, i3⟩ := ih (by omega)
      rw [vmissP_succ]
      refine ⟨i1.snoc (by simp; omega) (by simpa using hp) ?_ ?_ i2, ?_, ?_⟩
      · have := i3 (p + 1); simp only [Nat.lt_irrefl, if_false, if_true] at this
        simp only [this]; simp
      · simp only [vcnt] at hj; simp only [Int.toNat_natCast]; omega
      · intro e he; simp only [List.mem_append, List.mem_singleton] at he
        rcases he with he | rfl
        · exact i2 e he
        · exact Int.le_refl _
      · intro q; rw [cntP_snoc, i3 q]; simp only
        by_cases hq : q = p + 1
        · subst hq; simp
        · have : ¬ ((p + 1 : Nat) : Int) = (q : Int) := by omega
          rw [if_neg this]
          simp [hq]

theorem vmissing_good (a b : List Int) (ha : vcheck a = true) (hb : vcheck b = true) : GoodM a b (vmissing a b) ∧ (∀ q : Nat, q < 13 → (vmissing a b).length < 4096 → cntP q (vmissing a b) = vcnt a b q) := by
  obtain ⟨i1, i2, i3⟩ := vmissP_good a b 12 (vcnt a b 12) (by omega) (Nat.le_refl _)
  rw [← vmissTo_succ] at i1 i3
  have hm : vmissing a b = (vmissTo a b 13).take 4096 := by simp [vmissing, ha, hb]
  rw [hm]
  refine ⟨?_, ?_⟩
  · intro x d y h
    refine i1 x d (y ++ (vmissTo a b 13).drop 4096) ?_
    rw [← List.cons_append, ← List.append_assoc, ← h, List.take_append_drop]
  · intro q hq hlt
    have : (vmissTo a b 13).take 4096 = vmissTo a b 13 := by
      refine List.take_of_length_le ?_
      rw [List.length_take] at hlt; omega
    rw [this, i3 q]
    by_cases h1 : q < 12
    · rw [if_pos h1]
    · rw [if_neg h1, if_pos (by omega), show q = 12 by omega]

set_option maxRecDepth 8000 in
theorem law_missing (a b : List Int) (ha : a.length = 13) (hb : b.length = 13) : PSpec Try.prog CT 9 [ints a, ints b] (· = .bool true) := by
  refine PSpec.of hT Try.func9 rfl (by kernel_rfl) rfl rfl ?_
  simp only [Try.f9, go_sem, Nat.reduceAdd, Nat.reduceSub, Nat.reduceMul, Nat.reduceLT, Nat.reduceLeDiff, reduceIte, reduceCtorEq, Nat.reduceEqDiff, Int.reduceToNat, Int.reduceLT, Int.reduceLE, Int.reduceEq, ha, hb]
  cases h : vcheck a with
  | false =>
    refine callK_pure (ref_check a ha) (by simp only [go_sem, Nat.reduceAdd, Nat.reduceSub, Nat.reduceMul, Nat.reduceLT, Nat.reduceLeDiff, reduceIte, reduceCtorEq, Nat.reduceEqDiff, Int.reduceToNat, Int.reduceLT, Int.reduceLE, Int.reduceEq, ha, hb, h]) (by simp only [go_sem, Nat.reduceAdd, Nat.reduceSub, Nat.reduceMul, Nat.reduceLT, Nat.reduceLeDiff, reduceIte, reduceCtorEq, Nat.reduceEqDiff, Int.reduceToNat, Int.reduceLT, Int.reduceLE, Int.reduceEq, ha, hb, h]) ?_; simp only [go_sem, Nat.reduceAdd, Nat.reduceSub, Nat.reduceMul, Nat.reduceLT, Nat.reduceLeDiff, reduceIte, reduceCtorEq, Nat.reduceEqDiff, Int.reduceToNat, Int.reduceLT, Int.reduceLE, Int.reduceEq, ha, hb, h]
    refine callK_pure (heads03) (by simp only [go_sem, Nat.reduceAdd, Nat.reduceSub, Nat.reduceMul, Nat.reduceLT, Nat.reduceLeDiff, reduceIte, reduceCtorEq, Nat.reduceEqDiff, Int.reduceToNat, Int.reduceLT, Int.reduceLE, Int.reduceEq, ha, hb]) (by simp only [go_sem, Nat.reduceAdd, Nat.reduceSub, Nat.reduceMul, Nat.reduceLT, Nat.reduceLeDiff, reduceIte, reduceCtorEq, Nat.reduceEqDiff, Int.reduceToNat, Int.reduceLT, Int.reduceLE, Int.reduceEq, ha, hb]) ?_; simp only [go_sem, Nat.reduceAdd, Nat.reduceSub, Nat.reduceMul, Nat.reduceLT, Nat.reduceLeDiff, reduceIte, reduceCtorEq, Nat.reduceEqDiff, Int.reduceToNat, Int.reduceLT, Int.reduceLE, Int.reduceEq, ha, hb]
  | true =>
  refine callK_pure (ref_check a ha) (by simp only [go_sem, Nat.reduceAdd, Nat.reduceSub, Nat.reduceMul, Nat.reduceLT, Nat.reduceLeDiff, reduceIte, reduceCtorEq, Nat.reduceEqDiff, Int.reduceToNat, Int.reduceLT, Int.reduceLE, Int.reduceEq, ha, hb, h]) (by simp only [go_sem, Nat.reduceAdd, Nat.reduceSub, Nat.reduceMul, Nat.reduceLT, Nat.reduceLeDiff, reduceIte, reduceCtorEq, Nat.reduceEqDiff, Int.reduceToNat, Int.reduceLT, Int.reduceLE, Int.reduceEq, ha, hb, h]) ?_; simp only [go_sem, Nat.reduceAdd, Nat.reduceSub, Nat.reduceMul, Nat.reduceLT, Nat.reduceLeDiff, reduceIte, reduceCtorEq, Nat.reduceEqDiff, Int.reduceToNat, Int.reduceLT, Int.reduceLE, Int.reduceEq, ha, hb, h]
  cases h2 : vcheck b with
  | false =>
    refine callK_pure (ref_check b hb) (by simp only [go_sem, Nat.reduceAdd, Nat.reduceSub, Nat.reduceMul, Nat.reduceLT, Nat.reduceLeDiff, reduceIte, reduceCtorEq, Nat.reduceEqDiff, Int.reduceToNat, Int.reduceLT, Int.reduceLE, Int.reduceEq, ha, hb, h2]) (by simp only [go_sem, Nat.reduceAdd, Nat.reduceSub, Nat.reduceMul, Nat.reduceLT, Nat.reduceLeDiff, reduceIte, reduceCtorEq, Nat.reduceEqDiff, Int.reduceToNat, Int.reduceLT, Int.reduceLE, Int.reduceEq, ha, hb, h2]) ?_; simp only [go_sem, Nat.reduceAdd, Nat.reduceSub, Nat.reduceMul, Nat.reduceLT, Nat.reduceLeDiff, reduceIte, reduceCtorEq, Nat.reduceEqDiff, Int.reduceToNat, Int.reduceLT, Int.reduceLE, Int.reduceEq, ha, hb, h2]
    refine callK_pure (heads03) (by simp only [go_sem, Nat.reduceAdd, Nat.reduceSub, Nat.reduceMul, Nat.reduceLT, Nat.reduceLeDiff, reduceIte, reduceCtorEq, Nat.reduceEqDiff, Int.reduceToNat, Int.reduceLT, Int.reduceLE, Int.reduceEq, ha, hb]) (by simp only [go_sem, Nat.reduceAdd, Nat.reduceSub, Nat.reduceMul, Nat.reduceLT, Nat.reduceLeDiff, reduceIte, reduceCtorEq, Nat.reduceEqDiff, Int.reduceToNat, Int.reduceLT, Int.reduceLE, Int.reduceEq, ha, hb]) ?_; simp only [go_sem, Nat.reduceAdd, Nat.reduceSub, Nat.reduceMul, Nat.reduceLT, Nat.reduceLeDiff, reduceIte, reduceCtorEq, Nat.reduceEqDiff, Int.reduceToNat, Int.reduceLT, Int.reduceLE, Int.reduceEq, ha, hb]
  | true =>
  refine callK_pure (ref_check b hb) (by simp only [go_sem, Nat.reduceAdd, Nat.reduceSub, Nat.reduceMul, Nat.reduceLT, Nat.reduceLeDiff, reduceIte, reduceCtorEq, Nat.reduceEqDiff, Int.reduceToNat, Int.reduceLT, Int.reduceLE, Int.reduceEq, ha, hb, h2]) (by simp only [go_sem, Nat.reduceAdd, Nat.reduceSub, Nat.reduceMul, Nat.reduceLT, Nat.reduceLeDiff, reduceIte, reduceCtorEq, Nat.reduceEqDiff, Int.reduceToNat, Int.reduceLT, Int.reduceLE, Int.reduceEq, ha, hb, h2]) ?_; simp only [go_sem, Nat.reduceAdd, Nat.reduceSub, Nat.reduceMul, Nat.reduceLT, Nat.reduceLeDiff, reduceIte, reduceCtorEq, Nat.reduceEqDiff, Int.reduceToNat, Int.reduceLT, Int.reduceLE, Int.reduceEq, ha, hb, h2]
  refine callK_pure (vec_missing a b ha hb) (by simp only [go_sem, Nat.reduceAdd, Nat.reduceSub, Nat.reduceMul, Nat.reduceLT, Nat.reduceLeDiff, reduceIte, reduceCtorEq, Nat.reduceEqDiff, Int.reduceToNat, Int.reduceLT, Int.reduceLE, Int.reduceEq, ha, hb, h2]) (by simp only [go_sem, Nat.reduceAdd, Nat.reduceSub, Nat.reduceMul, Nat.reduceLT, Nat.reduceLeDiff, reduceIte, reduceCtorEq, Nat.reduceEqDiff, Int.reduceToNat, Int.reduceLT, Int.reduceLE, Int.reduceEq, ha, hb, h2]) ?_; simp only [go_sem, Nat.reduceAdd, Nat.reduceSub, Nat.reduceMul, Nat.reduceLT, Nat.reduceLeDiff, reduceIte, reduceCtorEq, Nat.reduceEqDiff, Int.reduceToNat, Int.reduceLT, Int.reduceLE, Int.reduceEq, ha, hb, h2]
  obtain ⟨hg, hcnt⟩ := vmissing_good a b h h2
  have hlen : (vmissing a b).length ≤ 4096 := by
    simp only [vmissing, h, h2, Bool.and_self, if_true, List.length_take]; omega
  obtain ⟨ha0, hap⟩ := (vcheck_iff a).1 h
  obtain ⟨hb0, hbp⟩ := (vcheck_iff b).1 h2
  generalize vmissing a b = l at hg hcnt hlen
  refine awp_loop (fun n s => ∃ (i : Nat) (x : List Int) (ex : List (Sh × D)) (g : Nat → D), s = ⟨[ints a, ints b, .ptr 0 [], .ptr 1 [], .lit (.bool false), dotsD l .no, .ptr 2 [], .lit (.int .i64 i), g 8, g 9, g 10, g 11, g 12, g 13, g 14, g 15, g 16, g 17, g 18, g 19, g 20, g 21, g 22, g 23, g 24, g 25, g 26, g 27, g 28, g 29, g 30, g 31, g 32, g 33, g 34, g 35, g 36, g 37, g 38, g 39, g 40, g 41, g 42, g 43, g 44, g 45, g 46, g 47, g 48, g 49, g 50, g 51, g 52, g 53, g 54, g 55, g 56, g 57, g 58, g 59, g 60, g 61, g 62, g 63, g 64, g 65, g 66, g 67, g 68, g 69, g 70, g 71, g 72, g 73, g 74, g 75, g 76, g 77, g 78, g 79, g 80, g 81, g 82, g 83, g 84, g 85, g 86, g 87, g 88], ⟨(.arr 13 .leaf, ints a) :: (.arr 13 .leaf, ints b) :: (.arr 13 .leaf, ints x) :: ex, []⟩⟩ ∧ n = l.length - i ∧ i ≤ l.length ∧ x.length = 13 ∧ ∀ q, q < 13 → x.getD q 0 = a.getD q 0 + (cntP q (l.take i) : Int)) l.length ⟨0, a, [], reg_intro rfl rfl ⟨by simp, by omega, ha, by simp [cntP]⟩⟩ ?_
  rintro n s ⟨i, x, ex, g, rfl, hn, hi, hx, hq⟩
  simp only [go_sem, Nat.reduceAdd, Nat.reduceSub, Nat.reduceMul, Nat.reduceLT, Nat.reduceLeDiff, reduceIte, reduceCtorEq, Nat.reduceEqDiff, Int.reduceToNat, Int.reduceLT, Int.reduceLE, Int.reduceEq, ha, hb, hx]
  refine condK_split (fun hc => ?_) (fun hc => ?_)
  · have hi' : i < l.length := by have := of_decide_eq_true hc; omega
    simp only [go_sem, Nat.reduceAdd, Nat.reduceSub, Nat.reduceMul, Nat.reduceLT, Nat.reduceLeDiff, reduceIte, reduceCtorEq, Nat.reduceEqDiff, Int.reduceToNat, Int.reduceLT, Int.reduceLE, Int.reduceEq, ha, hb, hx, hi', getD_dots]
    refine .inl ⟨by kernel_rfl, ?_⟩
    have hsplit : l = l.take i ++ l.getD i (0, 0) :: l.drop (i + 1) := by
      rw [List.getD_eq_getElem?_getD, List.getElem?_eq_getElem hi', Option.getD_some, ← List.drop_eq_getElem_cons hi', List.take_append_drop]
    obtain ⟨g1, g2, g3, g4, g5⟩ := hg _ _ _ hsplit
    generalize hd : l.getD i (0, 0) = d at *
    have hax := hap d.1.toNat g2
    have hbx := hbp d.1.toNat g2
    simp only [vok, Bool.and_eq_true, decide_eq_true_eq] at hax hbx
    have hqx := hq d.1.toNat g2
    rw [show ((d.1.toNat : Nat) : Int) = d.1 by omega] at hqx
    have hp : vpeer d.1 = true := by
      simp only [vpeer, Bool.and_eq_true, decide_eq_true_eq]
      refine ⟨?_, by omega⟩
      by_cases h0 : d.1 = 0
      · rw [h0] at g3 g4 hbx
        simp only [Int.toNat_zero] at g3 g4
        rw [ha0] at g3; rw [hb0] at g4; omega
      · omega
    have hw : IntKind.i64.wrap (x.getD d.1.toNat 0 + 1) = d.2 := by rw [wrap64] <;> omega
    have e1 : vadd x d.1 d.2 = (x.set d.1.toNat d.2, 0) := by
      have : vnext x d.1 d.2 = true := by
        simp only [vnext, hp, hw, Bool.true_and, decide_true, Bool.and_true, decide_eq_true_eq]; omega
      simp only [vadd, this, if_true, hw]
      rw [if_neg (by omega)]
    have e2 : vhas b d.1 d.2 = true := by
      simp only [vhas, hp, Bool.true_and, Bool.and_eq_true, decide_eq_true_eq]; omega
    have e3 : vhas a d.1 d.2 = false := by
      simp only [vhas, hp, Bool.true_and, Bool.and_eq_false_iff, decide_eq_false_iff_not]; right; omega
    refine callD_pure (vec_add x d.1 d.2 hx) (by simp only [go_sem, Nat.reduceAdd, Nat.reduceSub, Nat.reduceMul, Nat.reduceLT, Nat.reduceLeDiff, reduceIte, reduceCtorEq, Nat.reduceEqDiff, Int.reduceToNat, Int.reduceLT, Int.reduceLE, Int.reduceEq, ha, hb, hx, hi', getD_dots, hd, e1]) (by simp only [go_sem, Nat.reduceAdd, Nat.reduceSub, Nat.reduceMul, Nat.reduceLT, Nat.reduceLeDiff, reduceIte, reduceCtorEq, Nat.reduceEqDiff, Int.reduceToNat, Int.reduceLT, Int.reduceLE, Int.reduceEq, ha, hb, hx, hi', getD_dots, hd, e1]) ?_; simp only [go_sem, Nat.reduceAdd, Nat.reduceSub, Nat.reduceMul, Nat.reduceLT, Nat.reduceLeDiff, reduceIte, reduceCtorEq, Nat.reduceEqDiff, Int.reduceToNat, Int.reduceLT, Int.reduceLE, Int.reduceEq, ha, hb, hx, hi', getD_dots, hd, e1]
    refine .inl ⟨by kernel_rfl, ?_⟩
    refine callD_pure (vec_has b d.1 d.2 hb) (by simp only [go_sem, Nat.reduceAdd, Nat.reduceSub, Nat.reduceMul, Nat.reduceLT, Nat.reduceLeDiff, reduceIte, reduceCtorEq, Nat.reduceEqDiff, Int.reduceToNat, Int.reduceLT, Int.reduceLE, Int.reduceEq, ha, hb, hx, hi', getD_dots, hd, e1, e2, e3]) (by simp only [go_sem, Nat.reduceAdd, Nat.reduceSub, Nat.reduceMul, Nat.reduceLT, Nat.reduceLeDiff, reduceIte, reduceCtorEq, Nat.reduceEqDiff, Int.reduceToNat, Int.reduceLT, Int.reduceLE, Int.reduceEq, ha, hb, hx, hi', getD_dots, hd, e1, e2, e3]) ?_; simp only [go_sem, Nat.reduceAdd, Nat.reduceSub, Nat.reduceMul, Nat.reduceLT, Nat.reduceLeDiff, reduceIte, reduceCtorEq, Nat.reduceEqDiff, Int.reduceToNat, Int.reduceLT, Int.reduceLE, Int.reduceEq, ha, hb, hx, hi', getD_dots, hd, e1, e2, e3]
    refine callD_pure (vec_has a d.1 d.2 ha) (by simp only [go_sem, Nat.reduceAdd, Nat.reduceSub, Nat.reduceMul, Nat.reduceLT, Nat.reduceLeDiff, reduceIte, reduceCtorEq, Nat.reduceEqDiff, Int.reduceToNat, Int.reduceLT, Int.reduceLE, Int.reduceEq, ha, hb, hx, hi', getD_dots, hd, e1, e2, e3]) (by simp only [go_sem, Nat.reduceAdd, Nat.reduceSub, Nat.reduceMul, Nat.reduceLT, Nat.reduceLeDiff, reduceIte, reduceCtorEq, Nat.reduceEqDiff, Int.reduceToNat, Int.reduceLT, Int.reduceLE, Int.reduceEq, ha, hb, hx, hi', getD_dots, hd, e1, e2, e3]) ?_; simp only [go_sem, Nat.reduceAdd, Nat.reduceSub, Nat.reduceMul, Nat.reduceLT, Nat.reduceLeDiff, reduceIte, reduceCtorEq, Nat.reduceEqDiff, Int.reduceToNat, Int.reduceLT, Int.reduceLE, Int.reduceEq, ha, hb, hx, hi', getD_dots, hd, e1, e2, e3]
    have htake : l.take (i + 1) = l.take i ++ [d] := by
      rw [List.take_add_one, List.getElem?_eq_getElem hi', Option.toList_some]
      rw [List.getD_eq_getElem?_getD, List.getElem?_eq_getElem hi', Option.getD_some] at hd
      rw [hd]
    have hnext : ∀ q, q < 13 → (x.set d.1.toNat d.2).getD q 0 = a.getD q 0 + (cntP q (l.take (i + 1)) : Int) := by
      intro q hq13
      rw [getD_set _ _ _ _ (by omega), htake, cntP_snoc]
      by_cases hqd : q = d.1.toNat
      · subst hqd
        rw [if_pos rfl, if_pos (by omega), show ((d.1.toNat : Nat) : Int) = d.1 by omega, g3]; omega
      · rw [if_neg hqd, if_neg (by omega), hq q hq13]; omega
    refine guardK_split (fun h0 => ?_) (fun h0 => ?_)
    · have hi0 : 0 < i := by have := of_decide_eq_true h0; omega
      have hi1 : i - 1 < l.length := by omega
      have hw2 : IntKind.i64.wrap ((i : Int) - 1) = ((i - 1 : Nat) : Int) := by rw [wrap64] <;> omega
      have hle : decide (d.1 < (l.getD (i - 1) (0, 0)).1) = false := by
        rw [decide_eq_false_iff_not]
        have : l.getD (i - 1) (0, 0) ∈ l.take i := by
          rw [List.getD_eq_getElem?_getD, List.getElem?_eq_getElem hi1, Option.getD_some]
          rw [List.mem_iff_getElem]
          exact ⟨i - 1, by simp; omega, by simp⟩
        have := g5 _ this
        omega
      simp only [go_sem, Nat.reduceAdd, Nat.reduceSub, Nat.reduceMul, Nat.reduceLT, Nat.reduceLeDiff, reduceIte, reduceCtorEq, Nat.reduceEqDiff, Int.reduceToNat, Int.reduceLT, Int.reduceLE, Int.reduceEq, ha, hb, hx, hi', getD_dots, hd, e1, e2, e3, h0, hw2, hi1, hle]
      simp only [go_sem, Nat.reduceAdd, Nat.reduceSub, Nat.reduceMul, Nat.reduceLT, Nat.reduceLeDiff, reduceIte, reduceCtorEq, Nat.reduceEqDiff, Int.reduceToNat, Int.reduceLT, Int.reduceLE, Int.reduceEq, ha, hb, hx, hi', getD_dots, hd, e1, e2, e3, h0, hw2, hi1, hle, wrapNat i (by omega)]
      refine ⟨l.length - (i + 1), by omega, i + 1, _, _, reg_intro rfl rfl ⟨rfl, by omega, by simp [hx], hnext⟩⟩
    · simp only [go_sem, Nat.reduceAdd, Nat.reduceSub, Nat.reduceMul, Nat.reduceLT, Nat.reduceLeDiff, reduceIte, reduceCtorEq, Nat.reduceEqDiff, Int.reduceToNat, Int.reduceLT, Int.reduceLE, Int.reduceEq, ha, hb, hx, hi', getD_dots, hd, e1, e2, e3, h0, wrapNat i (by omega)]
      refine ⟨l.length - (i + 1), by omega, i + 1, _, _, reg_intro rfl rfl ⟨rfl, by omega, by simp [hx], hnext⟩⟩
  · have hi2 := of_decide_eq_false hc
    obtain rfl : i = l.length := by omega
    rw [List.take_of_length_le (Nat.le_refl _)] at hq
    simp only [go_sem, Nat.reduceAdd, Nat.reduceSub, Nat.reduceMul, Nat.reduceLT, Nat.reduceLeDiff, reduceIte, reduceCtorEq, Nat.reduceEqDiff, Int.reduceToNat, Int.reduceLT, Int.reduceLE, Int.reduceEq, ha, hb, hx]
    refine .inl ⟨by kernel_rfl, guardK_split (fun h4 => ?_) (fun h4 => ?_)⟩
    · simp only [go_sem, Nat.reduceAdd, Nat.reduceSub, Nat.reduceMul, Nat.reduceLT, Nat.reduceLeDiff, reduceIte, reduceCtorEq, Nat.reduceEqDiff, Int.reduceToNat, Int.reduceLT, Int.reduceLE, Int.reduceEq, ha, hb, hx, h4]
      refine callD_pure (heads03) (by simp only [go_sem, Nat.reduceAdd, Nat.reduceSub, Nat.reduceMul, Nat.reduceLT, Nat.reduceLeDiff, reduceIte, reduceCtorEq, Nat.reduceEqDiff, Int.reduceToNat, Int.reduceLT, Int.reduceLE, Int.reduceEq, ha, hb, hx, h4]) (by simp only [go_sem, Nat.reduceAdd, Nat.reduceSub, Nat.reduceMul, Nat.reduceLT, Nat.reduceLeDiff, reduceIte, reduceCtorEq, Nat.reduceEqDiff, Int.reduceToNat, Int.reduceLT, Int.reduceLE, Int.reduceEq, ha, hb, hx, h4]) ?_; simp only [go_sem, Nat.reduceAdd, Nat.reduceSub, Nat.reduceMul, Nat.reduceLT, Nat.reduceLeDiff, reduceIte, reduceCtorEq, Nat.reduceEqDiff, Int.reduceToNat, Int.reduceLT, Int.reduceLE, Int.reduceEq, ha, hb, hx, h4]
    · have hlt : l.length < 4096 := by have := of_decide_eq_false h4; omega
      have ex : x = vjoin a b := by
        refine ext13 hx (vjoin_len a b ha hb) fun q hq13 => ?_
        rw [hq q hq13, hcnt q hq13 hlt, vjoin_at a b ha hb q hq13, vcnt]; omega
      simp only [go_sem, Nat.reduceAdd, Nat.reduceSub, Nat.reduceMul, Nat.reduceLT, Nat.reduceLeDiff, reduceIte, reduceCtorEq, Nat.reduceEqDiff, Int.reduceToNat, Int.reduceLT, Int.reduceLE, Int.reduceEq, ha, hb, hx, h4]
      refine callD_pure (vec_join a b ha hb) (by simp only [go_sem, Nat.reduceAdd, Nat.reduceSub, Nat.reduceMul, Nat.reduceLT, Nat.reduceLeDiff, reduceIte, reduceCtorEq, Nat.reduceEqDiff, Int.reduceToNat, Int.reduceLT, Int.reduceLE, Int.reduceEq, ha, hb, hx, h4, ← ex, decide_true]) (by simp only [go_sem, Nat.reduceAdd, Nat.reduceSub, Nat.reduceMul, Nat.reduceLT, Nat.reduceLeDiff, reduceIte, reduceCtorEq, Nat.reduceEqDiff, Int.reduceToNat, Int.reduceLT, Int.reduceLE, Int.reduceEq, ha, hb, hx, h4, ← ex, decide_true]) ?_; simp only [go_sem, Nat.reduceAdd, Nat.reduceSub, Nat.reduceMul, Nat.reduceLT, Nat.reduceLeDiff, reduceIte, reduceCtorEq, Nat.reduceEqDiff, Int.reduceToNat, Int.reduceLT, Int.reduceLE, Int.reduceEq, ha, hb, hx, h4, ← ex, decide_true]
      refine callD_pure (heads03) (by simp only [go_sem, Nat.reduceAdd, Nat.reduceSub, Nat.reduceMul, Nat.reduceLT, Nat.reduceLeDiff, reduceIte, reduceCtorEq, Nat.reduceEqDiff, Int.reduceToNat, Int.reduceLT, Int.reduceLE, Int.reduceEq, ha, hb, hx, h4]) (by simp only [go_sem, Nat.reduceAdd, Nat.reduceSub, Nat.reduceMul, Nat.reduceLT, Nat.reduceLeDiff, reduceIte, reduceCtorEq, Nat.reduceEqDiff, Int.reduceToNat, Int.reduceLT, Int.reduceLE, Int.reduceEq, ha, hb, hx, h4]) ?_; simp only [go_sem, Nat.reduceAdd, Nat.reduceSub, Nat.reduceMul, Nat.reduceLT, Nat.reduceLeDiff, reduceIte, reduceCtorEq, Nat.reduceEqDiff, Int.reduceToNat, Int.reduceLT, Int.reduceLE, Int.reduceEq, ha, hb, hx, h4]
end Go.Ab
