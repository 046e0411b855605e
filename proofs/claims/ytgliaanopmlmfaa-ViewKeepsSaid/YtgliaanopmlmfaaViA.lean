/- Places in lists: where a number stands, and where it would. Conditions: none. -/
import Derived.Test.YtgliaanopmlmfaaViM
set_option linter.unusedSimpArgs false
namespace Go.Ab
open Go.Proofs

theorem int_shr_t (k : IntKind) (a b : Int) (h : (0 ≤ b) = True) : intOp .shr k a b = some (.lit (.int k (a.fdiv (2 ^ min b.toNat k.bits)))) := by
  have h := of_eq_true h
  simp [intOp, h]
def convTo (u w : Ty) (n : Int) : Option D := if u ≠ .bad ∧ w ≠ .bad then (match w with | .int k => some (.lit (.int k (k.wrap n))) | _ => none) else none
theorem conv_int_eq (C : Tab) (s t : TypeId) (k' : IntKind) (n : Int) : convK C s t (.lit (.int k' n)) = convTo (C.ty s) (C.ty t) n := Eq.trans rfl rfl
theorem convTo_int (k k' : IntKind) (n : Int) : convTo (.int k') (.int k) n = some (.lit (.int k (k.wrap n))) := by simp [convTo]
theorem wrapU64 (n : Int) (h1 : 0 ≤ n) (h2 : n ≤ 9223372036854775807) : IntKind.u64.wrap n = n := by
  unfold IntKind.wrap IntKind.bits IntKind.signed
  simp only [Bool.false_and, Bool.false_eq_true, if_false]
  omega
theorem slice_cut_t (C : Tab) (t e : TypeId) (l : List D) (tk : Tok) (k k' : IntKind) (i : Int) (ht : (C.ty t = .slice e) = True) (h0 : (0 ≤ i) = True) (h1 : (i.toNat ≤ l.length) = True) : sliceD C t (.lst e l tk) none (some (.lit (.int k i))) (some (.lit (.int k' i))) = some (.lst e (l.take i.toNat) .full) := by
  have ht := of_eq_true ht
  have h0 := of_eq_true h0
  have h1 := of_eq_true h1
  have h4 : max i 0 ≤ i := by omega
  simp [sliceD, ht, boundD, natOf, h0, h1, h4]
theorem appK_cat {C : Tab} (K : St → Prop) (dst : Option Tmp) (ts : List D) {mu : Bool} (e : TypeId) (l m : List D) (t' : Tok) (bs : List (Sh × D)) (tk : List Bool) (hb : 0 < C.bytes e) (hl : (l.length + m.length) * C.bytes e ≤ 140737488355328)
    (hk : ∀ u tk', live u tk' → K (St.put ⟨ts, ⟨bs, tk'⟩⟩ dst (.lst e (l ++ m) u))) : appK C mu K dst ts bs tk (.slice e) (.lst e l .full) (.lst e m t') := by
  by_cases hm : m = []
  · subst hm
    refine .inl ⟨e, rfl, _, _, ⟨l, [], .full, t', rfl, rfl, hb, hl, trivial, .inr ⟨rfl, rfl, rfl⟩⟩, ?_⟩
    have := hk .full tk trivial
    rwa [List.append_nil] at this
  · exact appK_live K dst ts e l m .full t' bs tk trivial hm hb hl hk
attribute [go_sem] slice_cut_t int_shr_t conv_int_eq convTo_int

theorem cmp_less (a b : Int) : PSpec Try.prog CT 142 [.lit (.int .i64 a), .lit (.int .i64 b)] (· = .bool (decide (a < b))) := by
  have hn : ∀ x : Int, PSpec Try.prog CT 155 [.lit (.int .i64 x)] (· = .bool false) := fun x => by
    refine PSpec.of hT Try.func155 rfl (by kernel_rfl) rfl rfl ?_
    simp only [Try.f155, go_sem, Nat.reduceAdd, Nat.reduceSub, Nat.reduceMul, Nat.reduceLT, Nat.reduceLeDiff, ↓reduceIte, reduceCtorEq, Nat.reduceEqDiff, Int.reduceToNat, Int.reduceLT, Int.reduceLE, Int.reduceEq, beq_self_eq_true]
  refine PSpec.of hT Try.func142 rfl (by kernel_rfl) rfl rfl ?_
  simp only [Try.f142, go_sem, Nat.reduceAdd, Nat.reduceSub, Nat.reduceMul, Nat.reduceLT, Nat.reduceLeDiff, ↓reduceIte, reduceCtorEq, Nat.reduceEqDiff, Int.reduceToNat, Int.reduceLT, Int.reduceLE, Int.reduceEq, beq_self_eq_true]
  refine callK_pure (hn a) (by simp only [go_sem, Nat.reduceAdd, Nat.reduceSub, Nat.reduceMul, Nat.reduceLT, Nat.reduceLeDiff, ↓reduceIte, reduceCtorEq, Nat.reduceEqDiff, Int.reduceToNat, Int.reduceLT, Int.reduceLE, Int.reduceEq, beq_self_eq_true, ]) (by simp only [go_sem, Nat.reduceAdd, Nat.reduceSub, Nat.reduceMul, Nat.reduceLT, Nat.reduceLeDiff, ↓reduceIte, reduceCtorEq, Nat.reduceEqDiff, Int.reduceToNat, Int.reduceLT, Int.reduceLE, Int.reduceEq, beq_self_eq_true, ]) ?_; simp only [go_sem, Nat.reduceAdd, Nat.reduceSub, Nat.reduceMul, Nat.reduceLT, Nat.reduceLeDiff, ↓reduceIte, reduceCtorEq, Nat.reduceEqDiff, Int.reduceToNat, Int.reduceLT, Int.reduceLE, Int.reduceEq, beq_self_eq_true, ]
theorem slices_isNaN (x : Int) : PSpec Try.prog CT 143 [.lit (.int .i64 x)] (· = .bool false) := by
  refine PSpec.of hT Try.func143 rfl (by kernel_rfl) rfl rfl ?_
  simp only [Try.f143, go_sem, Nat.reduceAdd, Nat.reduceSub, Nat.reduceMul, Nat.reduceLT, Nat.reduceLeDiff, ↓reduceIte, reduceCtorEq, Nat.reduceEqDiff, Int.reduceToNat, Int.reduceLT, Int.reduceLE, Int.reduceEq, beq_self_eq_true]

theorem slices_index (l : List Int) (n : Int) (hl : l.length < 4000000000) : PSpec Try.prog CT 121 [intsL l .no, .lit (.int .i64 n)]
    (fun d => (d = .lit (.int .i64 (-1)) ∧ n ∉ l) ∨ ∃ k : Nat, d = .lit (.int .i64 k) ∧ k < l.length ∧ l.getD k 0 = n ∧ ∀ p, p < k → l.getD p 0 ≠ n) := by
  refine PSpec.of hT Try.func121 rfl (by kernel_rfl) rfl rfl ?_
  simp only [Try.f121, go_sem, Nat.reduceAdd, Nat.reduceSub, Nat.reduceMul, Nat.reduceLT, Nat.reduceLeDiff, ↓reduceIte, reduceCtorEq, Nat.reduceEqDiff, Int.reduceToNat, Int.reduceLT, Int.reduceLE, Int.reduceEq, beq_self_eq_true]
  refine awp_loop (fun m s => ∃ (k : Nat) (g : Nat → D), s = ⟨[intsL l .no, .lit (.int .i64 n), g 2, g 3, g 4, g 5, g 6, .lit (.int .i64 l.length), .lit (.int .i64 k), g 9, g 10, g 11, g 12, g 13, g 14, g 15, g 16, g 17, g 18], ⟨[], []⟩⟩ ∧ m = l.length - k ∧ k ≤ l.length ∧ ∀ p, p < k → l.getD p 0 ≠ n) l.length ⟨0, reg_intro rfl rfl ⟨by simp, by omega, by simp⟩⟩ ?_
  rintro m s ⟨k, g, rfl, hn, hk, hp⟩
  simp only [go_sem, Nat.reduceAdd, Nat.reduceSub, Nat.reduceMul, Nat.reduceLT, Nat.reduceLeDiff, ↓reduceIte, reduceCtorEq, Nat.reduceEqDiff, Int.reduceToNat, Int.reduceLT, Int.reduceLE, Int.reduceEq, beq_self_eq_true]
  refine condK_split (fun hc => ?_) (fun hc => ?_)
  · have hk' : k < l.length := by have := of_decide_eq_true hc; omega
    simp only [go_sem, Nat.reduceAdd, Nat.reduceSub, Nat.reduceMul, Nat.reduceLT, Nat.reduceLeDiff, ↓reduceIte, reduceCtorEq, Nat.reduceEqDiff, Int.reduceToNat, Int.reduceLT, Int.reduceLE, Int.reduceEq, beq_self_eq_true, hk']
    refine condK_split (fun h1 => ?_) (fun h1 => ?_)
    · have h1 := of_decide_eq_true h1
      simp only [go_sem, Nat.reduceAdd, Nat.reduceSub, Nat.reduceMul, Nat.reduceLT, Nat.reduceLeDiff, ↓reduceIte, reduceCtorEq, Nat.reduceEqDiff, Int.reduceToNat, Int.reduceLT, Int.reduceLE, Int.reduceEq, beq_self_eq_true]
      exact .inr ⟨k, rfl, hk', h1.symm, hp⟩
    · have h1 := of_decide_eq_false h1
      simp only [go_sem, Nat.reduceAdd, Nat.reduceSub, Nat.reduceMul, Nat.reduceLT, Nat.reduceLeDiff, ↓reduceIte, reduceCtorEq, Nat.reduceEqDiff, Int.reduceToNat, Int.reduceLT, Int.reduceLE, Int.reduceEq, beq_self_eq_true, wrapNat k (by omega)]
      refine ⟨l.length - (k + 1), by omega, k + 1, reg_intro rfl rfl ⟨rfl, by omega, fun p h => ?_⟩⟩
      by_cases hpk : p = k
      · subst hpk; exact fun e => h1 e.symm
      · exact hp p (by omega)
  · have hi := of_decide_eq_false hc
    obtain rfl : k = l.length := by omega
    simp only [go_sem, Nat.reduceAdd, Nat.reduceSub, Nat.reduceMul, Nat.reduceLT, Nat.reduceLeDiff, ↓reduceIte, reduceCtorEq, Nat.reduceEqDiff, Int.reduceToNat, Int.reduceLT, Int.reduceLE, Int.reduceEq, beq_self_eq_true]
    refine .inl fun h => ?_
    obtain ⟨i, hi, rfl⟩ := List.mem_iff_getElem.1 h
    exact absurd (by simp [List.getD_eq_getElem?_getD, hi]) (hp i hi)
theorem mem_getD {l : List Int} {k : Nat} (h : k < l.length) : l.getD k 0 ∈ l := by
  rw [List.getD_eq_getElem?_getD, List.getElem?_eq_getElem h]; exact List.getElem_mem h
theorem slices_contains (l : List Int) (n : Int) (hl : l.length < 4000000000) : PSpec Try.prog CT 120 [intsL l .no, .lit (.int .i64 n)] (· = .bool (decide (n ∈ l))) := by
  refine PSpec.of hT Try.func120 rfl (by kernel_rfl) rfl rfl ?_
  simp only [Try.f120, go_sem, Nat.reduceAdd, Nat.reduceSub, Nat.reduceMul, Nat.reduceLT, Nat.reduceLeDiff, ↓reduceIte, reduceCtorEq, Nat.reduceEqDiff, Int.reduceToNat, Int.reduceLT, Int.reduceLE, Int.reduceEq, beq_self_eq_true]
  refine callK_rel (slices_index l n hl) (by simp only [go_sem, Nat.reduceAdd, Nat.reduceSub, Nat.reduceMul, Nat.reduceLT, Nat.reduceLeDiff, ↓reduceIte, reduceCtorEq, Nat.reduceEqDiff, Int.reduceToNat, Int.reduceLT, Int.reduceLE, Int.reduceEq, beq_self_eq_true]) (by simp only [go_sem, Nat.reduceAdd, Nat.reduceSub, Nat.reduceMul, Nat.reduceLT, Nat.reduceLeDiff, ↓reduceIte, reduceCtorEq, Nat.reduceEqDiff, Int.reduceToNat, Int.reduceLT, Int.reduceLE, Int.reduceEq, beq_self_eq_true]) ?_
  rintro c (⟨rfl, hi⟩ | ⟨k, rfl, hk, he, _⟩)
  · simp only [go_sem, Nat.reduceAdd, Nat.reduceSub, Nat.reduceMul, Nat.reduceLT, Nat.reduceLeDiff, ↓reduceIte, reduceCtorEq, Nat.reduceEqDiff, Int.reduceToNat, Int.reduceLT, Int.reduceLE, Int.reduceEq, beq_self_eq_true, decide_eq_false hi]
    trace_state
  · have : n ∈ l := he ▸ mem_getD hk
    have h0 : (0 : Int) ≤ k := by omega
    simp only [go_sem, Nat.reduceAdd, Nat.reduceSub, Nat.reduceMul, Nat.reduceLT, Nat.reduceLeDiff, ↓reduceIte, reduceCtorEq, Nat.reduceEqDiff, Int.reduceToNat, Int.reduceLT, Int.reduceLE, Int.reduceEq, beq_self_eq_true, decide_eq_true this, decide_eq_true h0]
theorem view_has (l : List Int) (n : Int) (hl : l.length < 4000000000) : PSpec Try.prog CT 82 [intsL l .no, .lit (.int .i64 n)] (· = .bool (decide (n ∈ l))) := by
  refine PSpec.of hT Try.func82 rfl (by kernel_rfl) rfl rfl ?_
  simp only [Try.f82, go_sem, Nat.reduceAdd, Nat.reduceSub, Nat.reduceMul, Nat.reduceLT, Nat.reduceLeDiff, ↓reduceIte, reduceCtorEq, Nat.reduceEqDiff, Int.reduceToNat, Int.reduceLT, Int.reduceLE, Int.reduceEq, beq_self_eq_true]
  refine callK_pure (slices_contains l n hl) (by simp only [go_sem, Nat.reduceAdd, Nat.reduceSub, Nat.reduceMul, Nat.reduceLT, Nat.reduceLeDiff, ↓reduceIte, reduceCtorEq, Nat.reduceEqDiff, Int.reduceToNat, Int.reduceLT, Int.reduceLE, Int.reduceEq, beq_self_eq_true, ]) (by simp only [go_sem, Nat.reduceAdd, Nat.reduceSub, Nat.reduceMul, Nat.reduceLT, Nat.reduceLeDiff, ↓reduceIte, reduceCtorEq, Nat.reduceEqDiff, Int.reduceToNat, Int.reduceLT, Int.reduceLE, Int.reduceEq, beq_self_eq_true, ]) ?_; simp only [go_sem, Nat.reduceAdd, Nat.reduceSub, Nat.reduceMul, Nat.reduceLT, Nat.reduceLeDiff, ↓reduceIte, reduceCtorEq, Nat.reduceEqDiff, Int.reduceToNat, Int.reduceLT, Int.reduceLE, Int.reduceEq, beq_self_eq_true, ]

theorem fdiv2 (n : Nat) : Int.fdiv (n : Int) (2 ^ min 1 64) = ((n / 2 : Nat) : Int) := by
  have : (2 : Int) ^ min 1 64 = 2 := by decide
  rw [this, Int.fdiv_eq_ediv_of_nonneg _ (by omega)]; omega

/-- Where a number would stand. -/
def LowAt (l : List Int) (n : Int) (i : Nat) : Prop := i ≤ l.length ∧ (∀ p, p < i → l.getD p 0 < n) ∧ ∀ p, i ≤ p → p < l.length → n ≤ l.getD p 0
theorem strict_at {l : List Int} (h : l.Pairwise (· < ·)) {p q : Nat} (hpq : p < q) (hq : q < l.length) : l.getD p 0 < l.getD q 0 := by
  rw [List.getD_eq_getElem?_getD, List.getD_eq_getElem?_getD, List.getElem?_eq_getElem hq, List.getElem?_eq_getElem (show p < l.length by omega)]
  exact List.pairwise_iff_getElem.1 h p q _ _ hpq
set_option maxRecDepth 8000 in
theorem slices_binary (l : List Int) (n : Int) (hl : l.length < 1000000000) (hs : l.Pairwise (· < ·)) : PSpec Try.prog CT 122 [intsL l .no, .lit (.int .i64 n)]
    (fun d => ∃ i : Nat, d = .tup [.lit (.int .i64 i), .bool (decide (n ∈ l))] ∧ LowAt l n i) := by
  refine PSpec.of hT Try.func122 rfl (by kernel_rfl) rfl rfl ?_
  simp only [Try.f122, go_sem, Nat.reduceAdd, Nat.reduceSub, Nat.reduceMul, Nat.reduceLT, Nat.reduceLeDiff, ↓reduceIte, reduceCtorEq, Nat.reduceEqDiff, Int.reduceToNat, Int.reduceLT, Int.reduceLE, Int.reduceEq, beq_self_eq_true]
  refine awp_loop (fun m s => ∃ (i : Nat) (j : Nat) (g : Nat → D), s = ⟨[intsL l .no, .lit (.int .i64 n), g 2, g 3, g 4, g 5, .lit (.int .i64 l.length), .lit (.int .i64 i), .lit (.int .i64 j), g 9, g 10, g 11, g 12, g 13, g 14, g 15, g 16, g 17, g 18, g 19, g 20, g 21, g 22, g 23, g 24, g 25, g 26, g 27, g 28, g 29, g 30, g 31, g 32, g 33, g 34, g 35, g 36, g 37, g 38, g 39, g 40, g 41, g 42, g 43, g 44, g 45, g 46, g 47, g 48, g 49, g 50, g 51, g 52, g 53], ⟨[], []⟩⟩ ∧ m = j - i ∧ i ≤ j ∧ j ≤ l.length ∧ (∀ p, p < i → l.getD p 0 < n) ∧ ∀ p, j ≤ p → p < l.length → n ≤ l.getD p 0) l.length ⟨0, l.length, reg_intro rfl rfl ⟨by simp, by omega, by omega, by simp, fun p h1 h2 => by omega⟩⟩ ?_
  rintro m s ⟨i, j, g, rfl, hm, hij, hj, hlo, hhi⟩
  simp only [go_sem, Nat.reduceAdd, Nat.reduceSub, Nat.reduceMul, Nat.reduceLT, Nat.reduceLeDiff, ↓reduceIte, reduceCtorEq, Nat.reduceEqDiff, Int.reduceToNat, Int.reduceLT, Int.reduceLE, Int.reduceEq, beq_self_eq_true]
  refine condK_split (fun hc => ?_) (fun hc => ?_)
  · have hij' : i < j := by have := of_decide_eq_true hc; omega
    have hh : (i + j) / 2 < l.length := by omega
    have hw : IntKind.i64.wrap ((i : Int) + (j : Int)) = ((i + j : Nat) : Int) := by rw [wrap64] <;> omega
    have hu : IntKind.u64.wrap ((i + j : Nat) : Int) = ((i + j : Nat) : Int) := wrapU64 _ (by omega) (by omega)
    have hu2 : IntKind.i64.wrap (((i + j) / 2 : Nat) : Int) = (((i + j) / 2 : Nat) : Int) := by rw [wrap64] <;> omega
    simp only [go_sem, Nat.reduceAdd, Nat.reduceSub, Nat.reduceMul, Nat.reduceLT, Nat.reduceLeDiff, ↓reduceIte, reduceCtorEq, Nat.reduceEqDiff, Int.reduceToNat, Int.reduceLT, Int.reduceLE, Int.reduceEq, beq_self_eq_true, hw, hu, fdiv2, hu2, hh]
    refine callK_pure (cmp_less (l.getD ((i + j) / 2) 0) n) (by simp only [go_sem, Nat.reduceAdd, Nat.reduceSub, Nat.reduceMul, Nat.reduceLT, Nat.reduceLeDiff, ↓reduceIte, reduceCtorEq, Nat.reduceEqDiff, Int.reduceToNat, Int.reduceLT, Int.reduceLE, Int.reduceEq, beq_self_eq_true, hh]) (by simp only [go_sem, Nat.reduceAdd, Nat.reduceSub, Nat.reduceMul, Nat.reduceLT, Nat.reduceLeDiff, ↓reduceIte, reduceCtorEq, Nat.reduceEqDiff, Int.reduceToNat, Int.reduceLT, Int.reduceLE, Int.reduceEq, beq_self_eq_true, hh]) ?_; simp only [go_sem, Nat.reduceAdd, Nat.reduceSub, Nat.reduceMul, Nat.reduceLT, Nat.reduceLeDiff, ↓reduceIte, reduceCtorEq, Nat.reduceEqDiff, Int.reduceToNat, Int.reduceLT, Int.reduceLE, Int.reduceEq, beq_self_eq_true, hh]
    refine condK_split (fun h1 => ?_) (fun h1 => ?_)
    · have h1 := of_decide_eq_true h1
      have hx : IntKind.i64.wrap ((((i + j) / 2 : Nat) : Int) + 1) = (((i + j) / 2 + 1 : Nat) : Int) := by rw [wrap64] <;> omega
      simp only [go_sem, Nat.reduceAdd, Nat.reduceSub, Nat.reduceMul, Nat.reduceLT, Nat.reduceLeDiff, ↓reduceIte, reduceCtorEq, Nat.reduceEqDiff, Int.reduceToNat, Int.reduceLT, Int.reduceLE, Int.reduceEq, beq_self_eq_true, hx]
      refine ⟨j - ((i + j) / 2 + 1), by omega, (i + j) / 2 + 1, j, reg_intro rfl rfl ⟨rfl, by omega, hj, fun p hp => ?_, hhi⟩⟩
      by_cases e : p = (i + j) / 2
      · rw [e]; exact h1
      · have := strict_at hs (show p < (i + j) / 2 by omega) hh; omega
    · have h1 := of_decide_eq_false h1
      simp only [go_sem, Nat.reduceAdd, Nat.reduceSub, Nat.reduceMul, Nat.reduceLT, Nat.reduceLeDiff, ↓reduceIte, reduceCtorEq, Nat.reduceEqDiff, Int.reduceToNat, Int.reduceLT, Int.reduceLE, Int.reduceEq, beq_self_eq_true]
      refine ⟨(i + j) / 2 - i, by omega, i, (i + j) / 2, reg_intro rfl rfl ⟨rfl, by omega, by omega, hlo, fun p h2 h3 => ?_⟩⟩
      by_cases e : p = (i + j) / 2
      · rw [e]; omega
      · have := strict_at hs (show (i + j) / 2 < p by omega) h3; omega
  · have hi := of_decide_eq_false hc
    obtain rfl : i = j := by omega
    simp only [go_sem, Nat.reduceAdd, Nat.reduceSub, Nat.reduceMul, Nat.reduceLT, Nat.reduceLeDiff, ↓reduceIte, reduceCtorEq, Nat.reduceEqDiff, Int.reduceToNat, Int.reduceLT, Int.reduceLE, Int.reduceEq, beq_self_eq_true]
    have hmem : n ∈ l → i < l.length ∧ l.getD i 0 = n := fun h => by
      obtain ⟨q, hq, rfl⟩ := List.mem_iff_getElem.1 h
      have e : l.getD q 0 = l[q] := by simp [List.getD_eq_getElem?_getD, hq]
      have h1 : i ≤ q := by
        rcases Nat.lt_or_ge q i with h | h
        · have := hlo q h; omega
        · exact h
      refine ⟨by omega, ?_⟩
      rcases Nat.lt_or_ge i q with h2 | h2
      · have := strict_at hs h2 hq
        have := hhi i (Nat.le_refl _) (by omega)
        omega
      · obtain rfl : q = i := by omega
        exact e
    have low : LowAt l n i := ⟨hj, hlo, hhi⟩
    refine guardK_split (fun h1 => ?_) (fun h1 => ?_)
    · have hil : i < l.length := by have := of_decide_eq_true h1; omega
      simp only [go_sem, Nat.reduceAdd, Nat.reduceSub, Nat.reduceMul, Nat.reduceLT, Nat.reduceLeDiff, ↓reduceIte, reduceCtorEq, Nat.reduceEqDiff, Int.reduceToNat, Int.reduceLT, Int.reduceLE, Int.reduceEq, beq_self_eq_true, h1, hil]
      refine guardK_split (fun h2 => ?_) (fun h2 => ?_)
      · have h2' := of_decide_eq_true h2
        have : n ∈ l := h2' ▸ mem_getD hil
        simp only [go_sem, Nat.reduceAdd, Nat.reduceSub, Nat.reduceMul, Nat.reduceLT, Nat.reduceLeDiff, ↓reduceIte, reduceCtorEq, Nat.reduceEqDiff, Int.reduceToNat, Int.reduceLT, Int.reduceLE, Int.reduceEq, beq_self_eq_true, h1, h2, hil]
        exact ⟨i, by rw [decide_eq_true this], low⟩
      · have h2' := of_decide_eq_false h2
        have : n ∉ l := fun h => h2' (hmem h).2
        simp only [go_sem, Nat.reduceAdd, Nat.reduceSub, Nat.reduceMul, Nat.reduceLT, Nat.reduceLeDiff, ↓reduceIte, reduceCtorEq, Nat.reduceEqDiff, Int.reduceToNat, Int.reduceLT, Int.reduceLE, Int.reduceEq, beq_self_eq_true, h1, h2, hil]
        refine callK_pure (slices_isNaN (l.getD i 0)) (by simp only [go_sem, Nat.reduceAdd, Nat.reduceSub, Nat.reduceMul, Nat.reduceLT, Nat.reduceLeDiff, ↓reduceIte, reduceCtorEq, Nat.reduceEqDiff, Int.reduceToNat, Int.reduceLT, Int.reduceLE, Int.reduceEq, beq_self_eq_true, h1, h2, hil]) (by simp only [go_sem, Nat.reduceAdd, Nat.reduceSub, Nat.reduceMul, Nat.reduceLT, Nat.reduceLeDiff, ↓reduceIte, reduceCtorEq, Nat.reduceEqDiff, Int.reduceToNat, Int.reduceLT, Int.reduceLE, Int.reduceEq, beq_self_eq_true, h1, h2, hil]) ?_; simp only [go_sem, Nat.reduceAdd, Nat.reduceSub, Nat.reduceMul, Nat.reduceLT, Nat.reduceLeDiff, ↓reduceIte, reduceCtorEq, Nat.reduceEqDiff, Int.reduceToNat, Int.reduceLT, Int.reduceLE, Int.reduceEq, beq_self_eq_true, h1, h2, hil]
        exact ⟨i, by rw [decide_eq_false this], low⟩
    · have h1' := of_decide_eq_false h1
      have : n ∉ l := fun h => h1' (by have := (hmem h).1; omega)
      simp only [go_sem, Nat.reduceAdd, Nat.reduceSub, Nat.reduceMul, Nat.reduceLT, Nat.reduceLeDiff, ↓reduceIte, reduceCtorEq, Nat.reduceEqDiff, Int.reduceToNat, Int.reduceLT, Int.reduceLE, Int.reduceEq, beq_self_eq_true, h1]
      exact ⟨i, by rw [decide_eq_false this], low⟩

theorem insL_low {n : Int} : ∀ {l : List Int} {i : Nat}, (∀ p, p < i → l.getD p 0 < n) → i ≤ l.length → (∀ p, i ≤ p → p < l.length → n ≤ l.getD p 0) → n ∉ l → insL n l = l.take i ++ n :: l.drop i
  | [], i, _, h, _, _ => by
    have : i = 0 := by simpa using h
    subst this; rfl
  | x :: r, 0, _, _, h, hn => by
    have h0 := h 0 (Nat.le_refl _) (by simp)
    simp only [List.getD_cons_zero] at h0
    have : n ≠ x := fun e => hn (by simp [e])
    simp only [insL, if_pos (show n < x by omega), List.take_zero, List.drop_zero, List.nil_append]
  | x :: r, i + 1, h1, h2, h3, hn => by
    have h0 := h1 0 (by omega)
    simp only [List.getD_cons_zero] at h0
    simp only [insL, if_neg (show ¬ n < x by omega), List.take_succ_cons, List.drop_succ_cons, List.cons_append]
    rw [insL_low (i := i) (fun p hp => by have := h1 (p + 1) (by omega); simpa using this) (by simpa using h2) (fun p hp hpl => by have := h3 (p + 1) (by omega) (by simpa using hpl); simpa using this) (fun h => hn (List.mem_cons_of_mem _ h))]

theorem dropL_at {l : List Int} (h : l.Pairwise (· < ·)) {k : Nat} (hk : k < l.length) : dropL l (l.getD k 0) = l.take k ++ l.drop (k + 1) := by
  have e : l = l.take k ++ l.getD k 0 :: l.drop (k + 1) := by
    have : l.getD k 0 = l[k] := by simp [List.getD_eq_getElem?_getD, hk]
    rw [this, ← List.drop_eq_getElem_cons hk, List.take_append_drop]
  generalize l.getD k 0 = x at e
  generalize l.take k = a at e ⊢
  generalize l.drop (k + 1) = b at e ⊢
  subst e
  rw [List.pairwise_append] at h
  obtain ⟨_, h2, h3⟩ := h
  rw [List.pairwise_cons] at h2
  unfold dropL
  rw [List.filter_append, List.filter_cons_of_neg (by simp)]
  congr 1
  · exact List.filter_eq_self.2 fun y hy => by have := h3 y hy x (by simp); simp; omega
  · exact List.filter_eq_self.2 fun y hy => by have := h2.1 y hy; simp; omega
theorem dropL_no {l : List Int} {n : Int} (h : n ∉ l) : dropL l n = l := List.filter_eq_self.2 fun y hy => by simp; rintro rfl; exact h hy
theorem map_take_drop {l : List Int} {f : Int → D} (k : Nat) : (l.map f).take k ++ (l.map f).drop (k + 1) = (l.take k ++ l.drop (k + 1)).map f := by simp

theorem view_without (l : List Int) (n : Int) (hl : l.length < 1000000000) (hs : l.Pairwise (· < ·)) : PSpec Try.prog CT 85 [intsL l .no, .lit (.int .i64 n)] (· = intsL (dropL l n) .no) := by
  refine PSpec.of hT Try.func85 rfl (by kernel_rfl) rfl rfl ?_
  simp only [Try.f85, go_sem, Nat.reduceAdd, Nat.reduceSub, Nat.reduceMul, Nat.reduceLT, Nat.reduceLeDiff, ↓reduceIte, reduceCtorEq, Nat.reduceEqDiff, Int.reduceToNat, Int.reduceLT, Int.reduceLE, Int.reduceEq, beq_self_eq_true]
  refine callK_rel (slices_index l n (by omega)) (by simp only [go_sem, Nat.reduceAdd, Nat.reduceSub, Nat.reduceMul, Nat.reduceLT, Nat.reduceLeDiff, ↓reduceIte, reduceCtorEq, Nat.reduceEqDiff, Int.reduceToNat, Int.reduceLT, Int.reduceLE, Int.reduceEq, beq_self_eq_true]) (by simp only [go_sem, Nat.reduceAdd, Nat.reduceSub, Nat.reduceMul, Nat.reduceLT, Nat.reduceLeDiff, ↓reduceIte, reduceCtorEq, Nat.reduceEqDiff, Int.reduceToNat, Int.reduceLT, Int.reduceLE, Int.reduceEq, beq_self_eq_true]) ?_
  rintro c (⟨rfl, hi⟩ | ⟨k, rfl, hk, he, _⟩)
  · simp only [go_sem, Nat.reduceAdd, Nat.reduceSub, Nat.reduceMul, Nat.reduceLT, Nat.reduceLeDiff, ↓reduceIte, reduceCtorEq, Nat.reduceEqDiff, Int.reduceToNat, Int.reduceLT, Int.reduceLE, Int.reduceEq, beq_self_eq_true, dropL_no hi]
  · have h0 : ¬ (k : Int) < 0 := by omega
    have hk2 : k ≤ l.length := by omega
    have hk3 : k + 1 ≤ l.length := by omega
    simp only [go_sem, Nat.reduceAdd, Nat.reduceSub, Nat.reduceMul, Nat.reduceLT, Nat.reduceLeDiff, ↓reduceIte, reduceCtorEq, Nat.reduceEqDiff, Int.reduceToNat, Int.reduceLT, Int.reduceLE, Int.reduceEq, beq_self_eq_true, decide_eq_false h0, hk, hk2, hk3, wrapNat k (by omega)]
    refine .inl ⟨by kernel_rfl, ?_⟩
    refine appK_cat _ _ _ _ _ _ _ _ _ (by simp only [go_sem, Nat.reduceAdd, Nat.reduceSub, Nat.reduceMul, Nat.reduceLT, Nat.reduceLeDiff, ↓reduceIte, reduceCtorEq, Nat.reduceEqDiff, Int.reduceToNat, Int.reduceLT, Int.reduceLE, Int.reduceEq, beq_self_eq_true]) (by simp only [go_sem, Nat.reduceAdd, Nat.reduceSub, Nat.reduceMul, Nat.reduceLT, Nat.reduceLeDiff, ↓reduceIte, reduceCtorEq, Nat.reduceEqDiff, Int.reduceToNat, Int.reduceLT, Int.reduceLE, Int.reduceEq, beq_self_eq_true, List.length_take, List.length_drop, List.length_map]; omega) (fun u tk' hu => ?_)
    simp only [go_sem, Nat.reduceAdd, Nat.reduceSub, Nat.reduceMul, Nat.reduceLT, Nat.reduceLeDiff, ↓reduceIte, reduceCtorEq, Nat.reduceEqDiff, Int.reduceToNat, Int.reduceLT, Int.reduceLE, Int.reduceEq, beq_self_eq_true]
    rw [map_take_drop, ← he, dropL_at hs hk]

theorem view_with (l : List Int) (n : Int) (hl : l.length < 1000000000) (hs : l.Pairwise (· < ·)) : PSpec Try.prog CT 86 [intsL l .no, .lit (.int .i64 n)] (· = intsL (withL l n) .no) := by
  refine PSpec.of hT Try.func86 rfl (by kernel_rfl) rfl rfl ?_
  simp only [Try.f86, go_sem, Nat.reduceAdd, Nat.reduceSub, Nat.reduceMul, Nat.reduceLT, Nat.reduceLeDiff, ↓reduceIte, reduceCtorEq, Nat.reduceEqDiff, Int.reduceToNat, Int.reduceLT, Int.reduceLE, Int.reduceEq, beq_self_eq_true]
  refine callK_rel (slices_binary l n hl hs) (by simp only [go_sem, Nat.reduceAdd, Nat.reduceSub, Nat.reduceMul, Nat.reduceLT, Nat.reduceLeDiff, ↓reduceIte, reduceCtorEq, Nat.reduceEqDiff, Int.reduceToNat, Int.reduceLT, Int.reduceLE, Int.reduceEq, beq_self_eq_true]) (by simp only [go_sem, Nat.reduceAdd, Nat.reduceSub, Nat.reduceMul, Nat.reduceLT, Nat.reduceLeDiff, ↓reduceIte, reduceCtorEq, Nat.reduceEqDiff, Int.reduceToNat, Int.reduceLT, Int.reduceLE, Int.reduceEq, beq_self_eq_true]) ?_
  rintro c ⟨i, rfl, h1, h2, h3⟩
  simp only [go_sem, Nat.reduceAdd, Nat.reduceSub, Nat.reduceMul, Nat.reduceLT, Nat.reduceLeDiff, ↓reduceIte, reduceCtorEq, Nat.reduceEqDiff, Int.reduceToNat, Int.reduceLT, Int.reduceLE, Int.reduceEq, beq_self_eq_true]
  refine condK_split (fun hc => ?_) (fun hc => ?_)
  · have hm := of_decide_eq_true hc
    simp only [go_sem, Nat.reduceAdd, Nat.reduceSub, Nat.reduceMul, Nat.reduceLT, Nat.reduceLeDiff, ↓reduceIte, reduceCtorEq, Nat.reduceEqDiff, Int.reduceToNat, Int.reduceLT, Int.reduceLE, Int.reduceEq, beq_self_eq_true, withL, if_pos hm]
  · have hm := of_decide_eq_false hc
    have e : withL l n = l.take i ++ n :: l.drop i := by rw [withL, if_neg hm, insL_low h2 h1 h3 hm]
    simp only [go_sem, Nat.reduceAdd, Nat.reduceSub, Nat.reduceMul, Nat.reduceLT, Nat.reduceLeDiff, ↓reduceIte, reduceCtorEq, Nat.reduceEqDiff, Int.reduceToNat, Int.reduceLT, Int.reduceLE, Int.reduceEq, beq_self_eq_true, h1]
    refine .inl ⟨by kernel_rfl, ?_⟩
    refine appK_cat _ _ _ _ _ _ _ _ _ (by simp only [go_sem, Nat.reduceAdd, Nat.reduceSub, Nat.reduceMul, Nat.reduceLT, Nat.reduceLeDiff, ↓reduceIte, reduceCtorEq, Nat.reduceEqDiff, Int.reduceToNat, Int.reduceLT, Int.reduceLE, Int.reduceEq, beq_self_eq_true]) (by simp only [go_sem, Nat.reduceAdd, Nat.reduceSub, Nat.reduceMul, Nat.reduceLT, Nat.reduceLeDiff, ↓reduceIte, reduceCtorEq, Nat.reduceEqDiff, Int.reduceToNat, Int.reduceLT, Int.reduceLE, Int.reduceEq, beq_self_eq_true, List.length_take, List.length_drop, List.length_map]; omega) (fun u tk' hu => ?_)
    simp only [go_sem, Nat.reduceAdd, Nat.reduceSub, Nat.reduceMul, Nat.reduceLT, Nat.reduceLeDiff, ↓reduceIte, reduceCtorEq, Nat.reduceEqDiff, Int.reduceToNat, Int.reduceLT, Int.reduceLE, Int.reduceEq, beq_self_eq_true, h1]
    refine appK_cat _ _ _ _ _ _ _ _ _ (by simp only [go_sem, Nat.reduceAdd, Nat.reduceSub, Nat.reduceMul, Nat.reduceLT, Nat.reduceLeDiff, ↓reduceIte, reduceCtorEq, Nat.reduceEqDiff, Int.reduceToNat, Int.reduceLT, Int.reduceLE, Int.reduceEq, beq_self_eq_true]) (by simp only [go_sem, Nat.reduceAdd, Nat.reduceSub, Nat.reduceMul, Nat.reduceLT, Nat.reduceLeDiff, ↓reduceIte, reduceCtorEq, Nat.reduceEqDiff, Int.reduceToNat, Int.reduceLT, Int.reduceLE, Int.reduceEq, beq_self_eq_true, List.length_take, List.length_drop, List.length_map]; omega) (fun u tk' hu => ?_)
    simp only [go_sem, Nat.reduceAdd, Nat.reduceSub, Nat.reduceMul, Nat.reduceLT, Nat.reduceLeDiff, ↓reduceIte, reduceCtorEq, Nat.reduceEqDiff, Int.reduceToNat, Int.reduceLT, Int.reduceLE, Int.reduceEq, beq_self_eq_true]
    rw [e]
    simp
end Go.Ab
