/- Graphs of transactions: places compared. Conditions: none. -/
import Derived.Test.YtnagdbamieahgaaGrF
import Derived.Test.YtnagdbamieahgaaReB
set_option linter.unusedSimpArgs false
namespace Go.Ab
open Go.Proofs

def cmpG (l : List TxR) (i j : Nat) : Int := orI [cmpI (txAt l i).peer (txAt l j).peer, cmpI (txAt l i).seq (txAt l j).seq]
def dots12 : List (List Nat) := [[0, 1, 2, 3, 4, 5, 6, 7, 8, 9, 10, 11, 12, 13, 14, 15, 16, 17, 18, 19], [0, 1, 2, 3, 4, 5, 6, 7, 8, 9, 10, 11, 12, 13, 14, 15, 17, 16, 18, 19], [0, 1, 2, 3, 4, 5, 6, 7, 8, 9, 10, 11, 12, 13, 14, 16, 17, 18, 15, 19], [0, 1, 2, 3, 4, 5, 6, 7, 8, 9, 10, 11, 12, 13, 14, 17, 16, 18, 15, 19], [0, 1, 2, 3, 4, 5, 6, 7, 8, 9, 10, 11, 12, 13, 16, 17, 18, 14, 15, 19], [0, 1, 2, 3, 4, 5, 6, 7, 8, 9, 10, 11, 12, 13, 17, 16, 18, 14, 15, 19], [0, 1, 2, 3, 4, 5, 6, 7, 8, 9, 10, 11, 12, 16, 17, 18, 13, 14, 15, 19], [0, 1, 2, 3, 4, 5, 6, 7, 8, 9, 10, 11, 12, 17, 16, 18, 13, 14, 15, 19], [0, 1, 2, 3, 4, 5, 6, 7, 8, 9, 10, 12, 16, 17, 18, 11, 13, 14, 15, 19], [0, 1, 2, 3, 4, 5, 6, 7, 8, 9, 10, 12, 17, 16, 18, 11, 13, 14, 15, 19], [0, 1, 2, 3, 4, 5, 6, 7, 8, 9, 12, 16, 17, 18, 10, 11, 13, 14, 15, 19], [0, 1, 2, 3, 4, 5, 6, 7, 8, 9, 12, 17, 16, 18, 10, 11, 13, 14, 15, 19]]
abbrev dotSh : Sh := (.pair .leaf (.pair .leaf .unit))
set_option maxRecDepth 8000 in
set_option maxHeartbeats 2000000 in
theorem web_compare (l : List TxR) {i j : Nat} (hi : i < l.length) (hj : j < l.length) (bs : List (Sh × D)) (tk : List Bool) (b : Nat) (hw : WebAt l bs b) :
    ASpec Try.prog CT 84 [.ptr b [], .lit (.int .i64 i), .lit (.int .i64 j)] ⟨bs, tk⟩ fun r h' => r = .int (cmpG l i j) ∧ ∃ y z : D, h' = ⟨bs ++ [(dotSh, y), (dotSh, z)], tk⟩ := by
  obtain ⟨c, L, h1, _⟩ := hw
  have hb := (List.getElem?_eq_some_iff.1 h1).1
  have g1 : ∀ y, (bs ++ [y])[b]? = some (webSh, webD l c) := fun y => by rw [List.getElem?_append_left hb]; exact h1
  have g2 : ∀ y z, (bs ++ [y] ++ [z])[b]? = some (webSh, webD l c) := fun y z => by rw [List.append_assoc, List.getElem?_append_left hb]; exact h1
  refine ASpec.of hT Try.func84 rfl (by kernel_rfl) rfl rfl ?_
  simp only [Try.f84, go_sem, Nat.reduceAdd, Nat.reduceSub, Nat.reduceMul, Nat.reduceLT, Nat.reduceLeDiff, ↓reduceIte, reduceCtorEq, Nat.reduceEqDiff, Int.reduceToNat, Int.reduceLT, Int.reduceLE, Int.reduceEq, beq_self_eq_true]
  refine .inr ?_
  apply drawN_to [10, 11, 13, 14, 15, 18] dots12 (by kernel_rfl)
  · intro Q' hA hB ord ho
    simp only [dots12, List.mem_cons, List.not_mem_nil, or_false] at ho
    rcases ho with rfl | rfl | rfl | rfl | rfl | rfl | rfl | rfl | rfl | rfl | rfl | rfl
    · simp only [go_sem, Nat.reduceAdd, Nat.reduceSub, Nat.reduceMul, Nat.reduceLT, Nat.reduceLeDiff, ↓reduceIte, reduceCtorEq, Nat.reduceEqDiff, Int.reduceToNat, Int.reduceLT, Int.reduceLE, Int.reduceEq, beq_self_eq_true, nil_ptr, h1, g1, g2, hi, hj, get_txs, get_pen, set_pen, get_ult, set_ult, len_snoc]; exact hA
    · simp only [go_sem, Nat.reduceAdd, Nat.reduceSub, Nat.reduceMul, Nat.reduceLT, Nat.reduceLeDiff, ↓reduceIte, reduceCtorEq, Nat.reduceEqDiff, Int.reduceToNat, Int.reduceLT, Int.reduceLE, Int.reduceEq, beq_self_eq_true, nil_ptr, h1, g1, g2, hi, hj, get_txs, get_pen, set_pen, get_ult, set_ult, len_snoc]; exact hB
    · simp only [go_sem, Nat.reduceAdd, Nat.reduceSub, Nat.reduceMul, Nat.reduceLT, Nat.reduceLeDiff, ↓reduceIte, reduceCtorEq, Nat.reduceEqDiff, Int.reduceToNat, Int.reduceLT, Int.reduceLE, Int.reduceEq, beq_self_eq_true, nil_ptr, h1, g1, g2, hi, hj, get_txs, get_pen, set_pen, get_ult, set_ult, len_snoc]; exact hA
    · simp only [go_sem, Nat.reduceAdd, Nat.reduceSub, Nat.reduceMul, Nat.reduceLT, Nat.reduceLeDiff, ↓reduceIte, reduceCtorEq, Nat.reduceEqDiff, Int.reduceToNat, Int.reduceLT, Int.reduceLE, Int.reduceEq, beq_self_eq_true, nil_ptr, h1, g1, g2, hi, hj, get_txs, get_pen, set_pen, get_ult, set_ult, len_snoc]; exact hB
    · simp only [go_sem, Nat.reduceAdd, Nat.reduceSub, Nat.reduceMul, Nat.reduceLT, Nat.reduceLeDiff, ↓reduceIte, reduceCtorEq, Nat.reduceEqDiff, Int.reduceToNat, Int.reduceLT, Int.reduceLE, Int.reduceEq, beq_self_eq_true, nil_ptr, h1, g1, g2, hi, hj, get_txs, get_pen, set_pen, get_ult, set_ult, len_snoc]; exact hA
    · simp only [go_sem, Nat.reduceAdd, Nat.reduceSub, Nat.reduceMul, Nat.reduceLT, Nat.reduceLeDiff, ↓reduceIte, reduceCtorEq, Nat.reduceEqDiff, Int.reduceToNat, Int.reduceLT, Int.reduceLE, Int.reduceEq, beq_self_eq_true, nil_ptr, h1, g1, g2, hi, hj, get_txs, get_pen, set_pen, get_ult, set_ult, len_snoc]; exact hB
    · simp only [go_sem, Nat.reduceAdd, Nat.reduceSub, Nat.reduceMul, Nat.reduceLT, Nat.reduceLeDiff, ↓reduceIte, reduceCtorEq, Nat.reduceEqDiff, Int.reduceToNat, Int.reduceLT, Int.reduceLE, Int.reduceEq, beq_self_eq_true, nil_ptr, h1, g1, g2, hi, hj, get_txs, get_pen, set_pen, get_ult, set_ult, len_snoc]; exact hA
    · simp only [go_sem, Nat.reduceAdd, Nat.reduceSub, Nat.reduceMul, Nat.reduceLT, Nat.reduceLeDiff, ↓reduceIte, reduceCtorEq, Nat.reduceEqDiff, Int.reduceToNat, Int.reduceLT, Int.reduceLE, Int.reduceEq, beq_self_eq_true, nil_ptr, h1, g1, g2, hi, hj, get_txs, get_pen, set_pen, get_ult, set_ult, len_snoc]; exact hB
    · simp only [go_sem, Nat.reduceAdd, Nat.reduceSub, Nat.reduceMul, Nat.reduceLT, Nat.reduceLeDiff, ↓reduceIte, reduceCtorEq, Nat.reduceEqDiff, Int.reduceToNat, Int.reduceLT, Int.reduceLE, Int.reduceEq, beq_self_eq_true, nil_ptr, h1, g1, g2, hi, hj, get_txs, get_pen, set_pen, get_ult, set_ult, len_snoc]; exact hA
    · simp only [go_sem, Nat.reduceAdd, Nat.reduceSub, Nat.reduceMul, Nat.reduceLT, Nat.reduceLeDiff, ↓reduceIte, reduceCtorEq, Nat.reduceEqDiff, Int.reduceToNat, Int.reduceLT, Int.reduceLE, Int.reduceEq, beq_self_eq_true, nil_ptr, h1, g1, g2, hi, hj, get_txs, get_pen, set_pen, get_ult, set_ult, len_snoc]; exact hB
    · simp only [go_sem, Nat.reduceAdd, Nat.reduceSub, Nat.reduceMul, Nat.reduceLT, Nat.reduceLeDiff, ↓reduceIte, reduceCtorEq, Nat.reduceEqDiff, Int.reduceToNat, Int.reduceLT, Int.reduceLE, Int.reduceEq, beq_self_eq_true, nil_ptr, h1, g1, g2, hi, hj, get_txs, get_pen, set_pen, get_ult, set_ult, len_snoc]; exact hA
    · simp only [go_sem, Nat.reduceAdd, Nat.reduceSub, Nat.reduceMul, Nat.reduceLT, Nat.reduceLeDiff, ↓reduceIte, reduceCtorEq, Nat.reduceEqDiff, Int.reduceToNat, Int.reduceLT, Int.reduceLE, Int.reduceEq, beq_self_eq_true, nil_ptr, h1, g1, g2, hi, hj, get_txs, get_pen, set_pen, get_ult, set_ult, len_snoc]; exact hB
  all_goals
    simp only [go_sem, Nat.reduceAdd, Nat.reduceSub, Nat.reduceMul, Nat.reduceLT, Nat.reduceLeDiff, ↓reduceIte, reduceCtorEq, Nat.reduceEqDiff, Int.reduceToNat, Int.reduceLT, Int.reduceLE, Int.reduceEq, beq_self_eq_true, get_pen, get_ult, len_snoc]
    refine .inl ⟨by kernel_rfl, ?_⟩
    try simp only [go_sem, Nat.reduceAdd, Nat.reduceSub, Nat.reduceMul, Nat.reduceLT, Nat.reduceLeDiff, ↓reduceIte, reduceCtorEq, Nat.reduceEqDiff, Int.reduceToNat, Int.reduceLT, Int.reduceLE, Int.reduceEq, beq_self_eq_true, get_pen, get_ult, len_snoc]
    refine callD_pure (cmp_compare (txAt l i).peer (txAt l j).peer) (by first | rfl | (simp only [go_sem, Nat.reduceAdd, Nat.reduceSub, Nat.reduceMul, Nat.reduceLT, Nat.reduceLeDiff, ↓reduceIte, reduceCtorEq, Nat.reduceEqDiff, Int.reduceToNat, Int.reduceLT, Int.reduceLE, Int.reduceEq, beq_self_eq_true]; done)) (by first | (simp only [go_sem, Nat.reduceAdd, Nat.reduceSub, Nat.reduceMul, Nat.reduceLT, Nat.reduceLeDiff, ↓reduceIte, reduceCtorEq, Nat.reduceEqDiff, Int.reduceToNat, Int.reduceLT, Int.reduceLE, Int.reduceEq, beq_self_eq_true]; done) | (simp [pureL, pureD]; done)) ?_
    simp only [go_sem, Nat.reduceAdd, Nat.reduceSub, Nat.reduceMul, Nat.reduceLT, Nat.reduceLeDiff, ↓reduceIte, reduceCtorEq, Nat.reduceEqDiff, Int.reduceToNat, Int.reduceLT, Int.reduceLE, Int.reduceEq, beq_self_eq_true, get_pen, get_ult, len_snoc]
    refine callD_pure (cmp_compare (txAt l i).seq (txAt l j).seq) (by first | rfl | (simp only [go_sem, Nat.reduceAdd, Nat.reduceSub, Nat.reduceMul, Nat.reduceLT, Nat.reduceLeDiff, ↓reduceIte, reduceCtorEq, Nat.reduceEqDiff, Int.reduceToNat, Int.reduceLT, Int.reduceLE, Int.reduceEq, beq_self_eq_true]; done)) (by first | (simp only [go_sem, Nat.reduceAdd, Nat.reduceSub, Nat.reduceMul, Nat.reduceLT, Nat.reduceLeDiff, ↓reduceIte, reduceCtorEq, Nat.reduceEqDiff, Int.reduceToNat, Int.reduceLT, Int.reduceLE, Int.reduceEq, beq_self_eq_true]; done) | (simp [pureL, pureD]; done)) ?_
    simp only [go_sem, Nat.reduceAdd, Nat.reduceSub, Nat.reduceMul, Nat.reduceLT, Nat.reduceLeDiff, ↓reduceIte, reduceCtorEq, Nat.reduceEqDiff, Int.reduceToNat, Int.reduceLT, Int.reduceLE, Int.reduceEq, beq_self_eq_true, get_pen, get_ult, len_snoc]
    refine callD_pure (args' := [intsL [cmpI (txAt l i).peer (txAt l j).peer, cmpI (txAt l i).seq (txAt l j).seq] .no]) (cmp_or [cmpI (txAt l i).peer (txAt l j).peer, cmpI (txAt l i).seq (txAt l j).seq] (by simp)) (by rfl) ⟨trivial, trivial⟩ ?_
    simp only [go_sem, Nat.reduceAdd, Nat.reduceSub, Nat.reduceMul, Nat.reduceLT, Nat.reduceLeDiff, ↓reduceIte, reduceCtorEq, Nat.reduceEqDiff, Int.reduceToNat, Int.reduceLT, Int.reduceLE, Int.reduceEq, beq_self_eq_true, List.append_assoc, List.cons_append, List.nil_append]
    exact ⟨rfl, _, _, rfl⟩
end Go.Ab
set_option linter.unusedSimpArgs false
namespace Go.Ab
open Go.Proofs

theorem dotLt_trans {l : List TxR} {i j k : Nat} (h1 : dotLt l i j = true) (h2 : dotLt l j k = true) : dotLt l i k = true := by
  simp only [dotLt, ahead19] at h1 h2 ⊢
  split at h1 <;> split at h2 <;> split <;> simp only [decide_eq_true_eq] at h1 h2 ⊢ <;> omega
theorem dotLt_irr (l : List TxR) (i : Nat) : dotLt l i i = false := by simp [dotLt, ahead19]
theorem dotLt_tot {l : List TxR} {i j : Nat} (h1 : dotLt l i j = false) (h2 : dotLt l j i = false) : (txAt l i).peer = (txAt l j).peer ∧ (txAt l i).seq = (txAt l j).seq := by
  simp only [dotLt, ahead19] at h1 h2
  split at h1 <;> split at h2 <;> simp only [decide_eq_false_iff_not] at h1 h2 <;> omega
theorem cmpG_lt (l : List TxR) (i j : Nat) : decide (cmpG l i j < 0) = dotLt l i j := by
  have key : ∀ a b c d : Int, decide (orI [cmpI a b, cmpI c d] < 0) = ahead19 a c b d := by
    intro a b c d
    simp only [orI, List.find?_cons, List.find?_nil, cmpI, ahead19]
    repeat' split
    all_goals simp_all
    all_goals omega
  exact key _ _ _ _
def openG (l : List TxR) (out : List Nat) (i : Nat) : Bool := !decide (i ∈ out) && freeG l out i
theorem best_spec (l : List TxR) (out : List Nat) : ∀ k, (bestAtG l out k = none ∧ ∀ i, i < k → openG l out i = false) ∨ ∃ j, bestAtG l out k = some j ∧ j < k ∧ openG l out j = true ∧ ∀ i, i < k → openG l out i = true → dotLt l i j = false
  | 0 => .inl ⟨rfl, by simp⟩
  | k + 1 => by
    rw [bestAtG_succ]
    rcases best_spec l out k with ⟨h, h2⟩ | ⟨j, h, h2, h3, h4⟩
    · rw [h]
      by_cases ho : openG l out k = true
      · have e : bestStep l out none k = some k := by
          have : goodB l out none k = true := by simpa [goodB, openG] using ho
          rw [bestStep, this]; rfl
        refine .inr ⟨k, e, by omega, ho, fun i hi hio => ?_⟩
        by_cases hik : i = k
        · subst hik; exact dotLt_irr _ _
        · rw [h2 i (by omega)] at hio; cases hio
      · have ho' : openG l out k = false := by simpa using ho
        have e : bestStep l out none k = none := by
          have : goodB l out none k = false := by
            have := ho'; simp only [openG] at this; simp only [goodB, Bool.and_true]; exact this
          rw [bestStep, this]; rfl
        refine .inl ⟨e, fun i hi => ?_⟩
        by_cases hik : i = k
        · subst hik; exact ho'
        · exact h2 i (by omega)
    · rw [h]
      by_cases ho : openG l out k = true
      · by_cases hd : dotLt l k j = true
        · have e : bestStep l out (some j) k = some k := by
            have : goodB l out (some j) k = true := by
              simp only [openG] at ho; simp only [goodB, hd, Bool.and_true]; exact ho
            rw [bestStep, this]; rfl
          refine .inr ⟨k, e, by omega, ho, fun i hi hio => ?_⟩
          by_cases hik : i = k
          · subst hik; exact dotLt_irr _ _
          · have h5 := h4 i (by omega) hio
            cases h6 : dotLt l i k with
            | false => rfl
            | true => rw [dotLt_trans h6 hd] at h5; cases h5
        · have hd' : dotLt l k j = false := by simpa using hd
          have e : bestStep l out (some j) k = some j := by
            have : goodB l out (some j) k = false := by simp only [goodB, hd', Bool.and_false]
            rw [bestStep, this]; rfl
          refine .inr ⟨j, e, by omega, h3, fun i hi hio => ?_⟩
          by_cases hik : i = k
          · subst hik; exact hd'
          · exact h4 i (by omega) hio
      · have ho' : openG l out k = false := by simpa using ho
        have e : bestStep l out (some j) k = some j := by
          have : goodB l out (some j) k = false := by
            have := ho'; simp only [openG] at this; simp only [goodB, this, Bool.false_and]
          rw [bestStep, this]; rfl
        refine .inr ⟨j, e, by omega, h3, fun i hi hio => ?_⟩
        by_cases hik : i = k
        · subst hik; rw [ho'] at hio; cases hio
        · exact h4 i (by omega) hio
theorem dots_unlike {l : List TxR} (h : checkG l = true) : ∀ {i j : Nat}, i < j → j < l.length → ¬ ((txAt l i).peer = (txAt l j).peer ∧ (txAt l i).seq = (txAt l j).seq) := by
  intro i j hij hj hd
  have h1 : okG l j = true := by
    simp only [checkG, Bool.and_eq_true, List.all_eq_true, List.mem_range] at h
    exact h.2 j hj
  have h2 : newG l j = true := by simp only [okG, Bool.and_eq_true] at h1; exact h1.2
  simp only [newG, List.all_eq_true, List.mem_range] at h2
  have := h2 i hij
  simp [dotEq, hd.1, hd.2] at this
theorem best_min {l : List TxR} {out : List Nat} {m : Nat} (h1 : checkG l = true) (hm : m < l.length) (ho : openG l out m = true) (hmin : ∀ i, i < l.length → openG l out i = true → dotLt l i m = false) : bestG l out = some m := by
  rcases best_spec l out l.length with ⟨_, h2⟩ | ⟨j, h, h2, h3, h4⟩
  · rw [h2 m hm] at ho; cases ho
  · rw [bestG, h]
    have hd := dotLt_tot (h4 m hm ho) (hmin j h2 h3)
    rcases Nat.lt_trichotomy m j with h5 | h5 | h5
    · exact absurd hd (dots_unlike h1 h5 h2)
    · rw [h5]
    · exact absurd ⟨hd.1.symm, hd.2.symm⟩ (dots_unlike h1 h5 hm)
theorem best_none {l : List TxR} {out : List Nat} (h : ∀ i, i < l.length → openG l out i = false) : bestG l out = none := by
  rcases best_spec l out l.length with ⟨h1, _⟩ | ⟨j, _, h2, h3, _⟩
  · exact h1
  · rw [h j h2] at h3; cases h3
/-- What is left, when some are told. -/
def LeftOf (l : List TxR) (out left : List Nat) : Prop := left.Nodup ∧ ∀ k, k ∈ left ↔ k < l.length ∧ k ∉ out
theorem open_iff {l : List TxR} {out left : List Nat} (h : LeftOf l out left) {i : Nat} (hi : i < l.length) : openG l out i = true ↔ i ∈ left ∧ ∀ k ∈ intoG l i, k ∉ left := by
  simp only [openG, freeG, freeAt, Bool.and_eq_true, Bool.not_eq_true', decide_eq_false_iff_not, List.all_eq_true, List.mem_range, Bool.or_eq_true, decide_eq_true_eq, h.2, intoG, List.mem_filter]
  constructor
  · rintro ⟨h1, h2⟩
    refine ⟨⟨hi, h1⟩, ?_⟩
    rintro k ⟨hk, hl⟩ ⟨_, hn⟩
    rcases h2 k hk with h3 | h3
    · exact hn h3
    · rw [hl] at h3; cases h3
  · rintro ⟨⟨_, h1⟩, h2⟩
    refine ⟨h1, fun k hk => ?_⟩
    by_cases hko : k ∈ out
    · exact .inl hko
    · right
      cases hl : leadG l k i with
      | false => rfl
      | true => exact absurd ⟨hk, hko⟩ (h2 k ⟨hk, hl⟩)
theorem left_erase {l : List TxR} {out left : List Nat} (h : LeftOf l out left) (m : Nat) : LeftOf l (out ++ [m]) (left.erase m) := by
  refine ⟨h.1.erase m, fun k => ?_⟩
  rw [List.Nodup.mem_erase_iff h.1, h.2]
  simp only [List.mem_append, List.mem_singleton, not_or]
  constructor
  · rintro ⟨a, b, c⟩; exact ⟨b, c, a⟩
  · rintro ⟨a, b, c⟩; exact ⟨c, a, b⟩
end Go.Ab
set_option linter.unusedSimpArgs false
namespace Go.Ab
open Go.Proofs

theorem getN_mem {F : List Nat} {i : Nat} (h : i < F.length) : F.getD i 0 ∈ F := by rw [List.getD_eq_getElem?_getD, List.getElem?_eq_getElem h]; exact List.getElem_mem h
theorem takeN_snoc {L : List Nat} {j : Nat} (hj : j < L.length) : L.take (j + 1) = L.take j ++ [L.getD j 0] := by
  rw [List.take_add_one, List.getElem?_eq_getElem hj, List.getD_eq_getElem?_getD, List.getElem?_eq_getElem hj]; rfl
set_option maxRecDepth 8000 in
set_option maxHeartbeats 1000000 in
theorem web_min (l : List TxR) (F : List Nat) (u : Tok) (hF : 0 < F.length) (hl : F.length < 100000000) (hlt : ∀ x ∈ F, x < l.length) (bs : List (Sh × D)) (tk : List Bool) (b : Nat) (hw : WebAt l bs b) :
    ASpec Try.prog CT 83 [intsL (natI F) u, .mp [] [.ptr b []] 84] ⟨bs, tk⟩ fun r h' => ∃ m ex, r = .int (m : Nat) ∧ h' = ⟨bs ++ ex, tk⟩ ∧ m ∈ F ∧ ∀ x ∈ F, dotLt l x m = false := by
  refine ASpec.of hT Try.func83 rfl (by kernel_rfl) rfl rfl ?_
  have h0 : decide ((F.length : Int) < 1) = false := decide_eq_false (by omega)
  simp only [Try.f83, go_sem, Nat.reduceAdd, Nat.reduceSub, Nat.reduceMul, Nat.reduceLT, Nat.reduceLeDiff, ↓reduceIte, reduceCtorEq, Nat.reduceEqDiff, Int.reduceToNat, Int.reduceLT, Int.reduceLE, Int.reduceEq, beq_self_eq_true, natI_len, h0, hF, get_nat]
  refine awp_loop (fun n s => ∃ (i : Nat) (m : Nat) (ex : List (Sh × D)) (g : Nat → D), s = ⟨[intsL (natI F) u, .mp [] [.ptr b []] 84, g 2, g 3, g 4, .lit (.int .i64 m), .lit (.int .i64 i), g 7, g 8, g 9, g 10, g 11, g 12, g 13, g 14, g 15, g 16, g 17, g 18, g 19, g 20, g 21, g 22, g 23, g 24, g 25, g 26, g 27, g 28, g 29, g 30, g 31, g 32], ⟨bs ++ ex, tk⟩⟩ ∧ n = F.length - i ∧ 0 < i ∧ i ≤ F.length ∧ m ∈ F ∧ ∀ x ∈ F.take i, dotLt l x m = false) (F.length - 1) ⟨1, F.getD 0 0, [], by rw [List.append_nil]; exact reg_intro rfl rfl ⟨rfl, by omega, by omega, getN_mem hF, fun x hx => by
    rw [takeN_snoc hF] at hx
    simp only [List.take_zero, List.nil_append, List.mem_singleton] at hx
    rw [hx]; exact dotLt_irr _ _⟩⟩ ?_
  rintro n st ⟨i, m, ex, g, rfl, hn, hi0, hi, hm, hmin⟩
  simp only [go_sem, Nat.reduceAdd, Nat.reduceSub, Nat.reduceMul, Nat.reduceLT, Nat.reduceLeDiff, ↓reduceIte, reduceCtorEq, Nat.reduceEqDiff, Int.reduceToNat, Int.reduceLT, Int.reduceLE, Int.reduceEq, beq_self_eq_true, natI_len]
  refine condK_split (fun hc => ?_) (fun hc => ?_)
  · have hi' : i < F.length := by have := of_decide_eq_true hc; omega
    have hsn := takeN_snoc hi'
    have hmem := getN_mem hi'
    obtain ⟨y, hy⟩ : ∃ y, F.getD i 0 = y := ⟨_, rfl⟩
    rw [hy] at hsn hmem
    simp only [go_sem, Nat.reduceAdd, Nat.reduceSub, Nat.reduceMul, Nat.reduceLT, Nat.reduceLeDiff, ↓reduceIte, reduceCtorEq, Nat.reduceEqDiff, Int.reduceToNat, Int.reduceLT, Int.reduceLE, Int.reduceEq, beq_self_eq_true, natI_len, hi', get_nat, hy]
    refine callK_a (web_compare l (hlt y hmem) (hlt m hm) (bs ++ ex) tk b (web_more hw)) ?_
    rintro r h' ⟨rfl, z1, z2, rfl⟩
    simp only [go_sem, Nat.reduceAdd, Nat.reduceSub, Nat.reduceMul, Nat.reduceLT, Nat.reduceLeDiff, ↓reduceIte, reduceCtorEq, Nat.reduceEqDiff, Int.reduceToNat, Int.reduceLT, Int.reduceLE, Int.reduceEq, beq_self_eq_true, cmpG_lt]
    refine condK_split (fun hd => ?_) (fun hd => ?_)
    · simp only [go_sem, Nat.reduceAdd, Nat.reduceSub, Nat.reduceMul, Nat.reduceLT, Nat.reduceLeDiff, ↓reduceIte, reduceCtorEq, Nat.reduceEqDiff, Int.reduceToNat, Int.reduceLT, Int.reduceLE, Int.reduceEq, beq_self_eq_true, natI_len, hi', get_nat, hy, wrapNat i (by omega)]
      have hnx : ∀ x ∈ F.take (i + 1), dotLt l x y = false := fun x hx => by
        rw [hsn] at hx
        rcases List.mem_append.1 hx with hx | hx
        · cases h6 : dotLt l x y with
          | false => rfl
          | true => have h7 := hmin x hx; rw [dotLt_trans h6 hd] at h7; cases h7
        · rw [List.mem_singleton] at hx; rw [hx]; exact dotLt_irr _ _
      rw [List.append_assoc]
      exact ⟨F.length - (i + 1), by omega, i + 1, y, ex ++ [(dotSh, z1), (dotSh, z2)], reg_intro rfl rfl ⟨rfl, by omega, by omega, hmem, hnx⟩⟩
    · simp only [go_sem, Nat.reduceAdd, Nat.reduceSub, Nat.reduceMul, Nat.reduceLT, Nat.reduceLeDiff, ↓reduceIte, reduceCtorEq, Nat.reduceEqDiff, Int.reduceToNat, Int.reduceLT, Int.reduceLE, Int.reduceEq, beq_self_eq_true, wrapNat i (by omega)]
      have hnx : ∀ x ∈ F.take (i + 1), dotLt l x m = false := fun x hx => by
        rw [hsn] at hx
        rcases List.mem_append.1 hx with hx | hx
        · exact hmin x hx
        · rw [List.mem_singleton] at hx; rw [hx]; exact hd
      rw [List.append_assoc]
      exact ⟨F.length - (i + 1), by omega, i + 1, m, ex ++ [(dotSh, z1), (dotSh, z2)], reg_intro rfl rfl ⟨rfl, by omega, by omega, hm, hnx⟩⟩
  · have hi2 := of_decide_eq_false hc
    obtain rfl : i = F.length := by omega
    rw [List.take_length] at hmin
    simp only [go_sem, Nat.reduceAdd, Nat.reduceSub, Nat.reduceMul, Nat.reduceLT, Nat.reduceLeDiff, ↓reduceIte, reduceCtorEq, Nat.reduceEqDiff, Int.reduceToNat, Int.reduceLT, Int.reduceLE, Int.reduceEq, beq_self_eq_true]
    exact ⟨m, ex, rfl, rfl, hm, hmin⟩
end Go.Ab
