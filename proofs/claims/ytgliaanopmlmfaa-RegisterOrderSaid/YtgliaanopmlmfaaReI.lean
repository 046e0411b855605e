/- Registers: the document's functions. Conditions: none. -/
import Derived.Test.YtgliaanopmlmfaaReH
import Derived.Test.YtgliaanopmlmfaaReD
set_option linter.unusedSimpArgs false
namespace Go.Ab
open Go.Proofs

/-- Put ahead of the first such one. -/
def insB {α : Type} (g : α → Bool) (x : α) : List α → List α
  | [] => [x]
  | y :: r => if g y then x :: y :: r else y :: insB g x r
section
variable {α : Type} {g : α → Bool} {x y : α}
theorem insB_len (g : α → Bool) (x : α) : ∀ l : List α, (insB g x l).length = l.length + 1
  | [] => rfl
  | y :: r => by unfold insB; split <;> simp [insB_len g x r]
theorem insB_snoc_done : ∀ {l : List α}, (∃ z ∈ l, g z = true) → insB g x (l ++ [y]) = insB g x l ++ [y]
  | [], h => by simp at h
  | z :: r, h => by
    simp only [List.cons_append, insB]
    split
    · simp
    · rename_i hz
      have : ∃ w ∈ r, g w = true := by
        obtain ⟨w, hw, hn⟩ := h
        rcases List.mem_cons.1 hw with rfl | hw
        · exact absurd hn hz
        · exact ⟨w, hw, hn⟩
      rw [insB_snoc_done this]; simp
theorem insB_all : ∀ {l : List α}, (∀ z ∈ l, g z = false) → insB g x l = l ++ [x]
  | [], _ => rfl
  | z :: r, h => by
    simp only [insB]
    rw [if_neg (by rw [h z (by simp)]; simp), insB_all (fun w hw => h w (by simp [hw]))]
    try simp
theorem insB_snoc_new : ∀ {l : List α}, (∀ z ∈ l, g z = false) → g y = true → insB g x (l ++ [y]) = l ++ [x] ++ [y]
  | [], _, hx => by simp [insB, hx]
  | z :: r, h, hx => by
    simp only [List.cons_append, insB]
    rw [if_neg (by rw [h z (by simp)]; simp), insB_snoc_new (fun w hw => h w (by simp [hw])) hx]
    try simp
theorem take_snocG [Inhabited α] (l : List α) (k : Nat) (hk : k < l.length) : l.take (k + 1) = l.take k ++ [l.getD k default] := by
  rw [List.take_add_one, List.getElem?_eq_getElem hk, List.getD_eq_getElem?_getD, List.getElem?_eq_getElem hk]; rfl
end
theorem wr_snoc (l : List WriteR) (w : WriteR) : l.map wrD ++ [wrD w] = (l ++ [w]).map wrD := by simp

set_option maxRecDepth 8000 in
set_option maxHeartbeats 1000000 in
theorem ref09_check (c : CellR) (hw : c.wr.length < 1000000000) (ha : c.am.length < 1000000000) (hm : c.me.length < 1000000000) (he : c.el.length < 1000000000) : PSpec Try.prog CT 45 [cellD c] (· = .bool (checkR c)) := by
  refine PSpec.of hT Try.func45 rfl (by kernel_rfl) rfl rfl ?_
  have w1 : IntKind.i64.wrap ((c.am.length : Int) + (c.me.length : Int)) = ((c.am.length + c.me.length : Nat) : Int) := by rw [wrap64] <;> omega
  have w2 : IntKind.i64.wrap (((c.am.length + c.me.length : Nat) : Int) + (c.el.length : Int)) = ((c.am.length + c.me.length + c.el.length : Nat) : Int) := by rw [wrap64] <;> omega
  simp only [Try.f45, go_sem, Nat.reduceAdd, Nat.reduceSub, Nat.reduceMul, Nat.reduceLT, Nat.reduceLeDiff, ↓reduceIte, reduceCtorEq, Nat.reduceEqDiff, Int.reduceToNat, Int.reduceLT, Int.reduceLE, Int.reduceEq, beq_self_eq_true, w1, w2]
  have bad1 : ¬ ((c.kind = 2 ∨ c.kind = 3) ∧ c.base = 0 ∧ c.am.length = 0 ∧ c.me.length = 0 ∧ c.el.length = 0) → checkR c = false := fun h => by
    have : shapeR c = false := by
      cases hs : shapeR c with
      | false => rfl
      | true => exact absurd (by simpa [shapeR, and_assoc] using hs) h
    simp only [checkR, this, Bool.false_and]
  (repeat' (first | ((refine guardK_split (fun hg => ?_) (fun hg => ?_)) <;> (try simp only [go_sem, Nat.reduceAdd, Nat.reduceSub, Nat.reduceMul, Nat.reduceLT, Nat.reduceLeDiff, ↓reduceIte, reduceCtorEq, Nat.reduceEqDiff, Int.reduceToNat, Int.reduceLT, Int.reduceLE, Int.reduceEq, beq_self_eq_true, hg, w1, w2])) | ((refine condK_split (fun hg => ?_) (fun hg => ?_)) <;> (try simp only [go_sem, Nat.reduceAdd, Nat.reduceSub, Nat.reduceMul, Nat.reduceLT, Nat.reduceLeDiff, ↓reduceIte, reduceCtorEq, Nat.reduceEqDiff, Int.reduceToNat, Int.reduceLT, Int.reduceLE, Int.reduceEq, beq_self_eq_true, hg, w1, w2])) | ((refine Or.inl ⟨by kernel_rfl, ?_⟩) <;> (try simp only [go_sem, Nat.reduceAdd, Nat.reduceSub, Nat.reduceMul, Nat.reduceLT, Nat.reduceLeDiff, ↓reduceIte, reduceCtorEq, Nat.reduceEqDiff, Int.reduceToNat, Int.reduceLT, Int.reduceLE, Int.reduceEq, beq_self_eq_true, w1, w2])))) <;> (first | done | (rw [bad1 (by simp only [decide_eq_true_eq, decide_eq_false_iff_not, Bool.not_eq_true', Bool.not_eq_false', Bool.not_eq_eq_eq_not, Bool.not_true, Bool.not_false] at *; omega)]) | skip)
  all_goals
    have hs : shapeR c = true := by
      simp only [shapeR, Bool.and_eq_true, Bool.or_eq_true, decide_eq_true_eq]
      simp only [decide_eq_true_eq, decide_eq_false_iff_not, Bool.not_eq_true', Bool.not_eq_false', Bool.not_eq_eq_eq_not, Bool.not_true, Bool.not_false] at *
      omega
    refine awp_loop (fun n s => ∃ (k : Nat) (ex : List (Sh × D)) (g : Nat → D), s = ⟨[g 0, .ptr 0 [], g 2, .lit (.int .i64 k), g 4, g 5, g 6, g 7, g 8, g 9, g 10, g 11, g 12, g 13, g 14, g 15, g 16, g 17, g 18, g 19, g 20, g 21, g 22, g 23, g 24, g 25, g 26, g 27, g 28, g 29, g 30, g 31, g 32, g 33, g 34, g 35, g 36, g 37, g 38, g 39, g 40, g 41, g 42, g 43, g 44, g 45, g 46, g 47, g 48, g 49, g 50, g 51, g 52, g 53, g 54, g 55, g 56, g 57, g 58, g 59, g 60, g 61, g 62, g 63, g 64, g 65, g 66, g 67, g 68, g 69, g 70], ⟨((.pair .leaf (.pair .leaf (.pair .leaf (.pair .leaf (.pair .leaf (.pair .leaf .unit)))))), cellD c) :: ex, []⟩⟩ ∧ n = c.wr.length - k ∧ k ≤ c.wr.length ∧ ∀ p, p < k → wrOk c p = true) c.wr.length ⟨0, _, reg_intro rfl rfl ⟨by simp, by omega, by simp⟩⟩ ?_
    rintro n s ⟨k, ex, g, rfl, hn, hk, hp⟩
    simp only [go_sem, Nat.reduceAdd, Nat.reduceSub, Nat.reduceMul, Nat.reduceLT, Nat.reduceLeDiff, ↓reduceIte, reduceCtorEq, Nat.reduceEqDiff, Int.reduceToNat, Int.reduceLT, Int.reduceLE, Int.reduceEq, beq_self_eq_true]
    refine condK_split (fun hc => ?_) (fun hc => ?_)
    · have hk' : k < c.wr.length := by have := of_decide_eq_true hc; omega
      have bad : wrOk c k = false → checkR c = false := fun h => by simp only [checkR, all_bad hk' h, Bool.and_false]
      simp only [go_sem, Nat.reduceAdd, Nat.reduceSub, Nat.reduceMul, Nat.reduceLT, Nat.reduceLeDiff, ↓reduceIte, reduceCtorEq, Nat.reduceEqDiff, Int.reduceToNat, Int.reduceLT, Int.reduceLE, Int.reduceEq, beq_self_eq_true, hk', get_wr]
      have hk1 : k - 1 < c.wr.length := by omega
      have hws : decide (0 < (k : Int)) = true → IntKind.i64.wrap ((k : Int) - 1) = ((k - 1 : Nat) : Int) := fun h => by
        have := of_decide_eq_true h
        rw [wrap64] <;> omega
      refine .inl ⟨by kernel_rfl, ?_⟩
      clear hs bad1
      (repeat' (first | ((refine guardK_split (fun hg => ?_) (fun hg => ?_)) <;> (try simp only [go_sem, Nat.reduceAdd, Nat.reduceSub, Nat.reduceMul, Nat.reduceLT, Nat.reduceLeDiff, ↓reduceIte, reduceCtorEq, Nat.reduceEqDiff, Int.reduceToNat, Int.reduceLT, Int.reduceLE, Int.reduceEq, beq_self_eq_true, hg, hk', hk1, get_wr, get_wr1, hws, wrapNat k (by omega)])) | ((refine condK_split (fun hg => ?_) (fun hg => ?_)) <;> (try simp only [go_sem, Nat.reduceAdd, Nat.reduceSub, Nat.reduceMul, Nat.reduceLT, Nat.reduceLeDiff, ↓reduceIte, reduceCtorEq, Nat.reduceEqDiff, Int.reduceToNat, Int.reduceLT, Int.reduceLE, Int.reduceEq, beq_self_eq_true, hg, hk', hk1, get_wr, get_wr1, hws, wrapNat k (by omega)])) | (refine callK_pure (ref_less (wrAt c (k - 1)).m (wrAt c k).m) ?_ ?_ ?_; (focus (first | rfl | (simp only [go_sem, Nat.reduceAdd, Nat.reduceSub, Nat.reduceMul, Nat.reduceLT, Nat.reduceLeDiff, ↓reduceIte, reduceCtorEq, Nat.reduceEqDiff, Int.reduceToNat, Int.reduceLT, Int.reduceLE, Int.reduceEq, beq_self_eq_true, hk', hk1, get_wr, get_wr1, hws, wrapNat k (by omega)]; done))); (focus (simp only [go_sem, Nat.reduceAdd, Nat.reduceSub, Nat.reduceMul, Nat.reduceLT, Nat.reduceLeDiff, ↓reduceIte, reduceCtorEq, Nat.reduceEqDiff, Int.reduceToNat, Int.reduceLT, Int.reduceLE, Int.reduceEq, beq_self_eq_true, hk', hk1, get_wr, get_wr1, hws, wrapNat k (by omega)]; done)); try simp only [go_sem, Nat.reduceAdd, Nat.reduceSub, Nat.reduceMul, Nat.reduceLT, Nat.reduceLeDiff, ↓reduceIte, reduceCtorEq, Nat.reduceEqDiff, Int.reduceToNat, Int.reduceLT, Int.reduceLE, Int.reduceEq, beq_self_eq_true, hk', hk1, get_wr, get_wr1, hws, wrapNat k (by omega)]) | (refine callD_pure (ref_less (wrAt c (k - 1)).m (wrAt c k).m) ?_ ?_ ?_; (focus (first | rfl | (simp only [go_sem, Nat.reduceAdd, Nat.reduceSub, Nat.reduceMul, Nat.reduceLT, Nat.reduceLeDiff, ↓reduceIte, reduceCtorEq, Nat.reduceEqDiff, Int.reduceToNat, Int.reduceLT, Int.reduceLE, Int.reduceEq, beq_self_eq_true, hk', hk1, get_wr, get_wr1, hws, wrapNat k (by omega)]; done))); (focus (simp only [go_sem, Nat.reduceAdd, Nat.reduceSub, Nat.reduceMul, Nat.reduceLT, Nat.reduceLeDiff, ↓reduceIte, reduceCtorEq, Nat.reduceEqDiff, Int.reduceToNat, Int.reduceLT, Int.reduceLE, Int.reduceEq, beq_self_eq_true, hk', hk1, get_wr, get_wr1, hws, wrapNat k (by omega)]; done)); try simp only [go_sem, Nat.reduceAdd, Nat.reduceSub, Nat.reduceMul, Nat.reduceLT, Nat.reduceLeDiff, ↓reduceIte, reduceCtorEq, Nat.reduceEqDiff, Int.reduceToNat, Int.reduceLT, Int.reduceLE, Int.reduceEq, beq_self_eq_true, hk', hk1, get_wr, get_wr1, hws, wrapNat k (by omega)]) | ((refine Or.inl ⟨by kernel_rfl, ?_⟩) <;> (try simp only [go_sem, Nat.reduceAdd, Nat.reduceSub, Nat.reduceMul, Nat.reduceLT, Nat.reduceLeDiff, ↓reduceIte, reduceCtorEq, Nat.reduceEqDiff, Int.reduceToNat, Int.reduceLT, Int.reduceLE, Int.reduceEq, beq_self_eq_true, hk', hk1, get_wr, get_wr1, hws, wrapNat k (by omega)])))) <;> (first | done | (rw [bad (by first | (simp_all [wrOk]; done) | (simp_all [wrOk]; omega) | grind [wrOk])]) | exact ⟨c.wr.length - (k + 1), by omega, k + 1, _, reg_intro rfl rfl ⟨rfl, by omega, next_good hp (by first | (simp_all [wrOk]; done) | (simp_all [wrOk]; omega) | grind [wrOk])⟩⟩)
    · have hi := of_decide_eq_false hc
      obtain rfl : k = c.wr.length := by omega
      have : checkR c = true := by simp only [checkR, hs, all_good hp, Bool.and_true]
      simp only [go_sem, Nat.reduceAdd, Nat.reduceSub, Nat.reduceMul, Nat.reduceLT, Nat.reduceLeDiff, ↓reduceIte, reduceCtorEq, Nat.reduceEqDiff, Int.reduceToNat, Int.reduceLT, Int.reduceLE, Int.reduceEq, beq_self_eq_true, this]

def bef (t : TxR) (i : Int) (w : WriteR) : Bool := before w.m.p w.m.s w.m.i t i
def clearR (c : CellR) (t : TxR) (i : Int) : CellR := if checkR c then { c with wr := keptL (bef t i) c.wr } else c

set_option maxRecDepth 8000 in
set_option maxHeartbeats 1000000 in
theorem ref09_clear (c : CellR) (t : TxR) (i : Int) (hd : t.deps.length = 13) (hw : c.wr.length < 1000000000) (ha : c.am.length < 1000000000) (hm : c.me.length < 1000000000) (he : c.el.length < 1000000000) :
    PSpec Try.prog CT 54 [cellD c, txD t, .lit (.int .i64 i)] (· = cellD (clearR c t i)) := by
  refine PSpec.of hT Try.func54 rfl (by kernel_rfl) rfl rfl ?_
  simp only [Try.f54, go_sem, Nat.reduceAdd, Nat.reduceSub, Nat.reduceMul, Nat.reduceLT, Nat.reduceLeDiff, ↓reduceIte, reduceCtorEq, Nat.reduceEqDiff, Int.reduceToNat, Int.reduceLT, Int.reduceLE, Int.reduceEq, beq_self_eq_true, hd]
  refine callK_pure (args' := [cellD c]) (ref09_check c hw ha hm he) (by first | rfl | (simp only [go_sem, Nat.reduceAdd, Nat.reduceSub, Nat.reduceMul, Nat.reduceLT, Nat.reduceLeDiff, ↓reduceIte, reduceCtorEq, Nat.reduceEqDiff, Int.reduceToNat, Int.reduceLT, Int.reduceLE, Int.reduceEq, beq_self_eq_true]; done)) (by first | (simp only [go_sem, Nat.reduceAdd, Nat.reduceSub, Nat.reduceMul, Nat.reduceLT, Nat.reduceLeDiff, ↓reduceIte, reduceCtorEq, Nat.reduceEqDiff, Int.reduceToNat, Int.reduceLT, Int.reduceLE, Int.reduceEq, beq_self_eq_true]; done) | (simp [pureL, pureD]; done)) ?_
  simp only [go_sem, Nat.reduceAdd, Nat.reduceSub, Nat.reduceMul, Nat.reduceLT, Nat.reduceLeDiff, ↓reduceIte, reduceCtorEq, Nat.reduceEqDiff, Int.reduceToNat, Int.reduceLT, Int.reduceLE, Int.reduceEq, beq_self_eq_true]
  refine condK_split (fun h1 => ?_) (fun h1 => ?_)
  · have hc : checkR c = false := by simpa using h1
    simp only [go_sem, Nat.reduceAdd, Nat.reduceSub, Nat.reduceMul, Nat.reduceLT, Nat.reduceLeDiff, ↓reduceIte, reduceCtorEq, Nat.reduceEqDiff, Int.reduceToNat, Int.reduceLT, Int.reduceLE, Int.reduceEq, beq_self_eq_true, clearR, hc]
    skip
  · have hc : checkR c = true := by simpa using h1
    simp only [go_sem, Nat.reduceAdd, Nat.reduceSub, Nat.reduceMul, Nat.reduceLT, Nat.reduceLeDiff, ↓reduceIte, reduceCtorEq, Nat.reduceEqDiff, Int.reduceToNat, Int.reduceLT, Int.reduceLE, Int.reduceEq, beq_self_eq_true]
    refine awp_loop (fun n s => ∃ (k : Nat) (o : List WriteR) (u : Tok) (tk : List Bool) (g : Nat → D), s = ⟨[g 0, g 1, .lit (.int .i64 i), .ptr 0 [], .ptr 1 [], g 5, .ptr 2 [], wrsD o u, .lit (.int .i64 k), g 9, g 10, g 11, g 12, g 13, g 14, g 15, g 16, g 17, g 18, g 19, g 20, g 21, g 22, g 23, g 24, g 25, g 26, g 27, g 28, g 29, g 30, g 31, g 32, g 33, g 34, g 35, g 36, g 37, g 38, g 39, g 40], ⟨[((.pair .leaf (.pair .leaf (.pair .leaf (.pair .leaf (.pair .leaf (.pair .leaf .unit)))))), cellD c), (txSh, txD t), ((.pair .leaf (.pair .leaf (.pair .leaf (.pair .leaf (.pair .leaf (.pair .leaf .unit)))))), CT.zero 59)], tk⟩⟩ ∧ n = c.wr.length - k ∧ k ≤ c.wr.length ∧ o = keptL (bef t i) (c.wr.take k) ∧ live u tk) c.wr.length ⟨0, [], .full, [], reg_intro rfl rfl ⟨by simp, by omega, by simp [keptL], trivial⟩⟩ ?_
    rintro n s ⟨k, o, u, tk, g, rfl, hn, hk, ho, hu⟩
    simp only [go_sem, Nat.reduceAdd, Nat.reduceSub, Nat.reduceMul, Nat.reduceLT, Nat.reduceLeDiff, ↓reduceIte, reduceCtorEq, Nat.reduceEqDiff, Int.reduceToNat, Int.reduceLT, Int.reduceLE, Int.reduceEq, beq_self_eq_true, hd]
    refine condK_split (fun hcc => ?_) (fun hcc => ?_)
    · have hk' : k < c.wr.length := by have := of_decide_eq_true hcc; omega
      have hks := kept_snoc (p := bef t i) hk'
      have hkl := kept_len (bef t i) (c.wr.take k)
      rw [List.length_take, ← ho] at hkl
      simp only [go_sem, Nat.reduceAdd, Nat.reduceSub, Nat.reduceMul, Nat.reduceLT, Nat.reduceLeDiff, ↓reduceIte, reduceCtorEq, Nat.reduceEqDiff, Int.reduceToNat, Int.reduceLT, Int.reduceLE, Int.reduceEq, beq_self_eq_true, hk', hd]
      refine .inl ⟨by kernel_rfl, ?_⟩
      simp only [go_sem, Nat.reduceAdd, Nat.reduceSub, Nat.reduceMul, Nat.reduceLT, Nat.reduceLeDiff, ↓reduceIte, reduceCtorEq, Nat.reduceEqDiff, Int.reduceToNat, Int.reduceLT, Int.reduceLE, Int.reduceEq, beq_self_eq_true, hk', get_wr, hd]
      refine callD_pure (ref_before (wrAt c k).m.p (wrAt c k).m.s (wrAt c k).m.i t i hd) (by first | rfl | (simp only [go_sem, Nat.reduceAdd, Nat.reduceSub, Nat.reduceMul, Nat.reduceLT, Nat.reduceLeDiff, ↓reduceIte, reduceCtorEq, Nat.reduceEqDiff, Int.reduceToNat, Int.reduceLT, Int.reduceLE, Int.reduceEq, beq_self_eq_true, hd]; done)) (by first | (simp only [go_sem, Nat.reduceAdd, Nat.reduceSub, Nat.reduceMul, Nat.reduceLT, Nat.reduceLeDiff, ↓reduceIte, reduceCtorEq, Nat.reduceEqDiff, Int.reduceToNat, Int.reduceLT, Int.reduceLE, Int.reduceEq, beq_self_eq_true, hd]; done) | (simp [pureL, pureD]; done)) ?_
      simp only [go_sem, Nat.reduceAdd, Nat.reduceSub, Nat.reduceMul, Nat.reduceLT, Nat.reduceLeDiff, ↓reduceIte, reduceCtorEq, Nat.reduceEqDiff, Int.reduceToNat, Int.reduceLT, Int.reduceLE, Int.reduceEq, beq_self_eq_true]
      refine condK_split (fun h2 => ?_) (fun h2 => ?_)
      · have hb : bef t i (c.wr.getD k default) = false := by simpa [bef, wrAt] using h2
        rw [hb, if_neg (by simp)] at hks
        simp only [go_sem, Nat.reduceAdd, Nat.reduceSub, Nat.reduceMul, Nat.reduceLT, Nat.reduceLeDiff, ↓reduceIte, reduceCtorEq, Nat.reduceEqDiff, Int.reduceToNat, Int.reduceLT, Int.reduceLE, Int.reduceEq, beq_self_eq_true, hk', get_wr]
        refine appK_live _ _ _ _ _ _ _ _ _ _ hu (by simp) (by simp only [go_sem, Nat.reduceAdd, Nat.reduceSub, Nat.reduceMul, Nat.reduceLT, Nat.reduceLeDiff, ↓reduceIte, reduceCtorEq, Nat.reduceEqDiff, Int.reduceToNat, Int.reduceLT, Int.reduceLE, Int.reduceEq, beq_self_eq_true]) (by simp only [go_sem, Nat.reduceAdd, Nat.reduceSub, Nat.reduceMul, Nat.reduceLT, Nat.reduceLeDiff, ↓reduceIte, reduceCtorEq, Nat.reduceEqDiff, Int.reduceToNat, Int.reduceLT, Int.reduceLE, Int.reduceEq, beq_self_eq_true]; omega) (fun u' tk' hu' => ?_)
        simp only [go_sem, Nat.reduceAdd, Nat.reduceSub, Nat.reduceMul, Nat.reduceLT, Nat.reduceLeDiff, ↓reduceIte, reduceCtorEq, Nat.reduceEqDiff, Int.reduceToNat, Int.reduceLT, Int.reduceLE, Int.reduceEq, beq_self_eq_true, wr_snoc, wrapNat k (by omega)]
        exact ⟨c.wr.length - (k + 1), by omega, k + 1, o ++ [wrAt c k], u', tk', reg_intro rfl rfl ⟨rfl, by omega, by rw [hks, ho]; rfl, hu'⟩⟩
      · have hb : bef t i (c.wr.getD k default) = true := by simpa [bef, wrAt] using h2
        rw [hb, if_pos rfl, List.append_nil] at hks
        simp only [go_sem, Nat.reduceAdd, Nat.reduceSub, Nat.reduceMul, Nat.reduceLT, Nat.reduceLeDiff, ↓reduceIte, reduceCtorEq, Nat.reduceEqDiff, Int.reduceToNat, Int.reduceLT, Int.reduceLE, Int.reduceEq, beq_self_eq_true, wrapNat k (by omega)]
        exact ⟨c.wr.length - (k + 1), by omega, k + 1, o, u, tk, reg_intro rfl rfl ⟨rfl, by omega, by rw [hks, ho], hu⟩⟩
    · have hi := of_decide_eq_false hcc
      obtain rfl : k = c.wr.length := by omega
      rw [List.take_length] at ho
      simp only [go_sem, Nat.reduceAdd, Nat.reduceSub, Nat.reduceMul, Nat.reduceLT, Nat.reduceLeDiff, ↓reduceIte, reduceCtorEq, Nat.reduceEqDiff, Int.reduceToNat, Int.reduceLT, Int.reduceLE, Int.reduceEq, beq_self_eq_true, clearR, hc, ← ho]
      skip
end Go.Ab
set_option linter.unusedSimpArgs false
namespace Go.Ab
open Go.Proofs

abbrev xw (t : TxR) (i : Int) (s : ByteArray) : WriteR := ⟨⟨t.peer, t.seq, i⟩, t.time, s⟩
def sameM (x w : WriteR) : Bool := decide (w.m = x.m)
def goesM (x w : WriteR) : Bool := markLt x.m w.m
def doR (c : CellR) (t : TxR) (i : Int) (s : ByteArray) : CellR :=
  if checkR c = false ∨ 64 < (s.size : Int) ∨ i < 1 then c else if c.wr.any (sameM (xw t i s)) then c
  else { clearR c t i with wr := insB (goesM (xw t i s)) (xw t i s) (clearR c t i).wr }
theorem eqB_mk (a1 a2 a3 b1 b2 b3 : Int) : eqB (.agg [.agg [.lit (.int .i64 a1), .lit (.int .i64 a2)], .lit (.int .i64 a3)]) (.agg [.agg [.lit (.int .i64 b1), .lit (.int .i64 b2)], .lit (.int .i64 b3)]) = decide ((⟨a1, a2, a3⟩ : MarkR) = ⟨b1, b2, b3⟩) := by
  refine eqB_eq ?_
  simp [MarkR.mk.injEq, and_assoc]
theorem clearR_shape (c : CellR) (t : TxR) (i : Int) : (clearR c t i).kind = c.kind ∧ (clearR c t i).base = c.base ∧ (clearR c t i).am = c.am ∧ (clearR c t i).me = c.me ∧ (clearR c t i).el = c.el ∧ (clearR c t i).wr.length ≤ c.wr.length := by
  unfold clearR
  split
  · exact ⟨rfl, rfl, rfl, rfl, rfl, kept_len _ _⟩
  · exact ⟨rfl, rfl, rfl, rfl, rfl, Nat.le_refl _⟩
theorem any_at {α : Type} [Inhabited α] {p : α → Bool} {l : List α} {k : Nat} (hk : k < l.length) (h : p (l.getD k default) = true) : l.any p = true :=
  List.any_eq_true.2 ⟨_, by rw [List.getD_eq_getElem?_getD, List.getElem?_eq_getElem hk]; exact List.getElem_mem hk, h⟩
theorem any_no {α : Type} [Inhabited α] {p : α → Bool} {l : List α} (h : ∀ q, q < l.length → p (l.getD q default) = false) : l.any p = false := by
  rw [List.any_eq_false]
  intro x hx
  obtain ⟨i, hi, rfl⟩ := List.getElem_of_mem hx
  have := h i hi
  rw [List.getD_eq_getElem?_getD, List.getElem?_eq_getElem hi] at this
  simpa using this
theorem next_bad {k : Nat} {f : Nat → Bool} (hp : ∀ p, p < k → f p = false) (h : f k = false) : ∀ p, p < k + 1 → f p = false := fun p hpk => by
  by_cases e : p = k
  · subst e; exact h
  · exact hp p (by omega)

set_option maxRecDepth 8000 in
set_option maxHeartbeats 2000000 in
theorem ref09_do (c : CellR) (t : TxR) (i : Int) (sx : ByteArray) (hd : t.deps.length = 13) (hw : c.wr.length < 1000000000) (ha : c.am.length < 1000000000) (hm : c.me.length < 1000000000) (he : c.el.length < 1000000000) :
    PSpec Try.prog CT 52 [cellD c, txD t, .lit (.int .i64 i), .lit (.string sx)] (· = cellD (doR c t i sx)) := by
  refine PSpec.of hT Try.func52 rfl (by kernel_rfl) rfl rfl ?_
  simp only [Try.f52, go_sem, Nat.reduceAdd, Nat.reduceSub, Nat.reduceMul, Nat.reduceLT, Nat.reduceLeDiff, ↓reduceIte, reduceCtorEq, Nat.reduceEqDiff, Int.reduceToNat, Int.reduceLT, Int.reduceLE, Int.reduceEq, beq_self_eq_true, hd]
  refine callK_pure (args' := [cellD c]) (ref09_check c hw ha hm he) (by first | rfl | (simp only [go_sem, Nat.reduceAdd, Nat.reduceSub, Nat.reduceMul, Nat.reduceLT, Nat.reduceLeDiff, ↓reduceIte, reduceCtorEq, Nat.reduceEqDiff, Int.reduceToNat, Int.reduceLT, Int.reduceLE, Int.reduceEq, beq_self_eq_true]; done)) (by first | (simp only [go_sem, Nat.reduceAdd, Nat.reduceSub, Nat.reduceMul, Nat.reduceLT, Nat.reduceLeDiff, ↓reduceIte, reduceCtorEq, Nat.reduceEqDiff, Int.reduceToNat, Int.reduceLT, Int.reduceLE, Int.reduceEq, beq_self_eq_true]; done) | (simp [pureL, pureD]; done)) ?_
  simp only [go_sem, Nat.reduceAdd, Nat.reduceSub, Nat.reduceMul, Nat.reduceLT, Nat.reduceLeDiff, ↓reduceIte, reduceCtorEq, Nat.reduceEqDiff, Int.reduceToNat, Int.reduceLT, Int.reduceLE, Int.reduceEq, beq_self_eq_true]
  have early : (checkR c = false ∨ 64 < (sx.size : Int) ∨ i < 1) → doR c t i sx = c := fun h => by rw [doR, if_pos h]
  (repeat' (first | ((refine guardK_split (fun hg => ?_) (fun hg => ?_)) <;> (try simp only [go_sem, Nat.reduceAdd, Nat.reduceSub, Nat.reduceMul, Nat.reduceLT, Nat.reduceLeDiff, ↓reduceIte, reduceCtorEq, Nat.reduceEqDiff, Int.reduceToNat, Int.reduceLT, Int.reduceLE, Int.reduceEq, beq_self_eq_true, hg, hd])) | ((refine condK_split (fun hg => ?_) (fun hg => ?_)) <;> (try simp only [go_sem, Nat.reduceAdd, Nat.reduceSub, Nat.reduceMul, Nat.reduceLT, Nat.reduceLeDiff, ↓reduceIte, reduceCtorEq, Nat.reduceEqDiff, Int.reduceToNat, Int.reduceLT, Int.reduceLE, Int.reduceEq, beq_self_eq_true, hg, hd])) | ((refine Or.inl ⟨by kernel_rfl, ?_⟩) <;> (try simp only [go_sem, Nat.reduceAdd, Nat.reduceSub, Nat.reduceMul, Nat.reduceLT, Nat.reduceLeDiff, ↓reduceIte, reduceCtorEq, Nat.reduceEqDiff, Int.reduceToNat, Int.reduceLT, Int.reduceLE, Int.reduceEq, beq_self_eq_true, hd])))) <;> (first | done | (rw [early (by first | (simp_all; done) | (simp_all; omega))]) | skip)
  have hck : checkR c = true := by simp_all
  have hne : ¬ (checkR c = false ∨ 64 < (sx.size : Int) ∨ i < 1) := by
    simp only [decide_eq_true_eq, decide_eq_false_iff_not] at *
    rintro (h | h | h)
    · rw [hck] at h; cases h
    · omega
    · omega
  refine awp_loop (fun m s => ∃ (k : Nat) (g : Nat → D), s = ⟨[g 0, g 1, .lit (.int .i64 i), g 3, .ptr 0 [], .ptr 1 [], g 6, g 7, .ptr 2 [], .ptr 3 [], .lit (.int .i64 k), g 11, g 12, g 13, g 14, g 15, g 16, g 17, g 18, g 19, g 20, g 21, g 22, g 23, g 24, g 25, g 26, g 27, g 28, g 29, g 30, g 31, g 32, g 33, g 34, g 35, g 36, g 37, g 38, g 39, g 40, g 41, g 42, g 43, g 44, g 45, g 46, g 47, g 48, g 49, g 50, g 51, g 52, g 53, g 54, g 55, g 56, g 57, g 58, g 59, g 60, g 61, g 62, g 63, g 64, g 65, g 66, g 67, g 68, g 69, g 70, g 71, g 72, g 73, g 74, g 75, g 76, g 77, g 78, g 79, g 80, g 81, g 82, g 83, g 84, g 85, g 86, g 87, g 88, g 89, g 90, g 91, g 92, g 93, g 94, g 95, g 96, g 97], ⟨[((.pair .leaf (.pair .leaf (.pair .leaf (.pair .leaf (.pair .leaf (.pair .leaf .unit)))))), cellD c), (txSh, txD t), ((.pair .leaf (.pair .leaf (.pair .leaf (.pair .leaf (.pair .leaf (.pair .leaf .unit)))))), CT.zero 59), ((.pair (.pair (.pair .leaf (.pair .leaf .unit)) (.pair .leaf .unit)) (.pair .leaf (.pair .leaf .unit))), wrD (xw t i sx))], []⟩⟩ ∧ m = c.wr.length - k ∧ k ≤ c.wr.length ∧ ∀ q, q < k → sameM (xw t i sx) (c.wr.getD q default) = false) c.wr.length ⟨0, reg_intro rfl rfl ⟨by simp, by omega, by simp⟩⟩ ?_
  rintro m st ⟨k, g, rfl, hn, hk, hp⟩
  simp only [go_sem, Nat.reduceAdd, Nat.reduceSub, Nat.reduceMul, Nat.reduceLT, Nat.reduceLeDiff, ↓reduceIte, reduceCtorEq, Nat.reduceEqDiff, Int.reduceToNat, Int.reduceLT, Int.reduceLE, Int.reduceEq, beq_self_eq_true, hd]
  refine condK_split (fun hc => ?_) (fun hc => ?_)
  · have hk' : k < c.wr.length := by have := of_decide_eq_true hc; omega
    refine .inl ⟨by kernel_rfl, ?_⟩
    simp only [go_sem, Nat.reduceAdd, Nat.reduceSub, Nat.reduceMul, Nat.reduceLT, Nat.reduceLeDiff, ↓reduceIte, reduceCtorEq, Nat.reduceEqDiff, Int.reduceToNat, Int.reduceLT, Int.reduceLE, Int.reduceEq, beq_self_eq_true, hk', get_wr, hd, eqB_mk]
    refine condK_split (fun h2 => ?_) (fun h2 => ?_)
    · have hany : c.wr.any (sameM (xw t i sx)) = true := any_at hk' h2
      have : doR c t i sx = c := by rw [doR, if_neg hne, if_pos hany]
      simp only [go_sem, Nat.reduceAdd, Nat.reduceSub, Nat.reduceMul, Nat.reduceLT, Nat.reduceLeDiff, ↓reduceIte, reduceCtorEq, Nat.reduceEqDiff, Int.reduceToNat, Int.reduceLT, Int.reduceLE, Int.reduceEq, beq_self_eq_true, this]
    · simp only [go_sem, Nat.reduceAdd, Nat.reduceSub, Nat.reduceMul, Nat.reduceLT, Nat.reduceLeDiff, ↓reduceIte, reduceCtorEq, Nat.reduceEqDiff, Int.reduceToNat, Int.reduceLT, Int.reduceLE, Int.reduceEq, beq_self_eq_true, wrapNat k (by omega)]
      exact ⟨c.wr.length - (k + 1), by omega, k + 1, reg_intro rfl rfl ⟨rfl, by omega, next_bad hp h2⟩⟩
  have hi := of_decide_eq_false hc
  obtain rfl : k = c.wr.length := by omega
  have hany := any_no hp
  clear hn hk hc hi hp
  obtain ⟨s1, s2, s3, s4, s5, s6⟩ := clearR_shape c t i
  have hdo : doR c t i sx = { clearR c t i with wr := insB (goesM (xw t i sx)) (xw t i sx) (clearR c t i).wr } := by rw [doR, if_neg hne, hany]; simp
  simp only [go_sem, Nat.reduceAdd, Nat.reduceSub, Nat.reduceMul, Nat.reduceLT, Nat.reduceLeDiff, ↓reduceIte, reduceCtorEq, Nat.reduceEqDiff, Int.reduceToNat, Int.reduceLT, Int.reduceLE, Int.reduceEq, beq_self_eq_true, hd]
  refine callK_pure (args' := [cellD c, txD t, .lit (.int .i64 i)]) (ref09_clear c t i hd hw ha hm he) (by first | rfl | (simp only [go_sem, Nat.reduceAdd, Nat.reduceSub, Nat.reduceMul, Nat.reduceLT, Nat.reduceLeDiff, ↓reduceIte, reduceCtorEq, Nat.reduceEqDiff, Int.reduceToNat, Int.reduceLT, Int.reduceLE, Int.reduceEq, beq_self_eq_true, hd]; done)) (by first | (simp only [go_sem, Nat.reduceAdd, Nat.reduceSub, Nat.reduceMul, Nat.reduceLT, Nat.reduceLeDiff, ↓reduceIte, reduceCtorEq, Nat.reduceEqDiff, Int.reduceToNat, Int.reduceLT, Int.reduceLE, Int.reduceEq, beq_self_eq_true, hd]; done) | (simp [pureL, pureD]; done)) ?_
  generalize clearR c t i = d at *
  generalize hx : xw t i sx = x at *
  have hx1 : x.m.p = t.peer := by rw [← hx]
  have hx2 : x.m.s = t.seq := by rw [← hx]
  have hx3 : x.m.i = i := by rw [← hx]
  have hx4 : x.time = t.time := by rw [← hx]
  have hx5 : x.text = sx := by rw [← hx]
  have hxd : D.agg [.agg [dotD t.peer t.seq, .lit (.int .i64 i)], .lit (.int .i64 t.time), .lit (.string sx)] = wrD x := by rw [← hx]
  simp only [go_sem, Nat.reduceAdd, Nat.reduceSub, Nat.reduceMul, Nat.reduceLT, Nat.reduceLeDiff, ↓reduceIte, reduceCtorEq, Nat.reduceEqDiff, Int.reduceToNat, Int.reduceLT, Int.reduceLE, Int.reduceEq, beq_self_eq_true, hd]
  refine awp_loop (fun m s => ∃ (k : Nat) (o : List WriteR) (dn : Bool) (u : Tok) (tk : List Bool) (g : Nat → D), s = ⟨[g 0, g 1, .lit (.int .i64 i), g 3, .ptr 0 [], .ptr 1 [], g 6, g 7, .ptr 2 [], .ptr 3 [], g 10, .ptr 4 [], wrsD o u, .lit (.bool dn), .lit (.int .i64 k), g 15, g 16, g 17, g 18, g 19, g 20, g 21, g 22, g 23, g 24, g 25, g 26, g 27, g 28, g 29, g 30, g 31, g 32, g 33, g 34, g 35, g 36, g 37, g 38, g 39, g 40, g 41, g 42, g 43, g 44, g 45, g 46, g 47, g 48, g 49, g 50, g 51, g 52, g 53, g 54, g 55, g 56, g 57, g 58, g 59, g 60, g 61, g 62, g 63, g 64, g 65, g 66, g 67, g 68, g 69, g 70, g 71, g 72, g 73, g 74, g 75, g 76, g 77, g 78, g 79, g 80, g 81, g 82, g 83, g 84, g 85, g 86, g 87, g 88, g 89, g 90, g 91, g 92, g 93, g 94, g 95, g 96, g 97], ⟨[((.pair .leaf (.pair .leaf (.pair .leaf (.pair .leaf (.pair .leaf (.pair .leaf .unit)))))), cellD c), (txSh, txD t), ((.pair .leaf (.pair .leaf (.pair .leaf (.pair .leaf (.pair .leaf (.pair .leaf .unit)))))), CT.zero 59), ((.pair (.pair (.pair .leaf (.pair .leaf .unit)) (.pair .leaf .unit)) (.pair .leaf (.pair .leaf .unit))), wrD x), ((.pair .leaf (.pair .leaf (.pair .leaf (.pair .leaf (.pair .leaf (.pair .leaf .unit)))))), cellD d)], tk⟩⟩ ∧ m = d.wr.length - k ∧ k ≤ d.wr.length ∧ live u tk ∧ (dn = true → (∃ y ∈ d.wr.take k, goesM x y = true) ∧ o = insB (goesM x) x (d.wr.take k)) ∧ (dn = false → (∀ y ∈ d.wr.take k, goesM x y = false) ∧ o = d.wr.take k)) d.wr.length ⟨0, [], false, .full, [], reg_intro rfl rfl ⟨by simp, by omega, trivial, by simp, by simp⟩⟩ ?_
  rintro m st ⟨k, o, dn, u, tk, g, rfl, hn, hk, ht, hd1, hd2⟩
  have hol : o.length ≤ k + 1 := by
    cases dn with
    | true => rw [(hd1 rfl).2, insB_len, List.length_take]; omega
    | false => rw [(hd2 rfl).2, List.length_take]; omega
  simp only [go_sem, Nat.reduceAdd, Nat.reduceSub, Nat.reduceMul, Nat.reduceLT, Nat.reduceLeDiff, ↓reduceIte, reduceCtorEq, Nat.reduceEqDiff, Int.reduceToNat, Int.reduceLT, Int.reduceLE, Int.reduceEq, beq_self_eq_true]
  refine condK_split (fun hc => ?_) (fun hc => ?_)
  · have hk' : k < d.wr.length := by have := of_decide_eq_true hc; omega
    have hts : d.wr.take (k + 1) = d.wr.take k ++ [wrAt d k] := take_snocG d.wr k hk'
    refine .inl ⟨by kernel_rfl, ?_⟩
    cases dn with
    | true =>
      obtain ⟨e1, e2⟩ := hd1 rfl
      simp only [go_sem, Nat.reduceAdd, Nat.reduceSub, Nat.reduceMul, Nat.reduceLT, Nat.reduceLeDiff, ↓reduceIte, reduceCtorEq, Nat.reduceEqDiff, Int.reduceToNat, Int.reduceLT, Int.reduceLE, Int.reduceEq, beq_self_eq_true, hk', get_wr, Bool.not_true]
      refine appK_live _ _ _ _ _ _ _ _ _ _ ht (by simp) (by simp only [go_sem, Nat.reduceAdd, Nat.reduceSub, Nat.reduceMul, Nat.reduceLT, Nat.reduceLeDiff, ↓reduceIte, reduceCtorEq, Nat.reduceEqDiff, Int.reduceToNat, Int.reduceLT, Int.reduceLE, Int.reduceEq, beq_self_eq_true]) (by simp only [go_sem, Nat.reduceAdd, Nat.reduceSub, Nat.reduceMul, Nat.reduceLT, Nat.reduceLeDiff, ↓reduceIte, reduceCtorEq, Nat.reduceEqDiff, Int.reduceToNat, Int.reduceLT, Int.reduceLE, Int.reduceEq, beq_self_eq_true]; omega) (fun u tk' hu => ?_)
      simp only [go_sem, Nat.reduceAdd, Nat.reduceSub, Nat.reduceMul, Nat.reduceLT, Nat.reduceLeDiff, ↓reduceIte, reduceCtorEq, Nat.reduceEqDiff, Int.reduceToNat, Int.reduceLT, Int.reduceLE, Int.reduceEq, beq_self_eq_true, wr_snoc, wrapNat k (by omega)]
      refine ⟨d.wr.length - (k + 1), by omega, k + 1, o ++ [wrAt d k], true, u, tk', reg_intro rfl rfl ⟨rfl, by omega, hu, fun _ => ⟨?_, ?_⟩, by simp⟩⟩
      · obtain ⟨y, hy, hny⟩ := e1
        exact ⟨y, by rw [hts]; simp [hy], hny⟩
      · rw [hts, insB_snoc_done e1, e2]
    | false =>
      obtain ⟨e1, e2⟩ := hd2 rfl
      simp only [go_sem, Nat.reduceAdd, Nat.reduceSub, Nat.reduceMul, Nat.reduceLT, Nat.reduceLeDiff, ↓reduceIte, reduceCtorEq, Nat.reduceEqDiff, Int.reduceToNat, Int.reduceLT, Int.reduceLE, Int.reduceEq, beq_self_eq_true, hk', get_wr, Bool.not_false]
      refine callD_pure (ref_less x.m (wrAt d k).m) (by first | rfl | (simp only [go_sem, Nat.reduceAdd, Nat.reduceSub, Nat.reduceMul, Nat.reduceLT, Nat.reduceLeDiff, ↓reduceIte, reduceCtorEq, Nat.reduceEqDiff, Int.reduceToNat, Int.reduceLT, Int.reduceLE, Int.reduceEq, beq_self_eq_true]; done)) (by first | (simp only [go_sem, Nat.reduceAdd, Nat.reduceSub, Nat.reduceMul, Nat.reduceLT, Nat.reduceLeDiff, ↓reduceIte, reduceCtorEq, Nat.reduceEqDiff, Int.reduceToNat, Int.reduceLT, Int.reduceLE, Int.reduceEq, beq_self_eq_true]; done) | (simp [pureL, pureD]; done)) ?_
      simp only [go_sem, Nat.reduceAdd, Nat.reduceSub, Nat.reduceMul, Nat.reduceLT, Nat.reduceLeDiff, ↓reduceIte, reduceCtorEq, Nat.reduceEqDiff, Int.reduceToNat, Int.reduceLT, Int.reduceLE, Int.reduceEq, beq_self_eq_true]
      refine condK_split (fun h2 => ?_) (fun h2 => ?_)
      · simp only [go_sem, Nat.reduceAdd, Nat.reduceSub, Nat.reduceMul, Nat.reduceLT, Nat.reduceLeDiff, ↓reduceIte, reduceCtorEq, Nat.reduceEqDiff, Int.reduceToNat, Int.reduceLT, Int.reduceLE, Int.reduceEq, beq_self_eq_true, hk', get_wr]
        refine appK_live _ _ _ _ _ _ _ _ _ _ ht (by simp) (by simp only [go_sem, Nat.reduceAdd, Nat.reduceSub, Nat.reduceMul, Nat.reduceLT, Nat.reduceLeDiff, ↓reduceIte, reduceCtorEq, Nat.reduceEqDiff, Int.reduceToNat, Int.reduceLT, Int.reduceLE, Int.reduceEq, beq_self_eq_true]) (by simp only [go_sem, Nat.reduceAdd, Nat.reduceSub, Nat.reduceMul, Nat.reduceLT, Nat.reduceLeDiff, ↓reduceIte, reduceCtorEq, Nat.reduceEqDiff, Int.reduceToNat, Int.reduceLT, Int.reduceLE, Int.reduceEq, beq_self_eq_true]; omega) (fun u tk' hu => ?_)
        simp only [go_sem, Nat.reduceAdd, Nat.reduceSub, Nat.reduceMul, Nat.reduceLT, Nat.reduceLeDiff, ↓reduceIte, reduceCtorEq, Nat.reduceEqDiff, Int.reduceToNat, Int.reduceLT, Int.reduceLE, Int.reduceEq, beq_self_eq_true, wr_snoc, hk', get_wr]
        refine appK_live _ _ _ _ _ _ _ _ _ _ hu (by simp) (by simp only [go_sem, Nat.reduceAdd, Nat.reduceSub, Nat.reduceMul, Nat.reduceLT, Nat.reduceLeDiff, ↓reduceIte, reduceCtorEq, Nat.reduceEqDiff, Int.reduceToNat, Int.reduceLT, Int.reduceLE, Int.reduceEq, beq_self_eq_true]) (by simp only [go_sem, Nat.reduceAdd, Nat.reduceSub, Nat.reduceMul, Nat.reduceLT, Nat.reduceLeDiff, ↓reduceIte, reduceCtorEq, Nat.reduceEqDiff, Int.reduceToNat, Int.reduceLT, Int.reduceLE, Int.reduceEq, beq_self_eq_true, List.length_append, List.length_singleton]; omega) (fun u tk' hu => ?_)
        simp only [go_sem, Nat.reduceAdd, Nat.reduceSub, Nat.reduceMul, Nat.reduceLT, Nat.reduceLeDiff, ↓reduceIte, reduceCtorEq, Nat.reduceEqDiff, Int.reduceToNat, Int.reduceLT, Int.reduceLE, Int.reduceEq, beq_self_eq_true, wr_snoc, wrapNat k (by omega)]
        refine ⟨d.wr.length - (k + 1), by omega, k + 1, o ++ [x] ++ [wrAt d k], true, u, tk', reg_intro rfl rfl ⟨rfl, by omega, hu, fun _ => ⟨⟨wrAt d k, by rw [hts]; simp, h2⟩, ?_⟩, by simp⟩⟩
        rw [hts, insB_snoc_new (y := wrAt d k) e1 h2, e2]
      · simp only [go_sem, Nat.reduceAdd, Nat.reduceSub, Nat.reduceMul, Nat.reduceLT, Nat.reduceLeDiff, ↓reduceIte, reduceCtorEq, Nat.reduceEqDiff, Int.reduceToNat, Int.reduceLT, Int.reduceLE, Int.reduceEq, beq_self_eq_true, hk', get_wr]
        refine appK_live _ _ _ _ _ _ _ _ _ _ ht (by simp) (by simp only [go_sem, Nat.reduceAdd, Nat.reduceSub, Nat.reduceMul, Nat.reduceLT, Nat.reduceLeDiff, ↓reduceIte, reduceCtorEq, Nat.reduceEqDiff, Int.reduceToNat, Int.reduceLT, Int.reduceLE, Int.reduceEq, beq_self_eq_true]) (by simp only [go_sem, Nat.reduceAdd, Nat.reduceSub, Nat.reduceMul, Nat.reduceLT, Nat.reduceLeDiff, ↓reduceIte, reduceCtorEq, Nat.reduceEqDiff, Int.reduceToNat, Int.reduceLT, Int.reduceLE, Int.reduceEq, beq_self_eq_true]; omega) (fun u tk' hu => ?_)
        simp only [go_sem, Nat.reduceAdd, Nat.reduceSub, Nat.reduceMul, Nat.reduceLT, Nat.reduceLeDiff, ↓reduceIte, reduceCtorEq, Nat.reduceEqDiff, Int.reduceToNat, Int.reduceLT, Int.reduceLE, Int.reduceEq, beq_self_eq_true, wr_snoc, wrapNat k (by omega)]
        refine ⟨d.wr.length - (k + 1), by omega, k + 1, o ++ [wrAt d k], false, u, tk', reg_intro rfl rfl ⟨rfl, by omega, hu, by simp, fun _ => ⟨?_, ?_⟩⟩⟩
        · intro y hy
          rw [hts] at hy
          rcases List.mem_append.1 hy with hy | hy
          · exact e1 y hy
          · rw [List.mem_singleton] at hy; subst hy; exact h2
        · rw [hts, e2]
  have hi := of_decide_eq_false hc
  obtain rfl : k = d.wr.length := by omega
  rw [List.take_length] at hd1 hd2
  simp only [go_sem, Nat.reduceAdd, Nat.reduceSub, Nat.reduceMul, Nat.reduceLT, Nat.reduceLeDiff, ↓reduceIte, reduceCtorEq, Nat.reduceEqDiff, Int.reduceToNat, Int.reduceLT, Int.reduceLE, Int.reduceEq, beq_self_eq_true]
  cases dn with
  | true =>
    obtain ⟨e1, e2⟩ := hd1 rfl
    simp only [go_sem, Nat.reduceAdd, Nat.reduceSub, Nat.reduceMul, Nat.reduceLT, Nat.reduceLeDiff, ↓reduceIte, reduceCtorEq, Nat.reduceEqDiff, Int.reduceToNat, Int.reduceLT, Int.reduceLE, Int.reduceEq, beq_self_eq_true, Bool.not_true]
    rw [hdo, e2]
  | false =>
    obtain ⟨e1, e2⟩ := hd2 rfl
    simp only [go_sem, Nat.reduceAdd, Nat.reduceSub, Nat.reduceMul, Nat.reduceLT, Nat.reduceLeDiff, ↓reduceIte, reduceCtorEq, Nat.reduceEqDiff, Int.reduceToNat, Int.reduceLT, Int.reduceLE, Int.reduceEq, beq_self_eq_true, Bool.not_false]
    refine appK_live _ _ _ _ _ _ _ _ _ _ ht (by simp) (by simp only [go_sem, Nat.reduceAdd, Nat.reduceSub, Nat.reduceMul, Nat.reduceLT, Nat.reduceLeDiff, ↓reduceIte, reduceCtorEq, Nat.reduceEqDiff, Int.reduceToNat, Int.reduceLT, Int.reduceLE, Int.reduceEq, beq_self_eq_true]) (by simp only [go_sem, Nat.reduceAdd, Nat.reduceSub, Nat.reduceMul, Nat.reduceLT, Nat.reduceLeDiff, ↓reduceIte, reduceCtorEq, Nat.reduceEqDiff, Int.reduceToNat, Int.reduceLT, Int.reduceLE, Int.reduceEq, beq_self_eq_true]; omega) (fun u tk' hu => ?_)
    simp only [go_sem, Nat.reduceAdd, Nat.reduceSub, Nat.reduceMul, Nat.reduceLT, Nat.reduceLeDiff, ↓reduceIte, reduceCtorEq, Nat.reduceEqDiff, Int.reduceToNat, Int.reduceLT, Int.reduceLE, Int.reduceEq, beq_self_eq_true, wr_snoc]
    rw [hdo, insB_all e1, e2]
end Go.Ab
