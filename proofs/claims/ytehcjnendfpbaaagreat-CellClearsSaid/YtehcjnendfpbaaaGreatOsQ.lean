/- The document's answer for counters and sequences: which may be. Conditions: none. -/
import Derived.Test.YtehcjnendfpbaaaGreatCeF
import Derived.Test.YtehcjnendfpbaaaGreatReK
import Derived.Test.YtehcjnendfpbaaaGreatReA
import Derived.Test.YtehcjnendfpbaaaGreatSoB
import Derived.Test.YtehcjnendfpbaaaGreatTxI
import Derived.Test.YtehcjnendfpbaaaGreatReH
set_option linter.unusedSimpArgs false
namespace Go.Ab
open Go.Proofs

theorem ref08_amount (n : Int) : PSpec Tryz.prog CT 55 [.lit (.int .i64 n)] (· = .bool (inA n)) := by
  refine PSpec.of hT Tryz.func55 rfl (by kernel_rfl) rfl rfl ?_
  simp only [Tryz.f55, go_sem, simprocAttr]
  (repeat' (first | ((refine guardK_split (fun hg => ?_) (fun hg => ?_)) <;> (try simp only [go_sem, simprocAttr, hg])) | ((refine condK_split (fun hg => ?_) (fun hg => ?_)) <;> (try simp only [go_sem, simprocAttr, hg])) | ((refine Or.inl ⟨by kernel_rfl, ?_⟩) <;> (try simp only [go_sem, simprocAttr])))) <;> (first | done | (simp_all [inA]; done) | (simp_all [inA]; omega) | (simp_all [inA]; intros; omega) | (simp_all [inA]; grind))
theorem amOk_eq (a : AmountR) : amOk a = (inA a.n && decide (1 ≤ a.m.i)) := by simp [amOk, inA]
set_option maxRecDepth 8000 in
set_option maxHeartbeats 4000000 in
theorem ref08_check (c : CellR) (h : c.sm) : PSpec Tryz.prog CT 29 [cellD c] (· = .bool (checkN c)) := by
  have l1 := h.am; have l2 := h.wr; have l3 := h.me; have l4 := h.el
  refine PSpec.of hT Tryz.func29 rfl (by kernel_rfl) rfl rfl ?_
  have hw1 : IntKind.i64.wrap ((c.wr.length : Int) + (c.me.length : Int)) = (c.wr.length : Int) + (c.me.length : Int) := by rw [wrap64] <;> omega
  have hw2 : IntKind.i64.wrap ((c.wr.length : Int) + (c.me.length : Int) + (c.el.length : Int)) = (c.wr.length : Int) + (c.me.length : Int) + (c.el.length : Int) := by rw [wrap64] <;> omega
  simp only [Tryz.f29, go_sem, simprocAttr, hw1, hw2]
  have bad1 : ¬ (c.kind = 1 ∧ c.wr.length = 0 ∧ c.me.length = 0 ∧ c.el.length = 0 ∧ -1152921504606846976 ≤ c.base ∧ c.base ≤ 1152921504606846976) → checkN c = false := fun h => by
    have : shapeN c = false := by
      cases hs : shapeN c with
      | false => rfl
      | true => exact absurd (by simpa [shapeN, inW, and_assoc] using hs) h
    simp only [checkN, this, Bool.false_and]
  (repeat' (first | ((refine guardK_split (fun hg => ?_) (fun hg => ?_)) <;> (try simp only [go_sem, simprocAttr, hg, hw1, hw2])) | ((refine condK_split (fun hg => ?_) (fun hg => ?_)) <;> (try simp only [go_sem, simprocAttr, hg, hw1, hw2])) | ((refine Or.inl ⟨by kernel_rfl, ?_⟩) <;> (try simp only [go_sem, simprocAttr, hw1, hw2])))) <;> (first | done | (rw [bad1 (by simp only [decide_eq_true_eq, decide_eq_false_iff_not, Bool.not_eq_true', Bool.not_eq_false', Bool.not_eq_eq_eq_not, Bool.not_true, Bool.not_false] at *; omega)]) | skip)
  all_goals
    have hs : shapeN c = true := by
      simp only [shapeN, inW, Bool.and_eq_true, Bool.or_eq_true, decide_eq_true_eq]
      simp only [decide_eq_true_eq, decide_eq_false_iff_not, Bool.not_eq_true', Bool.not_eq_false', Bool.not_eq_eq_eq_not, Bool.not_true, Bool.not_false] at *
      omega
    have hck : checkN c = allG AmountR.m amOk c.am := by rw [checkN, hs, Bool.true_and]
    refine awp_loop (fun n s => ∃ (k : Nat) (ex : List (Sh × D)) (g : Nat → D), s = ⟨[g 0, .ptr 0 [], g 2, .lit (.int .i64 k), g 4, g 5, g 6, g 7, g 8, g 9, g 10, g 11, g 12, g 13, g 14, g 15, g 16, g 17, g 18, g 19, g 20, g 21, g 22, g 23, g 24, g 25, g 26, g 27, g 28, g 29, g 30, g 31, g 32, g 33, g 34, g 35, g 36, g 37, g 38, g 39, g 40, g 41, g 42, g 43, g 44, g 45, g 46, g 47, g 48, g 49, g 50, g 51, g 52, g 53, g 54, g 55, g 56, g 57, g 58, g 59, g 60, g 61, g 62, g 63, g 64, g 65, g 66, g 67, g 68, g 69, g 70], ⟨((.pair .leaf (.pair .leaf (.pair .leaf (.pair .leaf (.pair .leaf (.pair .leaf .unit)))))), cellD c) :: ex, []⟩⟩ ∧ n = c.am.length - k ∧ k ≤ c.am.length ∧ ∀ p, p < k → okG AmountR.m amOk c.am p = true) c.am.length ⟨0, _, reg_intro rfl rfl ⟨by simp, by omega, by simp⟩⟩ ?_
    rintro n s ⟨k, ex, g, rfl, hn, hk, hp⟩
    simp only [go_sem, simprocAttr]
    refine condK_split (fun hc => ?_) (fun hc => ?_)
    · have hk' : k < c.am.length := by have := of_decide_eq_true hc; omega
      have bad : okG AmountR.m amOk c.am k = false → checkN c = false := fun h => by rw [hck, allG, all_bad hk' h]
      simp only [go_sem, simprocAttr, hk', get_am]
      have hk1 : k - 1 < c.am.length := by omega
      have hws : decide (0 < (k : Int)) = true → IntKind.i64.wrap ((k : Int) - 1) = ((k - 1 : Nat) : Int) := fun h => by
        have := of_decide_eq_true h
        rw [wrap64] <;> omega
      clear hs bad1 hck hw1 hw2
      refine .inl ⟨by kernel_rfl, ?_⟩
      (repeat' (first | ((refine guardK_split (fun hg => ?_) (fun hg => ?_)) <;> (try simp only [go_sem, simprocAttr, hg, hk', hk1, get_am, get_am1, hws, wrapNat k (by omega)])) | ((refine condK_split (fun hg => ?_) (fun hg => ?_)) <;> (try simp only [go_sem, simprocAttr, hg, hk', hk1, get_am, get_am1, hws, wrapNat k (by omega)])) | ((first | refine callK_pure (ref08_amount (c.am.getD k default).n) ?_ ?_ ?_ | refine callD_pure (ref08_amount (c.am.getD k default).n) ?_ ?_ ?_); (iterate 2 (focus (first | rfl | (simp only [go_sem, hk', hk1, get_am, get_am1, hws, wrapNat k (by omega)]; done)))); try simp only [go_sem, simprocAttr, hk', hk1, get_am, get_am1, hws, wrapNat k (by omega)]) | ((first | refine callK_pure (ref_less (c.am.getD (k - 1) default).m (c.am.getD k default).m) ?_ ?_ ?_ | refine callD_pure (ref_less (c.am.getD (k - 1) default).m (c.am.getD k default).m) ?_ ?_ ?_); (iterate 2 (focus (first | rfl | (simp only [go_sem, hk', hk1, get_am, get_am1, hws, wrapNat k (by omega)]; done)))); try simp only [go_sem, simprocAttr, hk', hk1, get_am, get_am1, hws, wrapNat k (by omega)]) | ((refine Or.inl ⟨by kernel_rfl, ?_⟩) <;> (try simp only [go_sem, simprocAttr, hk', hk1, get_am, get_am1, hws, wrapNat k (by omega)])))) <;> (first | done | (rw [bad (by first | (simp_all [okG, amOk_eq]; done) | (simp_all [okG, amOk_eq]; omega) | grind [okG, amOk_eq])]) | exact ⟨c.am.length - (k + 1), by omega, k + 1, _, reg_intro rfl rfl ⟨rfl, by omega, next_good hp (by first | (simp_all [okG, amOk_eq]; done) | (simp_all [okG, amOk_eq]; omega) | grind [okG, amOk_eq])⟩⟩)
    · have hi := of_decide_eq_false hc
      obtain rfl : k = c.am.length := by omega
      have hall : allG AmountR.m amOk c.am = true := all_good hp
      rw [hall] at hck
      simp only [go_sem, simprocAttr, hck]
theorem ref11_place (l : List ElemR) (m : MarkR) (hl : l.length < 1000000000) : PSpec Tryz.prog CT 62 [rows_el l .no, m.d] (· = .lit (.int .i64 (idxF (sameG ElemR.m m) l))) := by
  refine PSpec.of hT Tryz.func62 rfl (by kernel_rfl) rfl rfl ?_
  simp only [Tryz.f62, go_sem, simprocAttr]
  refine awp_loop (fun n s => ∃ (k : Nat) (g : Nat → D), s = ⟨[rows_el l .no, g 1, g 2, .ptr 0 [], g 4, .lit (.int .i64 k), g 6, g 7, g 8, g 9, g 10, g 11, g 12, g 13, g 14, g 15, g 16, g 17, g 18, g 19], ⟨[((.pair (.pair .leaf (.pair .leaf .unit)) (.pair .leaf .unit)), m.d)], []⟩⟩ ∧ n = l.length - k ∧ k ≤ l.length ∧ ∀ q, q < k → sameG ElemR.m m (l.getD q default) = false) l.length ⟨0, reg_intro rfl rfl ⟨by simp, by omega, by simp⟩⟩ ?_
  rintro n st ⟨k, g, rfl, hn, hk, hp⟩
  simp only [go_sem, simprocAttr]
  refine condK_split (fun hc => ?_) (fun hc => ?_)
  · have hk' : k < l.length := by have := of_decide_eq_true hc; omega
    refine .inl ⟨by kernel_rfl, ?_⟩
    simp only [go_sem, simprocAttr, hk', get_elL, eqB_mk]
    refine condK_split (fun h2 => ?_) (fun h2 => ?_)
    · simp only [go_sem, simprocAttr, idxF_at hk' hp h2]
    · simp only [go_sem, simprocAttr, wrapNat k (by omega)]
      exact ⟨l.length - (k + 1), by omega, k + 1, reg_intro rfl rfl ⟨rfl, by omega, next_bad hp h2⟩⟩
  · have hi := of_decide_eq_false hc
    obtain rfl : k = l.length := by omega
    simp only [go_sem, simprocAttr, idxF_none hp]
def endsL (l : List ElemR) : Nat → Nat → Bool
  | 0, _ => false
  | f + 1, i => if (l.getD i default).ref = zeroM then true else if idxF (sameG ElemR.m (l.getD i default).ref) l < 0 then false else endsL l f (idxF (sameG ElemR.m (l.getD i default).ref) l).toNat
theorem ref11_ends (l : List ElemR) (i : Nat) (hl : l.length < 1000000000) (hi : i < l.length) : PSpec Tryz.prog CT 58 [rows_el l .no, .lit (.int .i64 i)] (· = .bool (endsL l (l.length + 1) i)) := by
  refine PSpec.of hT Tryz.func58 rfl (by kernel_rfl) rfl rfl ?_
  simp only [Tryz.f58, go_sem, simprocAttr]
  refine awp_loop (fun n s => ∃ (k j : Nat) (g : Nat → D), s = ⟨[rows_el l .no, .lit (.int .i64 j), g 2, g 3, g 4, .ptr 0 [], .lit (.int .i64 k), g 7, g 8, g 9, g 10, g 11, g 12, g 13, g 14, g 15, g 16, g 17, g 18, g 19, g 20, g 21, g 22, g 23, g 24, g 25, g 26, g 27, g 28, g 29], ⟨[((.pair (.pair .leaf (.pair .leaf .unit)) (.pair .leaf .unit)), zeroM.d)], []⟩⟩ ∧ n = l.length + 1 - k ∧ k ≤ l.length + 1 ∧ j < l.length ∧ endsL l (l.length + 1 - k) j = endsL l (l.length + 1) i) (l.length + 1) ⟨0, i, reg_intro rfl rfl ⟨by simp, by omega, hi, by simp⟩⟩ ?_
  rintro n st ⟨k, j, g, rfl, hn, hk, hj, he⟩
  simp only [go_sem, simprocAttr]
  refine condK_split (fun hc => ?_) (fun hc => ?_)
  · have hk' : k ≤ l.length := by have := of_decide_eq_true hc; omega
    obtain ⟨f, hf⟩ : ∃ f, l.length + 1 - k = f + 1 := ⟨l.length - k, by omega⟩
    rw [hf, endsL] at he
    refine .inl ⟨by kernel_rfl, ?_⟩
    simp only [go_sem, simprocAttr, hj, get_elL, eqB_mk]
    refine condK_split (fun h2 => ?_) (fun h2 => ?_)
    · have h2 : (l.getD j default).ref = zeroM := of_decide_eq_true h2
      rw [if_pos h2] at he
      simp only [go_sem, simprocAttr, ← he]
    · have h2 : ¬ (l.getD j default).ref = zeroM := of_decide_eq_false h2
      rw [if_neg h2] at he
      simp only [go_sem, simprocAttr, hj, get_elL]
      refine callK_pure (ref11_place l (l.getD j default).ref hl) (by first | rfl | (simp only [go_sem]; done)) (by first | (simp only [go_sem]; done) | (simp [pureL, pureD]; done)) ?_
      simp only [go_sem, simprocAttr]
      refine condK_split (fun h3 => ?_) (fun h3 => ?_)
      · rw [if_pos (of_decide_eq_true h3)] at he
        simp only [go_sem, simprocAttr, ← he]
      · have h3 := of_decide_eq_false h3
        rw [if_neg h3] at he
        have hlt := idxF_lt (sameG ElemR.m (l.getD j default).ref) l
        obtain ⟨q, hq⟩ : ∃ q : Nat, idxF (sameG ElemR.m (l.getD j default).ref) l = q := ⟨(idxF (sameG ElemR.m (l.getD j default).ref) l).toNat, by omega⟩
        rw [hq] at he hlt ⊢
        simp only [go_sem, simprocAttr, wrapNat k (by omega)]
        exact ⟨l.length + 1 - (k + 1), by omega, k + 1, q, reg_intro rfl rfl ⟨rfl, by omega, by omega, by rw [← he, show l.length + 1 - (k + 1) = f by omega]; rfl⟩⟩
  · have hi2 := of_decide_eq_false hc
    obtain rfl : k = l.length + 1 := by omega
    rw [Nat.sub_self, endsL] at he
    simp only [go_sem, simprocAttr, ← he]
end Go.Ab
set_option linter.unusedSimpArgs false
namespace Go.Ab
open Go.Proofs

def endsQ (c : CellR) (k : Nat) : Bool := okG ElemR.m elOk c.el k && endsL c.el (c.el.length + 1) k
def checkD (c : CellR) : Bool := shapeQ c && (List.range c.el.length).all (endsQ c)
set_option maxRecDepth 8000 in
set_option maxHeartbeats 4000000 in
theorem ref11_check (c : CellR) (h : c.sm) : PSpec Tryz.prog CT 32 [cellD c] (· = .bool (checkD c)) := by
  have l1 := h.am; have l2 := h.wr; have l3 := h.me; have l4 := h.el; have l5 := h.eg
  refine PSpec.of hT Tryz.func32 rfl (by kernel_rfl) rfl rfl ?_
  have hw1 : IntKind.i64.wrap ((c.am.length : Int) + (c.wr.length : Int)) = (c.am.length : Int) + (c.wr.length : Int) := by rw [wrap64] <;> omega
  have hw2 : IntKind.i64.wrap ((c.am.length : Int) + (c.wr.length : Int) + (c.me.length : Int)) = (c.am.length : Int) + (c.wr.length : Int) + (c.me.length : Int) := by rw [wrap64] <;> omega
  simp only [Tryz.f32, go_sem, simprocAttr, hw1, hw2]
  have bad1 : ¬ (c.kind = 5 ∧ c.base = 0 ∧ c.am.length = 0 ∧ c.wr.length = 0 ∧ c.me.length = 0) → checkD c = false := fun h => by
    have : shapeQ c = false := by
      cases hs : shapeQ c with
      | false => rfl
      | true => exact absurd (by simpa [shapeQ, and_assoc] using hs) h
    simp only [checkD, this, Bool.false_and]
  (repeat' (first | ((refine guardK_split (fun hg => ?_) (fun hg => ?_)) <;> (try simp only [go_sem, simprocAttr, hg, hw1, hw2])) | ((refine condK_split (fun hg => ?_) (fun hg => ?_)) <;> (try simp only [go_sem, simprocAttr, hg, hw1, hw2])) | ((refine Or.inl ⟨by kernel_rfl, ?_⟩) <;> (try simp only [go_sem, simprocAttr, hw1, hw2])))) <;> (first | done | (rw [bad1 (by simp only [decide_eq_true_eq, decide_eq_false_iff_not, Bool.not_eq_true', Bool.not_eq_false', Bool.not_eq_eq_eq_not, Bool.not_true, Bool.not_false] at *; omega)]) | skip)
  all_goals
    have hs : shapeQ c = true := by
      simp only [shapeQ, Bool.and_eq_true, Bool.or_eq_true, decide_eq_true_eq]
      simp only [decide_eq_true_eq, decide_eq_false_iff_not, Bool.not_eq_true', Bool.not_eq_false', Bool.not_eq_eq_eq_not, Bool.not_true, Bool.not_false] at *
      omega
    have hck : checkD c = (List.range c.el.length).all (endsQ c) := by rw [checkD, hs, Bool.true_and]
    refine awp_loop (fun n s => ∃ (k : Nat) (ex : List (Sh × D)) (g : Nat → D), s = ⟨[g 0, .ptr 0 [], g 2, .lit (.int .i64 k), g 4, g 5, g 6, g 7, g 8, g 9, g 10, g 11, g 12, g 13, g 14, g 15, g 16, g 17, g 18, g 19, g 20, g 21, g 22, g 23, g 24, g 25, g 26, g 27, g 28, g 29, g 30, g 31, g 32, g 33, g 34, g 35, g 36, g 37, g 38, g 39, g 40, g 41, g 42, g 43, g 44, g 45, g 46, g 47, g 48, g 49, g 50, g 51, g 52, g 53, g 54, g 55, g 56, g 57, g 58, g 59, g 60, g 61, g 62, g 63, g 64, g 65, g 66, g 67, g 68, g 69, g 70, g 71, g 72, g 73, g 74, g 75, g 76, g 77, g 78], ⟨((.pair .leaf (.pair .leaf (.pair .leaf (.pair .leaf (.pair .leaf (.pair .leaf .unit)))))), cellD c) :: ex, []⟩⟩ ∧ n = c.el.length - k ∧ k ≤ c.el.length ∧ ∀ p, p < k → endsQ c p = true) c.el.length ⟨0, _, reg_intro rfl rfl ⟨by simp, by omega, by simp⟩⟩ ?_
    rintro n s ⟨k, ex, g, rfl, hn, hk, hp⟩
    simp only [go_sem, simprocAttr]
    refine condK_split (fun hc => ?_) (fun hc => ?_)
    · have hk' : k < c.el.length := by have := of_decide_eq_true hc; omega
      have bad : endsQ c k = false → checkD c = false := fun h => by rw [hck, all_bad hk' h]
      simp only [go_sem, simprocAttr, hk', get_elL]
      have hk1 : k - 1 < c.el.length := by omega
      have hmk : (c.el.getD k default).gone.length < 4000000000 := by have := l5 _ (getD_mem hk'); omega
      have hws : decide (0 < (k : Int)) = true → IntKind.i64.wrap ((k : Int) - 1) = ((k - 1 : Nat) : Int) := fun h => by
        have := of_decide_eq_true h
        rw [wrap64] <;> omega
      clear hs bad1 hck hw1 hw2
      refine .inl ⟨by kernel_rfl, ?_⟩
      (repeat' (first | ((refine guardK_split (fun hg => ?_) (fun hg => ?_)) <;> (try simp only [go_sem, simprocAttr, hg, hk', hk1, get_elL, get_elL1, hws, wrapNat k (by omega)])) | ((refine condK_split (fun hg => ?_) (fun hg => ?_)) <;> (try simp only [go_sem, simprocAttr, hg, hk', hk1, get_elL, get_elL1, hws, wrapNat k (by omega)])) | ((first | refine callK_pure (ref10_rising (c.el.getD k default).gone hmk) ?_ ?_ ?_ | refine callD_pure (ref10_rising (c.el.getD k default).gone hmk) ?_ ?_ ?_); (iterate 2 (focus (first | rfl | (simp only [go_sem, hk', hk1, get_elL, get_elL1, hws, wrapNat k (by omega)]; done)))); try simp only [go_sem, simprocAttr, hk', hk1, get_elL, get_elL1, hws, wrapNat k (by omega)]) | ((first | refine callK_pure (ref_less (c.el.getD (k - 1) default).m (c.el.getD k default).m) ?_ ?_ ?_ | refine callD_pure (ref_less (c.el.getD (k - 1) default).m (c.el.getD k default).m) ?_ ?_ ?_); (iterate 2 (focus (first | rfl | (simp only [go_sem, hk', hk1, get_elL, get_elL1, hws, wrapNat k (by omega)]; done)))); try simp only [go_sem, simprocAttr, hk', hk1, get_elL, get_elL1, hws, wrapNat k (by omega)]) | ((first | refine callK_pure (ref11_ends c.el k (by omega) hk') ?_ ?_ ?_ | refine callD_pure (ref11_ends c.el k (by omega) hk') ?_ ?_ ?_); (iterate 2 (focus (first | rfl | (simp only [go_sem, hk', hk1, get_elL, get_elL1, hws, wrapNat k (by omega)]; done)))); try simp only [go_sem, simprocAttr, hk', hk1, get_elL, get_elL1, hws, wrapNat k (by omega)]) | ((refine Or.inl ⟨by kernel_rfl, ?_⟩) <;> (try simp only [go_sem, simprocAttr, hk', hk1, get_elL, get_elL1, hws, wrapNat k (by omega)])))) <;> (first | done | (rw [bad (by first | (simp_all [endsQ, okG, elOk]; done) | (simp_all [endsQ, okG, elOk]; omega) | grind [endsQ, okG, elOk])]) | exact ⟨c.el.length - (k + 1), by omega, k + 1, _, reg_intro rfl rfl ⟨rfl, by omega, next_good hp (by first | (simp_all [endsQ, okG, elOk]; done) | (simp_all [endsQ, okG, elOk]; omega) | grind [endsQ, okG, elOk])⟩⟩)
    · have hi := of_decide_eq_false hc
      obtain rfl : k = c.el.length := by omega
      have hall : (List.range c.el.length).all (endsQ c) = true := all_good hp
      rw [hall] at hck
      simp only [go_sem, simprocAttr, hck]
def checkW (c : CellR) : Bool := if c.kind = 1 then checkN c else if c.kind = 2 ∨ c.kind = 3 then checkR c else if c.kind = 4 then checkS c else if c.kind = 5 then checkD c else false
set_option maxRecDepth 8000 in
theorem ref12_check (c : CellR) (h : c.sm) : PSpec Tryz.prog CT 8 [cellD c] (· = .bool (checkW c)) := by
  have l1 := h.am; have l2 := h.wr; have l3 := h.me; have l4 := h.el; have l5 := h.eg; have l6 := h.mm
  refine PSpec.of hT Tryz.func8 rfl (by kernel_rfl) rfl rfl ?_
  simp only [Tryz.f8, go_sem, simprocAttr]
  (repeat' (first | ((refine guardK_split (fun hg => ?_) (fun hg => ?_)) <;> (try simp only [go_sem, simprocAttr, hg])) | ((refine condK_split (fun hg => ?_) (fun hg => ?_)) <;> (try simp only [go_sem, simprocAttr, hg])) | ((first | refine callK_pure (ref08_check c h) ?_ ?_ ?_ | refine callD_pure (ref08_check c h) ?_ ?_ ?_); (iterate 2 (focus (first | rfl | (simp only [go_sem]; done)))); try simp only [go_sem, simprocAttr]) | ((first | refine callK_pure (ref09_check c (by omega) (by omega) (by omega) (by omega)) ?_ ?_ ?_ | refine callD_pure (ref09_check c (by omega) (by omega) (by omega) (by omega)) ?_ ?_ ?_); (iterate 2 (focus (first | rfl | (simp only [go_sem]; done)))); try simp only [go_sem, simprocAttr]) | ((first | refine callK_pure (ref10_check c (by omega) (by omega) (by omega) (by omega) (fun m hm => by have := l6 m hm; omega)) ?_ ?_ ?_ | refine callD_pure (ref10_check c (by omega) (by omega) (by omega) (by omega) (fun m hm => by have := l6 m hm; omega)) ?_ ?_ ?_); (iterate 2 (focus (first | rfl | (simp only [go_sem]; done)))); try simp only [go_sem, simprocAttr]) | ((first | refine callK_pure (ref11_check c h) ?_ ?_ ?_ | refine callD_pure (ref11_check c h) ?_ ?_ ?_); (iterate 2 (focus (first | rfl | (simp only [go_sem]; done)))); try simp only [go_sem, simprocAttr]) | ((refine Or.inl ⟨by kernel_rfl, ?_⟩) <;> (try simp only [go_sem, simprocAttr])))) <;> (first | done | (simp_all [checkW]; done) | (simp_all [checkW]; omega) | (simp_all [checkW]; intros; omega) | (simp_all [checkW]; grind))
theorem few_sm12 {c : CellR} (h : fewC c = true) : c.sm := by
  obtain ⟨h1, h2, h3, _⟩ := few_len h
  exact ⟨by omega, by omega, by omega, fun m hm => by have := h2 m hm; omega, by omega, fun e he => by have := h3 e he; omega⟩
end Go.Ab
set_option linter.unusedSimpArgs false
namespace Go.Ab
open Go.Proofs

def a09 : ByteArray := ⟨#[97]⟩
def b09 : ByteArray := ⟨#[98]⟩

theorem eqB_self (x : D) : eqB x x = true := by simp [eqB]


theorem ref_texts08 (l : List ByteArray) (hl : l.length < 4000000000) : PSpec Tryz.prog CT 37 [textsD l .no, textsD l .no] (· = .bool true) := by
  refine PSpec.of hT Tryz.func37 rfl (by kernel_rfl) rfl rfl ?_
  simp only [Tryz.f37, go_sem, simprocAttr]
  refine awp_loop (fun n s => ∃ (k : Nat) (g : Nat → D), s = ⟨[textsD l .no, textsD l .no, g 2, g 3, g 4, .lit (.int .i64 k), g 6, g 7, g 8, g 9, g 10, g 11, g 12, g 13, g 14, g 15, g 16, g 17, g 18, g 19, g 20, g 21, g 22, g 23, g 24, g 25], ⟨[], []⟩⟩ ∧ n = l.length - k ∧ k ≤ l.length) l.length ⟨0, reg_intro rfl rfl ⟨by simp, by omega⟩⟩ ?_
  rintro n s ⟨k, g, rfl, hn, hk⟩
  simp only [go_sem, simprocAttr]
  refine condK_split (fun hc => ?_) (fun hc => ?_)
  · have hk' : k < l.length := by have := of_decide_eq_true hc; omega
    refine .inl ⟨by kernel_rfl, ?_⟩
    simp only [go_sem, simprocAttr, hk', get_enc, eqB_self, Bool.not_true, wrapNat k (by omega)]
    exact ⟨l.length - (k + 1), by omega, k + 1, reg_intro rfl rfl ⟨rfl, by omega⟩⟩
  · simp only [go_sem, simprocAttr]


theorem ref_values (v : ValueR) (hl : v.texts.length < 4000000000) : PSpec Tryz.prog CT 17 [valD v, valD v] (· = .bool true) := by
  refine PSpec.of hT Tryz.func17 rfl (by kernel_rfl) rfl rfl ?_
  simp only [Tryz.f17, go_sem, simprocAttr, eqB_self, Bool.not_true, decide_true]
  refine callK_pure (ref_texts08 v.texts hl) (by simp only [go_sem, simprocAttr]) (by simp only [go_sem, simprocAttr]) ?_
  simp only [go_sem, simprocAttr, Bool.not_true]
  refine awp_loop (fun n s => ∃  (g : Nat → D), s = ⟨[g 0, g 1, .ptr 0 [], .ptr 1 [], g 4, .lit (.int .i64 0), g 6, g 7, g 8, g 9, g 10, g 11, g 12, g 13, g 14, g 15, g 16, g 17, g 18, g 19, g 20, g 21, g 22, g 23, g 24, g 25, g 26, g 27, g 28, g 29, g 30, g 31, g 32, g 33, g 34, g 35, g 36, g 37, g 38, g 39, g 40, g 41, g 42, g 43, g 44, g 45, g 46, g 47, g 48, g 49, g 50, g 51, g 52, g 53, g 54, g 55, g 56, g 57, g 58, g 59, g 60, g 61, g 62, g 63, g 64, g 65, g 66, g 67, g 68, g 69, g 70], ⟨[((.pair .leaf (.pair .leaf (.pair .leaf (.pair .leaf .unit)))), valD v), ((.pair .leaf (.pair .leaf (.pair .leaf (.pair .leaf .unit)))), valD v)], []⟩⟩ ∧ n = 0) 0 (reg_intro rfl rfl (rfl)) ?_
  rintro n s ⟨g, rfl, hn⟩
  simp only [go_sem, simprocAttr]
  all_goals
    refine condK_split (fun hc => absurd (of_decide_eq_true hc) (by omega)) (fun _ => ?_)
    simp only [go_sem, simprocAttr]

end Go.Ab
set_option linter.unusedSimpArgs false
namespace Go.Ab
open Go.Proofs

theorem inv_markR {d : D} (h : HasTy CT 36 d) : ∃ m : MarkR, d = m.d ∧ True := by
  obtain ⟨p, s, i, rfl⟩ := inv_mark h
  exact ⟨⟨p, s, i⟩, rfl, trivial⟩
theorem inv_marks {d : D} (h : HasTy CT 65 d) : ∃ l : List MarkR, d = marksD l .no ∧ l.length ≤ 9000000000000 := by
  obtain ⟨l, rfl, h1, h2⟩ := h.inv_sliceB ty65
  obtain ⟨m, rfl, _⟩ := all_of (enc := MarkR.d) (Q := fun _ => True) fun x hx => inv_markR (h2 x hx)
  exact ⟨m, rfl, by have : CT.bytes 36 = 24 := rfl; rw [List.length_map, this] at h1; omega⟩
theorem inv_am {d : D} (h : HasTy CT 72 d) : ∃ a : AmountR, d = amD a ∧ i64ok a.n := by
  obtain ⟨l, rfl, hl⟩ := h.inv_struct ty72
  have hlen := hl.1
  match l, hl with
  | [a, b], hl =>
    obtain ⟨h1, hl⟩ := hl.head
    obtain ⟨h2, _⟩ := hl.head
    obtain ⟨m, rfl, _⟩ := inv_markR h1
    obtain ⟨n, rfl, hn⟩ := h2.inv_i64 ty3
    exact ⟨⟨m, n⟩, rfl, hn⟩
  | [], hl => exact absurd hlen (by simp)
  | [_], hl => exact absurd hlen (by simp)
  | _ :: _ :: _ :: _, hl => exact absurd hlen (by simp)
theorem inv_wr {d : D} (h : HasTy CT 64 d) : ∃ w : WriteR, d = wrD w ∧ i64ok w.time := by
  obtain ⟨l, rfl, hl⟩ := h.inv_struct ty64
  have hlen := hl.1
  match l, hl with
  | [a, b, c], hl =>
    obtain ⟨h1, hl⟩ := hl.head
    obtain ⟨h2, hl⟩ := hl.head
    obtain ⟨h3, _⟩ := hl.head
    obtain ⟨m, rfl, _⟩ := inv_markR h1
    obtain ⟨n, rfl, hn⟩ := h2.inv_i64 ty3
    obtain ⟨x, rfl, _⟩ := h3.inv_str ty9
    exact ⟨⟨m, n, x⟩, rfl, hn⟩
  | [], hl => exact absurd hlen (by simp)
  | [_], hl => exact absurd hlen (by simp)
  | [_, _], hl => exact absurd hlen (by simp)
  | _ :: _ :: _ :: _ :: _, hl => exact absurd hlen (by simp)
theorem inv_me {d : D} (h : HasTy CT 67 d) : ∃ m : MemberR, d = meD m ∧ m.marks.length ≤ 9000000000000 := by
  obtain ⟨l, rfl, hl⟩ := h.inv_struct ty67
  have hlen := hl.1
  match l, hl with
  | [a, b, c], hl =>
    obtain ⟨h1, hl⟩ := hl.head
    obtain ⟨h2, hl⟩ := hl.head
    obtain ⟨h3, _⟩ := hl.head
    obtain ⟨x, rfl, _⟩ := h1.inv_str ty9
    obtain ⟨b, rfl⟩ := h2.inv_bool ty4
    obtain ⟨m, rfl, hm⟩ := inv_marks h3
    exact ⟨⟨x, b, m⟩, rfl, hm⟩
  | [], hl => exact absurd hlen (by simp)
  | [_], hl => exact absurd hlen (by simp)
  | [_, _], hl => exact absurd hlen (by simp)
  | _ :: _ :: _ :: _ :: _, hl => exact absurd hlen (by simp)
theorem inv_el {d : D} (h : HasTy CT 69 d) : ∃ e : ElemR, d = elD e ∧ i64ok e.time ∧ e.gone.length ≤ 9000000000000 := by
  obtain ⟨l, rfl, hl⟩ := h.inv_struct ty69
  have hlen := hl.1
  match l, hl with
  | [a, b, c, e, f], hl =>
    obtain ⟨h1, hl⟩ := hl.head
    obtain ⟨h2, hl⟩ := hl.head
    obtain ⟨h3, hl⟩ := hl.head
    obtain ⟨h4, hl⟩ := hl.head
    obtain ⟨h5, _⟩ := hl.head
    obtain ⟨m, rfl, _⟩ := inv_markR h1
    obtain ⟨n, rfl, hn⟩ := h2.inv_i64 ty3
    obtain ⟨r, rfl, _⟩ := inv_markR h3
    obtain ⟨x, rfl, _⟩ := h4.inv_str ty9
    obtain ⟨g, rfl, hg⟩ := inv_marks h5
    exact ⟨⟨m, n, r, x, g⟩, rfl, hn, hg⟩
  | [], hl => exact absurd hlen (by simp)
  | [_], hl => exact absurd hlen (by simp)
  | [_, _], hl => exact absurd hlen (by simp)
  | [_, _, _], hl => exact absurd hlen (by simp)
  | [_, _, _, _], hl => exact absurd hlen (by simp)
  | _ :: _ :: _ :: _ :: _ :: _ :: _, hl => exact absurd hlen (by simp)
/-- What a cell of the machine's is, as data. -/
structure CellR.wide (c : CellR) : Prop where
  ok : c.ok
  base : i64ok c.base
  kind : i64ok c.kind
  am : ∀ a ∈ c.am, i64ok a.n
  wr : ∀ w ∈ c.wr, i64ok w.time
  me : ∀ m ∈ c.me, m.marks.length ≤ 9000000000000
  el : ∀ e ∈ c.el, i64ok e.time ∧ e.gone.length ≤ 9000000000000
theorem inv_cell {d : D} (h : HasTy CT 27 d) : ∃ c : CellR, d = cellD c ∧ c.wide := by
  obtain ⟨l, rfl, hl⟩ := h.inv_struct ty27
  have hlen := hl.1
  match l, hl with
  | [a, b, c, e, f, g], hl =>
    obtain ⟨h1, hl⟩ := hl.head
    obtain ⟨h2, hl⟩ := hl.head
    obtain ⟨h3, hl⟩ := hl.head
    obtain ⟨h4, hl⟩ := hl.head
    obtain ⟨h5, hl⟩ := hl.head
    obtain ⟨h6, _⟩ := hl.head
    obtain ⟨kind, rfl, hk⟩ := h1.inv_i64 ty3
    obtain ⟨base, rfl, hb⟩ := h2.inv_i64 ty3
    obtain ⟨l3, rfl, b3, t3⟩ := h3.inv_sliceB ty22
    obtain ⟨m3, rfl, q3⟩ := all_of (enc := amD) (Q := fun a => i64ok a.n) fun x hx => inv_am (t3 x hx)
    obtain ⟨l4, rfl, b4, t4⟩ := h4.inv_sliceB ty23
    obtain ⟨m4, rfl, q4⟩ := all_of (enc := wrD) (Q := fun w => i64ok w.time) fun x hx => inv_wr (t4 x hx)
    obtain ⟨l5, rfl, b5, t5⟩ := h5.inv_sliceB ty24
    obtain ⟨m5, rfl, q5⟩ := all_of (enc := meD) (Q := fun m => m.marks.length ≤ 9000000000000) fun x hx => inv_me (t5 x hx)
    obtain ⟨l6, rfl, b6, t6⟩ := h6.inv_sliceB ty25
    obtain ⟨m6, rfl, q6⟩ := all_of (enc := elD) (Q := fun e => i64ok e.time ∧ e.gone.length ≤ 9000000000000) fun x hx => inv_el (t6 x hx)
    have y3 : 32 ≤ CT.bytes 72 := by decide
    have y4 : 32 ≤ CT.bytes 64 := by decide
    have y5 : 32 ≤ CT.bytes 67 := by decide
    have y6 : 32 ≤ CT.bytes 69 := by decide
    rw [List.length_map] at b3 b4 b5 b6
    have key : ∀ n b : Nat, n * b ≤ 140737488351232 → 32 ≤ b → n ≤ 4398046511104 := fun n b h1 h2 => by
      have : n * 32 ≤ n * b := Nat.mul_le_mul_left _ h2
      omega
    exact ⟨⟨kind, base, m3, m4, m5, m6⟩, rfl, ⟨key _ _ b3 y3, key _ _ b4 y4, key _ _ b5 y5, key _ _ b6 y6⟩, hb, hk, q3, q4, q5, q6⟩
  | [], hl => exact absurd hlen (by simp)
  | [_], hl => exact absurd hlen (by simp)
  | [_, _], hl => exact absurd hlen (by simp)
  | [_, _, _], hl => exact absurd hlen (by simp)
  | [_, _, _, _], hl => exact absurd hlen (by simp)
  | [_, _, _, _, _], hl => exact absurd hlen (by simp)
  | _ :: _ :: _ :: _ :: _ :: _ :: _ :: _, hl => exact absurd hlen (by simp)
end Go.Ab
set_option linter.unusedSimpArgs false
namespace Go.Ab
open Go.Proofs

/-- A set that is not great. -/
def SmS (a b : Nat) (c : CellR) : Prop := c.me.length ≤ a ∧ ∀ m ∈ c.me, m.marks.length ≤ b
def SideS (c d : CellR) : Prop := d.kind = c.kind ∧ d.base = c.base ∧ d.am = c.am ∧ d.wr = c.wr ∧ d.el = c.el
theorem woMe_len {t : TxR} {i : Int} {s : ByteArray} {all : Bool} {m y : MemberR} (h : woMe t i s all m = some y) : y.marks.length ≤ m.marks.length := by
  unfold woMe at h
  split at h
  · split at h
    · cases h
    · cases h; exact kept_len _ _
  · cases h; exact Nat.le_refl _
theorem woS_sm {a b : Nat} {c : CellR} (h : SmS a b c) (t : TxR) (i : Int) (s : ByteArray) (all : Bool) : SmS a b (woS c t i s all) := by
  refine ⟨Nat.le_trans (fm_len _ _) h.1, fun m hm => ?_⟩
  obtain ⟨x, hx, hy⟩ := List.mem_filterMap.1 hm
  exact Nat.le_trans (woMe_len hy) (h.2 x hx)
theorem clearS_sm {a b : Nat} {c : CellR} (h : SmS a b c) (t : TxR) (i : Int) : SmS a b (clearS c t i) := by
  unfold clearS; split
  · exact h
  · exact woS_sm h _ _ _ _
theorem clearS_side (c : CellR) (t : TxR) (i : Int) : SideS c (clearS c t i) := by
  unfold clearS; split <;> exact ⟨rfl, rfl, rfl, rfl, rfl⟩

def t10 : TxR := ⟨1, 1, zeros 13, 0, []⟩
def f10 : CellR := ⟨4, 0, [], [], [⟨a09, true, []⟩, ⟨b09, true, []⟩], []⟩
end Go.Ab
set_option linter.unusedSimpArgs false
namespace Go.Ab
open Go.Proofs

end Go.Ab
