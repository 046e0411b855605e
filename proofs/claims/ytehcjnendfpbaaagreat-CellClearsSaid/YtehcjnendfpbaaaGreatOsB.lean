/- Sets: which may be, in the program and in the document. Conditions: none. -/
import Derived.Test.YtehcjnendfpbaaaGreatOsA
import Derived.Test.YtehcjnendfpbaaaGreatReA
import Derived.Test.YtehcjnendfpbaaaGreatReC
import Derived.Test.YtehcjnendfpbaaaGreatOpD
set_option linter.unusedSimpArgs false
namespace Go.Ab
open Go.Proofs

theorem get_mk (l : List MarkR) (k : Nat) (h : (k < l.length) = True) : (l.map MarkR.d)[k]? = some (MarkR.d (l.getD k default)) := get_enc _ _ _ h
theorem get_mk1 (l : List MarkR) (k : Nat) (h : (k < l.length) = True) : (l.map MarkR.d)[k - 1]? = some (MarkR.d (l.getD (k - 1) default)) := get_enc _ _ _ (by have := of_eq_true h; simp; omega)
theorem get_me1 (c : CellR) (k : Nat) (h : (k < c.me.length) = True) : (c.me.map meD)[k - 1]? = some (meD (meAt c (k - 1))) := get_enc _ _ _ (by have := of_eq_true h; simp; omega)
theorem leq_txt (a b : ByteArray) : (Op.bytesLess a.toList b.toList || decide (a = b)) = !bLt b a := by
  rw [Bool.eq_iff_iff]
  simp only [Bool.or_eq_true, decide_eq_true_eq, Bool.not_eq_true']
  constructor
  · rintro (h | rfl)
    · cases hb : bLt b a with
      | false => rfl
      | true => have := bLt_trans (show bLt a b = true from h) hb; rw [bLt_irr] at this; cases this
    · exact bLt_irr a
  · intro h
    by_cases e : a = b
    · exact .inr e
    · exact .inl (bLt_total h fun e2 => e e2.symm)
def okMk (l : List MarkR) (k : Nat) : Bool := decide (1 ≤ (l.getD k default).i) && (decide (k = 0) || markLt (l.getD (k - 1) default) (l.getD k default))
theorem risingM_eq (l : List MarkR) : risingM l = (List.range l.length).all (okMk l) := rfl

set_option maxRecDepth 8000 in
theorem orset_rising (l : List MarkR) (hl : l.length < 4000000000) : PSpec Tryz.prog CT 178 [marksD l .no] (· = .bool (risingM l)) := by
  refine PSpec.of hT Tryz.func178 rfl (by kernel_rfl) rfl rfl ?_
  simp only [Tryz.f178, go_sem, simprocAttr]
  refine awp_loop (fun n s => ∃ (k : Nat) (ex : List (Sh × D)) (g : Nat → D), s = ⟨[marksD l .no, g 1, g 2, g 3, g 4, marksD l .no, .lit (.int .i64 l.length), .lit (.int .i64 k), g 8, g 9, g 10, g 11, g 12, g 13, g 14, g 15, g 16, g 17, g 18, g 19, g 20, g 21, g 22, g 23, g 24, g 25, g 26, g 27, g 28, g 29], ⟨ex, []⟩⟩ ∧ n = l.length - k ∧ k ≤ l.length ∧ ∀ p, p < k → okMk l p = true) l.length ⟨0, _, reg_intro rfl rfl ⟨by simp, by omega, by simp⟩⟩ ?_
  rintro n st ⟨k, ex, g, rfl, hn, hk, hp⟩
  simp only [go_sem, simprocAttr]
  refine condK_split (fun hc => ?_) (fun hc => ?_)
  · have hk' : k < l.length := by have := of_decide_eq_true hc; omega
    have hk1 : k - 1 < l.length := by omega
    have bad : okMk l k = false → risingM l = false := fun h => by rw [risingM_eq]; exact all_bad hk' h
    have hws : decide (0 < (k : Int)) = true → IntKind.i64.wrap ((k : Int) - 1) = ((k - 1 : Nat) : Int) := fun h => by
      have := of_decide_eq_true h
      rw [wrap64] <;> omega
    simp only [go_sem, simprocAttr, hk', get_mk]
    refine .inl ⟨by kernel_rfl, ?_⟩
    (repeat' (first | ((refine guardK_split (fun hg => ?_) (fun hg => ?_)) <;> (try simp only [go_sem, simprocAttr, hg, hk', hk1, get_mk, get_mk1, hws, wrapNat k (by omega)])) | ((refine condK_split (fun hg => ?_) (fun hg => ?_)) <;> (try simp only [go_sem, simprocAttr, hg, hk', hk1, get_mk, get_mk1, hws, wrapNat k (by omega)])) | ((first | refine callK_pure (ops_less (l.getD (k - 1) default) (l.getD k default)) ?_ ?_ ?_ | refine callD_pure (ops_less (l.getD (k - 1) default) (l.getD k default)) ?_ ?_ ?_); (iterate 2 (focus (first | rfl | (simp only [go_sem, hk', hk1, get_mk, get_mk1, hws, wrapNat k (by omega)]; done)))); try simp only [go_sem, simprocAttr, hk', hk1, get_mk, get_mk1, hws, wrapNat k (by omega)]) | ((refine Or.inl ⟨by kernel_rfl, ?_⟩) <;> (try simp only [go_sem, simprocAttr, hk', hk1, get_mk, get_mk1, hws, wrapNat k (by omega)])))) <;> (first | done | (rw [bad (by first | (simp_all [okMk]; done) | (simp_all [okMk]; omega) | grind [okMk])]) | exact ⟨l.length - (k + 1), by omega, k + 1, _, reg_intro rfl rfl ⟨rfl, by omega, next_good hp (by first | (simp_all [okMk]; done) | (simp_all [okMk]; omega) | grind [okMk])⟩⟩)
  · have hi := of_decide_eq_false hc
    obtain rfl : k = l.length := by omega
    simp only [go_sem, simprocAttr, risingM_eq, all_good hp]
set_option maxRecDepth 8000 in
theorem ref10_rising (l : List MarkR) (hl : l.length < 4000000000) : PSpec Tryz.prog CT 57 [marksD l .no] (· = .bool (risingM l)) := by
  refine PSpec.of hT Tryz.func57 rfl (by kernel_rfl) rfl rfl ?_
  simp only [Tryz.f57, go_sem, simprocAttr]
  refine awp_loop (fun n s => ∃ (k : Nat) (g : Nat → D), s = ⟨[marksD l .no, g 1, g 2, .lit (.int .i64 k), g 4, g 5, g 6, g 7, g 8, g 9, g 10, g 11, g 12, g 13, g 14, g 15, g 16, g 17, g 18, g 19, g 20, g 21, g 22, g 23, g 24, g 25, g 26, g 27, g 28, g 29, g 30, g 31, g 32], ⟨[], []⟩⟩ ∧ n = l.length - k ∧ k ≤ l.length ∧ ∀ p, p < k → okMk l p = true) l.length ⟨0, reg_intro rfl rfl ⟨by simp, by omega, by simp⟩⟩ ?_
  rintro n st ⟨k, g, rfl, hn, hk, hp⟩
  simp only [go_sem, simprocAttr]
  refine condK_split (fun hc => ?_) (fun hc => ?_)
  · have hk' : k < l.length := by have := of_decide_eq_true hc; omega
    have hk1 : k - 1 < l.length := by omega
    have bad : okMk l k = false → risingM l = false := fun h => by rw [risingM_eq]; exact all_bad hk' h
    have hws : decide (0 < (k : Int)) = true → IntKind.i64.wrap ((k : Int) - 1) = ((k - 1 : Nat) : Int) := fun h => by
      have := of_decide_eq_true h
      rw [wrap64] <;> omega
    simp only [go_sem, simprocAttr, hk', get_mk]
    refine .inl ⟨by kernel_rfl, ?_⟩
    (repeat' (first | ((refine guardK_split (fun hg => ?_) (fun hg => ?_)) <;> (try simp only [go_sem, simprocAttr, hg, hk', hk1, get_mk, get_mk1, hws, wrapNat k (by omega)])) | ((refine condK_split (fun hg => ?_) (fun hg => ?_)) <;> (try simp only [go_sem, simprocAttr, hg, hk', hk1, get_mk, get_mk1, hws, wrapNat k (by omega)])) | ((first | refine callK_pure (ref_less (l.getD (k - 1) default) (l.getD k default)) ?_ ?_ ?_ | refine callD_pure (ref_less (l.getD (k - 1) default) (l.getD k default)) ?_ ?_ ?_); (iterate 2 (focus (first | rfl | (simp only [go_sem, hk', hk1, get_mk, get_mk1, hws, wrapNat k (by omega)]; done)))); try simp only [go_sem, simprocAttr, hk', hk1, get_mk, get_mk1, hws, wrapNat k (by omega)]) | ((refine Or.inl ⟨by kernel_rfl, ?_⟩) <;> (try simp only [go_sem, simprocAttr, hk', hk1, get_mk, get_mk1, hws, wrapNat k (by omega)])))) <;> (first | done | (rw [bad (by first | (simp_all [okMk]; done) | (simp_all [okMk]; omega) | grind [okMk])]) | exact ⟨l.length - (k + 1), by omega, k + 1, reg_intro rfl rfl ⟨rfl, by omega, next_good hp (by first | (simp_all [okMk]; done) | (simp_all [okMk]; omega) | grind [okMk])⟩⟩)
  · have hi := of_decide_eq_false hc
    obtain rfl : k = l.length := by omega
    simp only [go_sem, simprocAttr, risingM_eq, all_good hp]

theorem meAt_L (c : CellR) (k : Nat) : meAt c k = meAtL c.me k := rfl
set_option maxRecDepth 8000 in
set_option maxHeartbeats 2000000 in
theorem orset_check (c : CellR) (hw : c.me.length < 4000000000) (hm : ∀ m ∈ c.me, m.marks.length < 4000000000) : PSpec Tryz.prog CT 172 [cellD c] (· = .bool (checkS c)) := by
  refine PSpec.of hT Tryz.func172 rfl (by kernel_rfl) rfl rfl ?_
  simp only [Tryz.f172, go_sem, simprocAttr]
  have bad1 : ¬ (c.kind = 4 ∧ c.base = 0 ∧ c.am.length = 0 ∧ c.wr.length = 0 ∧ c.el.length = 0) → checkS c = false := fun h => by
    have : shapeS c = false := by
      cases hs : shapeS c with
      | false => rfl
      | true => exact absurd (by simpa [shapeS, and_assoc] using hs) h
    simp only [checkS, this, Bool.false_and]
  (repeat' (first | ((refine guardK_split (fun hg => ?_) (fun hg => ?_)) <;> (try simp only [go_sem, simprocAttr, hg])) | ((refine condK_split (fun hg => ?_) (fun hg => ?_)) <;> (try simp only [go_sem, simprocAttr, hg])) | ((refine Or.inl ⟨by kernel_rfl, ?_⟩) <;> (try simp only [go_sem, simprocAttr])))) <;> (first | done | (rw [bad1 (by simp only [decide_eq_true_eq, decide_eq_false_iff_not, Bool.not_eq_true', Bool.not_eq_false', Bool.not_eq_eq_eq_not, Bool.not_true, Bool.not_false] at *; omega)]) | skip)
  all_goals
    have hs : shapeS c = true := by
      simp only [shapeS, Bool.and_eq_true, Bool.or_eq_true, decide_eq_true_eq]
      simp only [decide_eq_true_eq, decide_eq_false_iff_not, Bool.not_eq_true', Bool.not_eq_false', Bool.not_eq_eq_eq_not, Bool.not_true, Bool.not_false] at *
      omega
    refine awp_loop (fun n s => ∃ (k : Nat) (ex : List (Sh × D)) (g : Nat → D), s = ⟨[g 0, .ptr 0 [], g 2, g 3, g 4, g 5, g 6, g 7, g 8, g 9, g 10, g 11, g 12, g 13, g 14, g 15, g 16, g 17, g 18, g 19, g 20, g 21, g 22, g 23, g 24, g 25, g 26, g 27, g 28, g 29, g 30, g 31, g 32, .lst 67 (c.me.map meD) .no, .lit (.int .i64 c.me.length), .lit (.int .i64 k), g 36, g 37, g 38, g 39, g 40, g 41, g 42, g 43, g 44, g 45, g 46, g 47, g 48, g 49, g 50, g 51, g 52, g 53, g 54, g 55, g 56, g 57, g 58, g 59, g 60, g 61, g 62, g 63, g 64, g 65, g 66, g 67, g 68, g 69, g 70, g 71, g 72, g 73, g 74, g 75, g 76, g 77, g 78], ⟨((.pair .leaf (.pair .leaf (.pair .leaf (.pair .leaf (.pair .leaf (.pair .leaf .unit)))))), cellD c) :: ex, []⟩⟩ ∧ n = c.me.length - k ∧ k ≤ c.me.length ∧ ∀ p, p < k → okMe c.me p = true) c.me.length ⟨0, _, reg_intro rfl rfl ⟨by simp, by omega, by simp⟩⟩ ?_
    rintro n s ⟨k, ex, g, rfl, hn, hk, hp⟩
    simp only [go_sem, simprocAttr]
    refine condK_split (fun hc => ?_) (fun hc => ?_)
    · have hk' : k < c.me.length := by have := of_decide_eq_true hc; omega
      have bad : okMe c.me k = false → checkS c = false := fun h => by simp only [checkS, all_bad hk' h, Bool.and_false]
      simp only [go_sem, simprocAttr, hk', get_me]
      have hk1 : k - 1 < c.me.length := by omega
      have hmk : (meAt c k).marks.length < 4000000000 := hm _ (by rw [meAt, List.getD_eq_getElem?_getD, List.getElem?_eq_getElem hk']; exact List.getElem_mem hk')
      have hws : decide (0 < (k : Int)) = true → IntKind.i64.wrap ((k : Int) - 1) = ((k - 1 : Nat) : Int) := fun h => by
        have := of_decide_eq_true h
        rw [wrap64] <;> omega
      clear hs bad1
      refine guardK_split (fun hb => ?_) (fun hb => ?_)
      all_goals
        try simp only [go_sem, simprocAttr, hb]
        refine .inl ⟨by kernel_rfl, ?_⟩
        (repeat' (first | ((refine guardK_split (fun hg => ?_) (fun hg => ?_)) <;> (try simp only [go_sem, simprocAttr, hg, hk', hk1, hb, get_me, get_me1, hws, leq_txt, wrapNat k (by omega)])) | ((refine condK_split (fun hg => ?_) (fun hg => ?_)) <;> (try simp only [go_sem, simprocAttr, hg, hk', hk1, hb, get_me, get_me1, hws, leq_txt, wrapNat k (by omega)])) | ((first | refine callK_pure (orset_rising (meAt c k).marks hmk) ?_ ?_ ?_ | refine callD_pure (orset_rising (meAt c k).marks hmk) ?_ ?_ ?_); (iterate 2 (focus (first | rfl | (simp only [go_sem, hk', hk1, hb, get_me, get_me1, hws, leq_txt, wrapNat k (by omega)]; done)))); try simp only [go_sem, simprocAttr, hk', hk1, hb, get_me, get_me1, hws, leq_txt, wrapNat k (by omega)]) | ((refine Or.inl ⟨by kernel_rfl, ?_⟩) <;> (try simp only [go_sem, simprocAttr, hk', hk1, hb, get_me, get_me1, hws, leq_txt, wrapNat k (by omega)])))) <;> (first | done | (rw [bad (by first | (simp_all [okMe, meAt_L]; done) | (simp_all [okMe, meAt_L]; omega) | grind [okMe, meAt_L])]) | exact ⟨c.me.length - (k + 1), by omega, k + 1, _, reg_intro rfl rfl ⟨rfl, by omega, next_good hp (by first | (simp_all [okMe, meAt_L]; done) | (simp_all [okMe, meAt_L]; omega) | grind [okMe, meAt_L])⟩⟩)
    · have hi := of_decide_eq_false hc
      obtain rfl : k = c.me.length := by omega
      have : checkS c = true := by simp only [checkS, hs, all_good hp, Bool.and_true]
      simp only [go_sem, simprocAttr, this]
end Go.Ab
set_option linter.unusedSimpArgs false
namespace Go.Ab
open Go.Proofs

set_option maxRecDepth 8000 in
set_option maxHeartbeats 2000000 in
theorem ref10_check (c : CellR) (hw : c.me.length < 1000000000) (ha : c.am.length < 1000000000) (hwr : c.wr.length < 1000000000) (he : c.el.length < 1000000000) (hm : ∀ m ∈ c.me, m.marks.length < 4000000000) : PSpec Tryz.prog CT 31 [cellD c] (· = .bool (checkS c)) := by
  refine PSpec.of hT Tryz.func31 rfl (by kernel_rfl) rfl rfl ?_
  have w1 : IntKind.i64.wrap ((c.am.length : Int) + (c.wr.length : Int)) = ((c.am.length + c.wr.length : Nat) : Int) := by rw [wrap64] <;> omega
  have w2 : IntKind.i64.wrap (((c.am.length + c.wr.length : Nat) : Int) + (c.el.length : Int)) = ((c.am.length + c.wr.length + c.el.length : Nat) : Int) := by rw [wrap64] <;> omega
  simp only [Tryz.f31, go_sem, simprocAttr, w1, w2]
  have bad1 : ¬ (c.kind = 4 ∧ c.base = 0 ∧ c.am.length = 0 ∧ c.wr.length = 0 ∧ c.el.length = 0) → checkS c = false := fun h => by
    have : shapeS c = false := by
      cases hs : shapeS c with
      | false => rfl
      | true => exact absurd (by simpa [shapeS, and_assoc] using hs) h
    simp only [checkS, this, Bool.false_and]
  (repeat' (first | ((refine guardK_split (fun hg => ?_) (fun hg => ?_)) <;> (try simp only [go_sem, simprocAttr, hg, w1, w2])) | ((refine condK_split (fun hg => ?_) (fun hg => ?_)) <;> (try simp only [go_sem, simprocAttr, hg, w1, w2])) | ((refine Or.inl ⟨by kernel_rfl, ?_⟩) <;> (try simp only [go_sem, simprocAttr, w1, w2])))) <;> (first | done | (rw [bad1 (by simp only [decide_eq_true_eq, decide_eq_false_iff_not, Bool.not_eq_true', Bool.not_eq_false', Bool.not_eq_eq_eq_not, Bool.not_true, Bool.not_false] at *; omega)]) | skip)
  all_goals
    have hs : shapeS c = true := by
      simp only [shapeS, Bool.and_eq_true, Bool.or_eq_true, decide_eq_true_eq]
      simp only [decide_eq_true_eq, decide_eq_false_iff_not, Bool.not_eq_true', Bool.not_eq_false', Bool.not_eq_eq_eq_not, Bool.not_true, Bool.not_false] at *
      omega
    refine awp_loop (fun n s => ∃ (k : Nat) (ex : List (Sh × D)) (g : Nat → D), s = ⟨[g 0, .ptr 0 [], g 2, .lit (.int .i64 k), g 4, g 5, g 6, g 7, g 8, g 9, g 10, g 11, g 12, g 13, g 14, g 15, g 16, g 17, g 18, g 19, g 20, g 21, g 22, g 23, g 24, g 25, g 26, g 27, g 28, g 29, g 30, g 31, g 32, g 33, g 34, g 35, g 36, g 37, g 38, g 39, g 40, g 41, g 42, g 43, g 44, g 45, g 46, g 47, g 48, g 49, g 50, g 51, g 52, g 53, g 54, g 55, g 56, g 57, g 58, g 59, g 60, g 61, g 62, g 63, g 64, g 65, g 66, g 67, g 68, g 69, g 70, g 71, g 72, g 73, g 74, g 75], ⟨((.pair .leaf (.pair .leaf (.pair .leaf (.pair .leaf (.pair .leaf (.pair .leaf .unit)))))), cellD c) :: ex, []⟩⟩ ∧ n = c.me.length - k ∧ k ≤ c.me.length ∧ ∀ p, p < k → okMe c.me p = true) c.me.length ⟨0, _, reg_intro rfl rfl ⟨by simp, by omega, by simp⟩⟩ ?_
    rintro n s ⟨k, ex, g, rfl, hn, hk, hp⟩
    simp only [go_sem, simprocAttr]
    refine condK_split (fun hc => ?_) (fun hc => ?_)
    · have hk' : k < c.me.length := by have := of_decide_eq_true hc; omega
      have bad : okMe c.me k = false → checkS c = false := fun h => by simp only [checkS, all_bad hk' h, Bool.and_false]
      simp only [go_sem, simprocAttr, hk', get_me]
      have hk1 : k - 1 < c.me.length := by omega
      have hmk : (meAt c k).marks.length < 4000000000 := hm _ (by rw [meAt, List.getD_eq_getElem?_getD, List.getElem?_eq_getElem hk']; exact List.getElem_mem hk')
      have hws : decide (0 < (k : Int)) = true → IntKind.i64.wrap ((k : Int) - 1) = ((k - 1 : Nat) : Int) := fun h => by
        have := of_decide_eq_true h
        rw [wrap64] <;> omega
      clear hs bad1
      refine .inl ⟨by kernel_rfl, ?_⟩
      (repeat' (first | ((refine guardK_split (fun hg => ?_) (fun hg => ?_)) <;> (try simp only [go_sem, simprocAttr, hg, hk', hk1, get_me, get_me1, hws, leq_txt, wrapNat k (by omega)])) | ((refine condK_split (fun hg => ?_) (fun hg => ?_)) <;> (try simp only [go_sem, simprocAttr, hg, hk', hk1, get_me, get_me1, hws, leq_txt, wrapNat k (by omega)])) | ((first | refine callK_pure (ref10_rising (meAt c k).marks hmk) ?_ ?_ ?_ | refine callD_pure (ref10_rising (meAt c k).marks hmk) ?_ ?_ ?_); (iterate 2 (focus (first | rfl | (simp only [go_sem, hk', hk1, get_me, get_me1, hws, leq_txt, wrapNat k (by omega)]; done)))); try simp only [go_sem, simprocAttr, hk', hk1, get_me, get_me1, hws, leq_txt, wrapNat k (by omega)]) | ((refine Or.inl ⟨by kernel_rfl, ?_⟩) <;> (try simp only [go_sem, simprocAttr, hk', hk1, get_me, get_me1, hws, leq_txt, wrapNat k (by omega)])))) <;> (first | done | (rw [bad (by first | (simp_all [okMe, meAt_L]; done) | (simp_all [okMe, meAt_L]; omega) | grind [okMe, meAt_L])]) | exact ⟨c.me.length - (k + 1), by omega, k + 1, _, reg_intro rfl rfl ⟨rfl, by omega, next_good hp (by first | (simp_all [okMe, meAt_L]; done) | (simp_all [okMe, meAt_L]; omega) | grind [okMe, meAt_L])⟩⟩)
    · have hi := of_decide_eq_false hc
      obtain rfl : k = c.me.length := by omega
      have : checkS c = true := by simp only [checkS, hs, all_good hp, Bool.and_true]
      simp only [go_sem, simprocAttr, this]

theorem read_snoc (c : CellR) {k : Nat} (hk : k < c.me.length) : (c.me.take (k + 1)).map (·.text) = (c.me.take k).map (·.text) ++ [(meAt c k).text] := by
  rw [take_snocG c.me k hk]; simp [meAt]
end Go.Ab
set_option linter.unusedSimpArgs false
namespace Go.Ab
open Go.Proofs

abbrev val4 (o : List ByteArray) (u : Tok) : D := .agg [.lit (.int .i64 4), .lit (.int .i64 0), textsD o u, .lst 83 [] .full]
set_option maxRecDepth 8000 in
set_option maxHeartbeats 1000000 in
theorem orset_read (c : CellR) (hw : c.me.length < 100000000) (hm : ∀ m ∈ c.me, m.marks.length < 4000000000) : PSpec Tryz.prog CT 177 [cellD c] (· = valD (readS c)) := by
  refine PSpec.of hT Tryz.func177 rfl (by kernel_rfl) rfl rfl ?_
  simp only [Tryz.f177, go_sem, simprocAttr]
  refine callK_pure (args' := [cellD c]) (orset_check c (by omega) hm) (by first | rfl | (simp only [go_sem]; done)) (by first | (simp only [go_sem]; done) | (simp [pureL, pureD]; done)) ?_
  simp only [go_sem, simprocAttr]
  refine condK_split (fun h1 => ?_) (fun h1 => ?_)
  · have hc : checkS c = false := by simpa using h1
    have hr : readS c = ⟨0, 0, []⟩ := by rw [readS, if_pos hc]
    simp only [go_sem, simprocAttr, hr, List.map_nil]
    rfl
  have hck : checkS c = true := by simpa using h1
  have hr : readS c = ⟨4, 0, c.me.map (·.text)⟩ := by rw [readS, if_neg (by rw [hck]; simp)]
  simp only [go_sem, simprocAttr]
  refine awp_loop (fun n s => ∃ (k : Nat) (o : List ByteArray) (u : Tok) (tk : List Bool) (ex : List (Sh × D)) (g : Nat → D), s = ⟨[g 0, .ptr 0 [], .ptr 1 [], .ptr 2 [], g 4, g 5, g 6, g 7, g 8, g 9, g 10, g 11, .lst 67 (c.me.map meD) .no, .lit (.int .i64 c.me.length), .lit (.int .i64 k), g 15, g 16, g 17, g 18, g 19, g 20, g 21, g 22, g 23, g 24, g 25, g 26], ⟨((.pair .leaf (.pair .leaf (.pair .leaf (.pair .leaf (.pair .leaf (.pair .leaf .unit)))))), cellD c) :: ((.pair .leaf (.pair .leaf (.pair .leaf (.pair .leaf .unit)))), CT.zero 55) :: ((.pair .leaf (.pair .leaf (.pair .leaf (.pair .leaf .unit)))), val4 o u) :: ex, tk⟩⟩ ∧ n = c.me.length - k ∧ k ≤ c.me.length ∧ live u tk ∧ o = (c.me.take k).map (·.text)) c.me.length ⟨0, [], .full, [], [], reg_intro rfl rfl ⟨by simp, by omega, trivial, by simp⟩⟩ ?_
  rintro n st ⟨k, o, u, tk, ex, g, rfl, hn, hk, hu, ho⟩
  simp only [go_sem, simprocAttr]
  refine condK_split (fun hc => ?_) (fun hc => ?_)
  · have hk' : k < c.me.length := by have := of_decide_eq_true hc; omega
    have hol : o.length ≤ k := by rw [ho]; simp; omega
    simp only [go_sem, simprocAttr, hk', get_me]
    refine appK_live _ _ _ _ _ _ _ _ _ _ hu (by simp) (by simp only [go_sem, simprocAttr]) (by simp only [go_sem, simprocAttr]; omega) (fun u' tk' hu' => ?_)
    simp only [go_sem, simprocAttr, txt_snoc, wrapNat k (by omega)]
    exact ⟨c.me.length - (k + 1), by omega, k + 1, o ++ [(meAt c k).text], u', tk', _, reg_intro rfl rfl ⟨rfl, by omega, hu', by rw [read_snoc c hk', ho]⟩⟩
  · have hi := of_decide_eq_false hc
    obtain rfl : k = c.me.length := by omega
    rw [List.take_length] at ho
    subst ho
    simp only [go_sem, simprocAttr, hr]
end Go.Ab
