/- Registers: the data, and which mark is ahead. Conditions: none. -/
import Derived.Test.YtehcjnendfpbaaaGreatPlA
import Derived.Test.YtehcjnendfpbaaaGreatRoA
set_option linter.unusedSimpArgs false
namespace Go.Ab
open Go.Proofs

theorem ref_less (a b : MarkR) : PSpec Tryz.prog CT 56 [a.d, b.d] (· = .bool (markLt a b)) := by
  refine PSpec.of hT Tryz.func56 rfl (by kernel_rfl) rfl rfl ?_
  simp only [Tryz.f56, go_sem, simprocAttr]
  (repeat' (first | ((refine guardK_split (fun hg => ?_) (fun hg => ?_)) <;> (try simp only [go_sem, simprocAttr, hg])) | ((refine condK_split (fun hg => ?_) (fun hg => ?_)) <;> (try simp only [go_sem, simprocAttr, hg])) | ((refine Or.inl ⟨by kernel_rfl, ?_⟩) <;> (try simp only [go_sem, simprocAttr])))) <;> (first | done | (simp_all [markLt]; done) | (simp_all [markLt]; omega) | (simp_all [markLt]; intros; omega) | (simp_all [markLt]; grind))

def cmpI (a b : Int) : Int := if a < b then -1 else if b < a then 1 else 0
theorem cmp_isNaN (x : Int) : PSpec Tryz.prog CT 122 [.lit (.int .i64 x)] (· = .bool false) := by
  refine PSpec.of hT Tryz.func122 rfl (by kernel_rfl) rfl rfl ?_
  simp only [Tryz.f122, go_sem, simprocAttr, decide_true, Bool.not_true]
theorem cmp_compare (a b : Int) : PSpec Tryz.prog CT 120 [.lit (.int .i64 a), .lit (.int .i64 b)] (· = .lit (.int .i64 (cmpI a b))) := by
  refine PSpec.of hT Tryz.func120 rfl (by kernel_rfl) rfl rfl ?_
  simp only [Tryz.f120, go_sem, simprocAttr]
  (repeat' (first | ((refine guardK_split (fun hg => ?_) (fun hg => ?_)) <;> (try simp only [go_sem, simprocAttr, hg])) | ((refine condK_split (fun hg => ?_) (fun hg => ?_)) <;> (try simp only [go_sem, simprocAttr, hg])) | ((first | apply callK_pure (cmp_isNaN _) | apply callD_pure (cmp_isNaN _)); (iterate 2 (focus (first | rfl | (simp only [go_sem]; done)))); try simp only [go_sem, simprocAttr]) | ((refine Or.inl ⟨by kernel_rfl, ?_⟩) <;> (try simp only [go_sem, simprocAttr])))) <;> (first | done | (simp_all [cmpI]; done) | (simp_all [cmpI]; omega) | (simp_all [cmpI]; intros; omega) | (simp_all [cmpI]; grind))

def orI (l : List Int) : Int := (l.find? fun x => !decide (x = 0)).getD 0
theorem orI_at {l : List Int} {k : Nat} (hk : k < l.length) (h0 : ∀ p, p < k → l.getD p 0 = 0) (h : l.getD k 0 ≠ 0) : orI l = l.getD k 0 := by
  induction l generalizing k with
  | nil => simp at hk
  | cons x r ih =>
    cases k with
    | zero =>
      have hx : x ≠ 0 := by simpa using h
      simp [orI, hx]
    | succ k =>
      have hx : x = 0 := by simpa using h0 0 (by omega)
      have := ih (k := k) (by simpa using hk) (fun p hp => by simpa using h0 (p + 1) (by omega)) (by simpa using h)
      simp only [orI] at this ⊢
      simp [hx, this]
theorem orI_none {l : List Int} (h0 : ∀ p, p < l.length → l.getD p 0 = 0) : orI l = 0 := by
  have : (l.find? fun x => !decide (x = 0)) = none := by
    rw [List.find?_eq_none]
    intro x hx
    obtain ⟨i, hi, rfl⟩ := List.getElem_of_mem hx
    have := h0 i hi
    simp only [List.getD_eq_getElem?_getD, List.getElem?_eq_getElem hi, Option.getD_some] at this
    simp [this]
  simp [orI, this]
theorem cmp_or (l : List Int) (hl : l.length < 4000000000) : PSpec Tryz.prog CT 119 [intsL l .no] (· = .lit (.int .i64 (orI l))) := by
  refine PSpec.of hT Tryz.func119 rfl (by kernel_rfl) rfl rfl ?_
  simp only [Tryz.f119, go_sem, simprocAttr, intsL]
  refine awp_loop (fun n s => ∃ (k : Nat) (g : Nat → D), s = ⟨[g 0, g 1, g 2, .lit (.int .i64 0), g 4, g 5, intsL l .no, .lit (.int .i64 l.length), .lit (.int .i64 k), g 9, g 10, g 11, g 12, g 13, g 14, g 15, g 16, g 17], ⟨[], []⟩⟩ ∧ n = l.length - k ∧ k ≤ l.length ∧ ∀ p, p < k → l.getD p 0 = 0) l.length ⟨0, reg_intro rfl rfl ⟨by simp, by omega, by simp⟩⟩ ?_
  rintro n s ⟨k, g, rfl, hn, hk, hp⟩
  simp only [go_sem, simprocAttr, intsL]
  refine condK_split (fun hc => ?_) (fun hc => ?_)
  · have hk' : k < l.length := by have := of_decide_eq_true hc; omega
    simp only [go_sem, simprocAttr, hk', get_ints]
    refine condK_split (fun h1 => ?_) (fun h1 => ?_)
    · simp only [go_sem, simprocAttr]
      rw [orI_at hk' hp (by simpa using h1)]
    · simp only [go_sem, simprocAttr, wrapNat k (by omega)]
      refine ⟨l.length - (k + 1), by omega, k + 1, reg_intro rfl rfl ⟨rfl, by omega, fun p hpk => ?_⟩⟩
      by_cases e : p = k
      · subst e; simpa using h1
      · exact hp p (by omega)
  · have hi := of_decide_eq_false hc
    obtain rfl : k = l.length := by omega
    simp only [go_sem, simprocAttr, orI_none hp]

theorem markLt_cmp (a b : MarkR) : decide (orI [cmpI a.p b.p, cmpI a.s b.s, cmpI a.i b.i] < 0) = markLt a b := by
  have h3 : ∀ x y z : Int, orI [x, y, z] = if x ≠ 0 then x else if y ≠ 0 then y else z := by
    intro x y z
    by_cases hx : x = 0 <;> by_cases hy : y = 0 <;> by_cases hz : z = 0 <;> simp [orI, hx, hy, hz]
  rw [h3, Bool.eq_iff_iff]
  simp only [markLt, cmpI, Bool.or_eq_true, Bool.and_eq_true, decide_eq_true_eq]
  grind
set_option maxRecDepth 8000 in
theorem ops_less (a b : MarkR) : PSpec Tryz.prog CT 115 [a.d, b.d] (· = .bool (markLt a b)) := by
  refine PSpec.of hT Tryz.func115 rfl (by kernel_rfl) rfl rfl ?_
  simp only [Tryz.f115, go_sem, simprocAttr]
  rw [← markLt_cmp]
  refine .inl ⟨by kernel_rfl, ?_⟩
  refine callD_pure (cmp_compare _ _) rfl (by simp only [go_sem, simprocAttr]) ?_
  simp only [go_sem, simprocAttr]
  refine callD_pure (cmp_compare _ _) rfl (by simp only [go_sem, simprocAttr]) ?_
  simp only [go_sem, simprocAttr]
  refine callD_pure (cmp_compare _ _) rfl (by simp only [go_sem, simprocAttr]) ?_
  simp only [go_sem, simprocAttr]
  refine callD_pure (cmp_or [cmpI a.p b.p, cmpI a.s b.s, cmpI a.i b.i] (by simp)) (by simp only [go_sem, simprocAttr, intsL, List.map_cons, List.map_nil]) (by simp only [go_sem, simprocAttr]) ?_
  simp only [go_sem, simprocAttr]
end Go.Ab
