/- Registers: cells that are not great. Conditions: none. -/
import Derived.Test.YtehcjnendfpbaaaGreatReA
set_option linter.unusedSimpArgs false
namespace Go.Ab
open Go.Proofs

def wrAt (c : CellR) (k : Nat) : WriteR := c.wr.getD k default
def meAt (c : CellR) (k : Nat) : MemberR := c.me.getD k default
def elAt (c : CellR) (k : Nat) : ElemR := c.el.getD k default
theorem get_wr (c : CellR) (k : Nat) (h : (k < c.wr.length) = True) : (c.wr.map wrD)[k]? = some (wrD (wrAt c k)) := get_enc _ _ _ h
theorem get_me (c : CellR) (k : Nat) (h : (k < c.me.length) = True) : (c.me.map meD)[k]? = some (meD (meAt c k)) := get_enc _ _ _ h
theorem get_el (c : CellR) (k : Nat) (h : (k < c.el.length) = True) : (c.el.map elD)[k]? = some (elD (elAt c k)) := get_enc _ _ _ h
def fewW (c : CellR) (k : Nat) : Bool := decide (((wrAt c k).text.size : Int) ≤ 100)
def fewM (c : CellR) (k : Nat) : Bool := decide (((meAt c k).text.size : Int) ≤ 100) && decide (((meAt c k).marks.length : Int) ≤ 30)
def fewE (c : CellR) (k : Nat) : Bool := decide (((elAt c k).text.size : Int) ≤ 100) && decide (((elAt c k).gone.length : Int) ≤ 30)
def fewC (c : CellR) : Bool := decide (c.am.length + c.wr.length + c.me.length + c.el.length ≤ 60) && (List.range c.wr.length).all (fewW c) && (List.range c.me.length).all (fewM c) && (List.range c.el.length).all (fewE c)
theorem all_bad {n k : Nat} {f : Nat → Bool} (hk : k < n) (h : f k = false) : (List.range n).all f = false := by
  rw [List.all_eq_false]
  exact ⟨k, List.mem_range.2 hk, by rw [h]; simp⟩
theorem all_good {n : Nat} {f : Nat → Bool} (h : ∀ p, p < n → f p = true) : (List.range n).all f = true := by
  rw [List.all_eq_true]
  exact fun p hp => h p (List.mem_range.1 hp)
theorem next_good {k : Nat} {f : Nat → Bool} (hp : ∀ p, p < k → f p = true) (h : f k = true) : ∀ p, p < k + 1 → f p = true := fun p hpk => by
  by_cases e : p = k
  · subst e; exact h
  · exact hp p (by omega)

set_option maxRecDepth 8000 in
set_option maxHeartbeats 1000000 in
theorem ref_few08 (c : CellR) (ho : c.ok) : PSpec Tryz.prog CT 7 [cellD c] (· = .bool (fewC c)) := by
  obtain ⟨oa, ow, om, oe⟩ := ho
  refine PSpec.of hT Tryz.func7 rfl (by kernel_rfl) rfl rfl ?_
  have w1 : IntKind.i64.wrap ((c.am.length : Int) + (c.wr.length : Int)) = ((c.am.length + c.wr.length : Nat) : Int) := by rw [wrap64] <;> omega
  have w2 : IntKind.i64.wrap (((c.am.length + c.wr.length : Nat) : Int) + (c.me.length : Int)) = ((c.am.length + c.wr.length + c.me.length : Nat) : Int) := by rw [wrap64] <;> omega
  have w3 : IntKind.i64.wrap (((c.am.length + c.wr.length + c.me.length : Nat) : Int) + (c.el.length : Int)) = ((c.am.length + c.wr.length + c.me.length + c.el.length : Nat) : Int) := by rw [wrap64] <;> omega
  simp only [Tryz.f7, go_sem, simprocAttr, w1, w2, w3]
  refine condK_split (fun hg => ?_) (fun hg => ?_)
  · have : fewC c = false := by simp only [fewC, decide_eq_false (show ¬ (c.am.length + c.wr.length + c.me.length + c.el.length ≤ 60) by have := of_decide_eq_true hg; omega), Bool.false_and]
    simp only [go_sem, simprocAttr, this]
  have h60 : c.am.length + c.wr.length + c.me.length + c.el.length ≤ 60 := by have := of_decide_eq_false hg; omega
  simp only [go_sem, simprocAttr]
  refine awp_loop (fun n s => ∃ (k : Nat) (g : Nat → D), s = ⟨[g 0, .ptr 0 [], g 2, .lit (.int .i64 k), g 4, g 5, g 6, g 7, g 8, g 9, g 10, g 11, g 12, g 13, g 14, g 15, g 16, g 17, g 18, g 19, g 20, g 21, g 22, g 23, g 24, g 25, g 26, g 27, g 28, g 29, g 30, g 31, g 32, g 33, g 34, g 35, g 36, g 37, g 38, g 39, g 40, g 41, g 42, g 43, g 44, g 45, g 46, g 47, g 48, g 49, g 50, g 51, g 52, g 53, g 54, g 55, g 56, g 57, g 58, g 59, g 60, g 61, g 62, g 63, g 64, g 65, g 66, g 67, g 68, g 69, g 70, g 71, g 72, g 73, g 74, g 75, g 76, g 77, g 78, g 79, g 80, g 81, g 82, g 83, g 84, g 85, g 86], ⟨[((.pair .leaf (.pair .leaf (.pair .leaf (.pair .leaf (.pair .leaf (.pair .leaf .unit)))))), cellD c)], []⟩⟩ ∧ n = c.wr.length - k ∧ k ≤ c.wr.length ∧ ∀ p, p < k → fewW c p = true) c.wr.length ⟨0, reg_intro rfl rfl ⟨by simp, by omega, by simp⟩⟩ ?_
  rintro n s ⟨k, g, rfl, hn, hk, hp⟩
  simp only [go_sem, simprocAttr]
  refine condK_split (fun hc => ?_) (fun hc => ?_)
  · have hk' : k < c.wr.length := by have := of_decide_eq_true hc; omega
    simp only [go_sem, simprocAttr, hk', get_wr]
    refine condK_split (fun h1 => ?_) (fun h1 => ?_)
    · have : fewC c = false := by simp only [fewC, all_bad hk' (show fewW c k = false by simp only [fewW, decide_eq_false_iff_not]; have := of_decide_eq_true h1; omega), Bool.and_false, Bool.false_and]
      simp only [go_sem, simprocAttr, this]
    · simp only [go_sem, simprocAttr, wrapNat k (by omega)]
      exact ⟨c.wr.length - (k + 1), by omega, k + 1, reg_intro rfl rfl ⟨rfl, by omega, next_good hp (by simp only [fewW, decide_eq_true_eq]; have := of_decide_eq_false h1; omega)⟩⟩
  have hi := of_decide_eq_false hc
  obtain rfl : k = c.wr.length := by omega
  have hw := all_good hp
  clear hn hk hc hi hp
  simp only [go_sem, simprocAttr]
  refine awp_loop (fun n s => ∃ (k : Nat) (g : Nat → D), s = ⟨[g 0, .ptr 0 [], g 2, g 3, .lit (.int .i64 k), g 5, g 6, g 7, g 8, g 9, g 10, g 11, g 12, g 13, g 14, g 15, g 16, g 17, g 18, g 19, g 20, g 21, g 22, g 23, g 24, g 25, g 26, g 27, g 28, g 29, g 30, g 31, g 32, g 33, g 34, g 35, g 36, g 37, g 38, g 39, g 40, g 41, g 42, g 43, g 44, g 45, g 46, g 47, g 48, g 49, g 50, g 51, g 52, g 53, g 54, g 55, g 56, g 57, g 58, g 59, g 60, g 61, g 62, g 63, g 64, g 65, g 66, g 67, g 68, g 69, g 70, g 71, g 72, g 73, g 74, g 75, g 76, g 77, g 78, g 79, g 80, g 81, g 82, g 83, g 84, g 85, g 86], ⟨[((.pair .leaf (.pair .leaf (.pair .leaf (.pair .leaf (.pair .leaf (.pair .leaf .unit)))))), cellD c)], []⟩⟩ ∧ n = c.me.length - k ∧ k ≤ c.me.length ∧ ∀ p, p < k → fewM c p = true) c.me.length ⟨0, reg_intro rfl rfl ⟨by simp, by omega, by simp⟩⟩ ?_
  rintro n s ⟨k, g, rfl, hn, hk, hp⟩
  simp only [go_sem, simprocAttr]
  refine condK_split (fun hc => ?_) (fun hc => ?_)
  · have hk' : k < c.me.length := by have := of_decide_eq_true hc; omega
    have bad : fewM c k = false → fewC c = false := fun h => by simp only [fewC, all_bad hk' h, Bool.and_false, Bool.false_and]
    simp only [go_sem, simprocAttr, hk', get_me]
    (repeat' (first | ((refine guardK_split (fun hg => ?_) (fun hg => ?_)) <;> (try simp only [go_sem, simprocAttr, hg, hk', get_me, wrapNat k (by omega)])) | ((refine condK_split (fun hg => ?_) (fun hg => ?_)) <;> (try simp only [go_sem, simprocAttr, hg, hk', get_me, wrapNat k (by omega)])) | ((refine Or.inl ⟨by kernel_rfl, ?_⟩) <;> (try simp only [go_sem, simprocAttr, hk', get_me, wrapNat k (by omega)])))) <;> (first | done | (rw [bad (by first | (simp_all [fewM]; done) | (simp_all [fewM]; omega))]) | exact ⟨c.me.length - (k + 1), by omega, k + 1, reg_intro rfl rfl ⟨rfl, by omega, next_good hp (by first | (simp_all [fewM]; done) | (simp_all [fewM]; omega))⟩⟩)
  have hi := of_decide_eq_false hc
  obtain rfl : k = c.me.length := by omega
  have hm := all_good hp
  clear hn hk hc hi hp
  simp only [go_sem, simprocAttr]
  refine awp_loop (fun n s => ∃ (k : Nat) (g : Nat → D), s = ⟨[g 0, .ptr 0 [], g 2, g 3, g 4, .lit (.int .i64 k), g 6, g 7, g 8, g 9, g 10, g 11, g 12, g 13, g 14, g 15, g 16, g 17, g 18, g 19, g 20, g 21, g 22, g 23, g 24, g 25, g 26, g 27, g 28, g 29, g 30, g 31, g 32, g 33, g 34, g 35, g 36, g 37, g 38, g 39, g 40, g 41, g 42, g 43, g 44, g 45, g 46, g 47, g 48, g 49, g 50, g 51, g 52, g 53, g 54, g 55, g 56, g 57, g 58, g 59, g 60, g 61, g 62, g 63, g 64, g 65, g 66, g 67, g 68, g 69, g 70, g 71, g 72, g 73, g 74, g 75, g 76, g 77, g 78, g 79, g 80, g 81, g 82, g 83, g 84, g 85, g 86], ⟨[((.pair .leaf (.pair .leaf (.pair .leaf (.pair .leaf (.pair .leaf (.pair .leaf .unit)))))), cellD c)], []⟩⟩ ∧ n = c.el.length - k ∧ k ≤ c.el.length ∧ ∀ p, p < k → fewE c p = true) c.el.length ⟨0, reg_intro rfl rfl ⟨by simp, by omega, by simp⟩⟩ ?_
  rintro n s ⟨k, g, rfl, hn, hk, hp⟩
  simp only [go_sem, simprocAttr]
  refine condK_split (fun hc => ?_) (fun hc => ?_)
  · have hk' : k < c.el.length := by have := of_decide_eq_true hc; omega
    have bad : fewE c k = false → fewC c = false := fun h => by simp only [fewC, all_bad hk' h, Bool.and_false]
    simp only [go_sem, simprocAttr, hk', get_el]
    (repeat' (first | ((refine guardK_split (fun hg => ?_) (fun hg => ?_)) <;> (try simp only [go_sem, simprocAttr, hg, hk', get_el, wrapNat k (by omega)])) | ((refine condK_split (fun hg => ?_) (fun hg => ?_)) <;> (try simp only [go_sem, simprocAttr, hg, hk', get_el, wrapNat k (by omega)])) | ((refine Or.inl ⟨by kernel_rfl, ?_⟩) <;> (try simp only [go_sem, simprocAttr, hk', get_el, wrapNat k (by omega)])))) <;> (first | done | (rw [bad (by first | (simp_all [fewE]; done) | (simp_all [fewE]; omega))]) | exact ⟨c.el.length - (k + 1), by omega, k + 1, reg_intro rfl rfl ⟨rfl, by omega, next_good hp (by first | (simp_all [fewE]; done) | (simp_all [fewE]; omega))⟩⟩)
  have hi := of_decide_eq_false hc
  obtain rfl : k = c.el.length := by omega
  have he := all_good hp
  have : fewC c = true := by simp only [fewC, hw, hm, he, decide_eq_true h60, Bool.and_true]
  simp only [go_sem, simprocAttr, this]
/-- A cell that is not great has few of all. -/
theorem few_len {c : CellR} (h : fewC c = true) : c.am.length + c.wr.length + c.me.length + c.el.length ≤ 60 ∧ (∀ m ∈ c.me, m.marks.length ≤ 30) ∧ (∀ e ∈ c.el, e.gone.length ≤ 30) ∧ (∀ w ∈ c.wr, (w.text.size : Int) ≤ 100) ∧ (∀ m ∈ c.me, (m.text.size : Int) ≤ 100) ∧ ∀ e ∈ c.el, (e.text.size : Int) ≤ 100 := by
  simp only [fewC, Bool.and_eq_true, decide_eq_true_eq, List.all_eq_true, List.mem_range] at h
  obtain ⟨⟨⟨h1, h2⟩, h3⟩, h4⟩ := h
  have at_ : ∀ {α : Type} [Inhabited α] {l : List α} {x : α}, x ∈ l → ∃ k, k < l.length ∧ l.getD k default = x := by
    intro α _ l x hx
    obtain ⟨i, hi, rfl⟩ := List.getElem_of_mem hx
    exact ⟨i, hi, by rw [List.getD_eq_getElem?_getD, List.getElem?_eq_getElem hi]; rfl⟩
  refine ⟨h1, ?_, ?_, ?_, ?_, ?_⟩
  · intro m hm
    obtain ⟨k, hk, rfl⟩ := at_ hm
    have := h3 k hk
    simp only [fewM, Bool.and_eq_true, decide_eq_true_eq] at this
    have h := this.2
    simp only [meAt] at h
    omega
  · intro m hm
    obtain ⟨k, hk, rfl⟩ := at_ hm
    have := h4 k hk
    simp only [fewE, Bool.and_eq_true, decide_eq_true_eq] at this
    have h := this.2
    simp only [elAt] at h
    omega
  · intro m hm
    obtain ⟨k, hk, rfl⟩ := at_ hm
    have := h2 k hk
    simp only [fewW, decide_eq_true_eq] at this
    exact this
  · intro m hm
    obtain ⟨k, hk, rfl⟩ := at_ hm
    have := h3 k hk
    simp only [fewM, Bool.and_eq_true, decide_eq_true_eq] at this
    exact this.1
  · intro m hm
    obtain ⟨k, hk, rfl⟩ := at_ hm
    have := h4 k hk
    simp only [fewE, Bool.and_eq_true, decide_eq_true_eq] at this
    exact this.1
end Go.Ab
