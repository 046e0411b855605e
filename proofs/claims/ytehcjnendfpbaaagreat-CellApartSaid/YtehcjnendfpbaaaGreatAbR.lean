/- What data of a type look like. Conditions: none. -/
import Derived.Test.YtehcjnendfpbaaaGreatAbQ
set_option linter.unusedSimpArgs false
namespace Go.Ab

abbrev ints (l : List Int) : D := .agg (l.map fun n => .lit (.int .i64 n))
def i64ok (n : Int) : Prop := -9223372036854775808 ≤ n ∧ n ≤ 9223372036854775807

section
variable {C : Tab} {t : TypeId} {d : D}
theorem HasTy.inv_int {k : IntKind} (h : HasTy C t d) (ht : C.ty t = .int k) : ∃ n, d = .lit (.int k n) ∧ k.min ≤ n ∧ n ≤ k.max := by
  cases h with
  | int n h h1 h2 => rw [ht] at h; cases h; exact ⟨n, rfl, h1, h2⟩
  | bool b h => rw [ht] at h; cases h
  | str s h h1 => rw [ht] at h; cases h
  | slice l h h1 h2 => rw [ht] at h; cases h
  | arr l h h1 h2 => rw [ht] at h; cases h
  | struct l h h1 h2 => rw [ht] at h; cases h
theorem HasTy.inv_bool (h : HasTy C t d) (ht : C.ty t = .bool) : ∃ b, d = .lit (.bool b) := by
  cases h with
  | int n h h1 h2 => rw [ht] at h; cases h
  | bool b h => exact ⟨b, rfl⟩
  | str s h h1 => rw [ht] at h; cases h
  | slice l h h1 h2 => rw [ht] at h; cases h
  | arr l h h1 h2 => rw [ht] at h; cases h
  | struct l h h1 h2 => rw [ht] at h; cases h
theorem HasTy.inv_str (h : HasTy C t d) (ht : C.ty t = .str) : ∃ s, d = .lit (.string s) ∧ s.size ≤ maxLen := by
  cases h with
  | int n h h1 h2 => rw [ht] at h; cases h
  | bool b h => rw [ht] at h; cases h
  | str s h h1 => exact ⟨s, rfl, h1⟩
  | slice l h h1 h2 => rw [ht] at h; cases h
  | arr l h h1 h2 => rw [ht] at h; cases h
  | struct l h h1 h2 => rw [ht] at h; cases h
theorem HasTy.inv_slice {e : TypeId} (h : HasTy C t d) (ht : C.ty t = .slice e) : ∃ l, d = .lst e l .no ∧ l.length ≤ maxLen ∧ ∀ x ∈ l, HasTy C e x := by
  cases h with
  | int n h h1 h2 => rw [ht] at h; cases h
  | bool b h => rw [ht] at h; cases h
  | str s h h1 => rw [ht] at h; cases h
  | slice l h h1 h2 => rw [ht] at h; cases h; exact ⟨l, rfl, h1, h2⟩
  | arr l h h1 h2 => rw [ht] at h; cases h
  | struct l h h1 h2 => rw [ht] at h; cases h
theorem HasTy.inv_sliceB {e : TypeId} (h : HasTy C t d) (ht : C.ty t = .slice e) : ∃ l, d = .lst e l .no ∧ l.length * C.bytes e ≤ 140737488351232 ∧ ∀ x ∈ l, HasTy C e x := by
  cases h with
  | int n h h1 h2 => rw [ht] at h; cases h
  | bool b h => rw [ht] at h; cases h
  | str s h h1 => rw [ht] at h; cases h
  | slice l h h1 h2 h3 => rw [ht] at h; cases h; exact ⟨l, rfl, Nat.le_trans h3 (by decide), h2⟩
  | arr l h h1 h2 => rw [ht] at h; cases h
  | struct l h h1 h2 => rw [ht] at h; cases h
theorem HasTy.inv_arr {n : Nat} {e : TypeId} (h : HasTy C t d) (ht : C.ty t = .arr n e) : ∃ l, d = .agg l ∧ l.length = n ∧ ∀ x ∈ l, HasTy C e x := by
  cases h with
  | int n h h1 h2 => rw [ht] at h; cases h
  | bool b h => rw [ht] at h; cases h
  | str s h h1 => rw [ht] at h; cases h
  | slice l h h1 h2 => rw [ht] at h; cases h
  | arr l h h1 h2 => rw [ht] at h; cases h; exact ⟨l, rfl, h1, h2⟩
  | struct l h h1 h2 => rw [ht] at h; cases h
theorem HasTy.inv_struct {fs : List TypeId} (h : HasTy C t d) (ht : C.ty t = .struct fs) : ∃ l, d = .agg l ∧ All2 (HasTy C) fs l := by
  cases h with
  | int n h h1 h2 => rw [ht] at h; cases h
  | bool b h => rw [ht] at h; cases h
  | str s h h1 => rw [ht] at h; cases h
  | slice l h h1 h2 => rw [ht] at h; cases h
  | arr l h h1 h2 => rw [ht] at h; cases h
  | struct l h h1 h2 =>
    rw [ht] at h; cases h
    refine ⟨l, rfl, ?_⟩
    clear ht
    induction fs generalizing l with
    | nil => cases l with
      | nil => exact .nil
      | cons x r => simp at h1
    | cons f fs ih =>
      cases l with
      | nil => simp at h1
      | cons x r =>
        exact .cons (h2 0 f x rfl rfl) (ih r (by simpa using h1) fun i g y hg hy => h2 (i + 1) g y (by simpa using hg) (by simpa using hy))
/-- A list of data, each of which comes out of a plain one. -/
theorem all_of {α : Type} {enc : α → D} {Q : α → Prop} : ∀ {l : List D}, (∀ x ∈ l, ∃ y, x = enc y ∧ Q y) → ∃ m : List α, l = m.map enc ∧ ∀ y ∈ m, Q y
  | [], _ => ⟨[], rfl, by simp⟩
  | x :: r, h => by
    obtain ⟨y, rfl, hy⟩ := h x (by simp)
    obtain ⟨m, rfl, hm⟩ := all_of (l := r) (enc := enc) (Q := Q) fun z hz => h z (by simp [hz])
    exact ⟨y :: m, rfl, by simpa using ⟨hy, hm⟩⟩
theorem HasTy.inv_i64 (h : HasTy C t d) (ht : C.ty t = .int .i64) : ∃ n, d = .lit (.int .i64 n) ∧ i64ok n := by
  obtain ⟨n, h1, h2, h3⟩ := h.inv_int ht
  exact ⟨n, h1, h2, h3⟩
theorem HasTy.inv_ints {n : Nat} {e : TypeId} (h : HasTy C t d) (ht : C.ty t = .arr n e) (he : C.ty e = .int .i64) : ∃ l : List Int, d = ints l ∧ l.length = n ∧ ∀ x ∈ l, i64ok x := by
  obtain ⟨l, rfl, h1, h2⟩ := h.inv_arr ht
  obtain ⟨m, rfl, hm⟩ := all_of (enc := fun n : Int => D.lit (.int .i64 n)) (Q := i64ok) fun x hx => (h2 x hx).inv_i64 he
  exact ⟨m, rfl, by simpa using h1, hm⟩
end
end Go.Ab
