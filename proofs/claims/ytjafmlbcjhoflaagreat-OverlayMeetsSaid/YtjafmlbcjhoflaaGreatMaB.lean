/- Functions that go through sets of numbers kept as maps: what is dropped from one; a set's numbers, rising. Conditions: none. -/
import Derived.Test.YtjafmlbcjhoflaaGreatMaA
set_option linter.unusedSimpArgs false
namespace Go.Ab
open Go.Proofs
/-- How many are still to come. -/
def togo (s l : List Int) : Nat := (s.filter fun n => !decide (n ∈ l)).length
theorem togo_lt {s l : List Int} {n : Int} (h1 : n ∈ s) (h2 : n ∉ l) : togo s (l ++ [n]) < togo s l := by
  unfold togo
  induction s with
  | nil => cases h1
  | cons x r ih =>
    have key : ∀ r : List Int, (r.filter fun m => !decide (m ∈ l ++ [n])).length ≤ (r.filter fun m => !decide (m ∈ l)).length := by
      intro r
      induction r with
      | nil => simp
      | cons y r ih =>
        simp only [List.filter_cons]
        by_cases h : y ∈ l
        · simp [h]; simpa using ih
        · by_cases h' : y = n
          · subst h'; simp [h]; have := ih; simp at this; omega
          · simp [h, h']; simpa using ih
    simp only [List.filter_cons]
    by_cases hx : x = n
    · subst hx
      have := key r
      simp [h2] at this ⊢
      omega
    · have h3 : n ∈ r := by rcases List.mem_cons.1 h1 with h | h; exact absurd h.symm hx; exact h
      have := ih h3
      by_cases h : x ∈ l
      · simp [h]; simpa using this
      · simp [h, hx]; simpa using this
theorem togo_nil (s : List Int) : togo s [] = s.length := by simp [togo]

theorem set_same {bs : List (Sh × D)} {m : Nat} {x : Sh × D} (h : bs[m]? = some x) : bs.set m x = bs := by
  apply List.ext_getElem?
  intro j
  rw [List.getElem?_set]
  split
  · rename_i e; subst e; rw [h]; simp [(List.getElem?_eq_some_iff.1 h).1]
  · rfl

end Go.Ab
