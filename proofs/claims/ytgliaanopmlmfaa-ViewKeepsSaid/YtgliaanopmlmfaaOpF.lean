/- The program and the document agree which ops may be. Conditions: none. -/
import Derived.Test.YtgliaanopmlmfaaOpE
set_option linter.unusedSimpArgs false
namespace Go.Ab
open Go.Proofs

theorem size_empty : ((⟨#[]⟩ : ByteArray).size : Int) = 0 := rfl
theorem checkOpO_eq (o : OpR) : checkOpO o = checkOp o := by
  have hsz : o.text = ⟨#[]⟩ → (o.text.size : Int) = 0 := fun h => by rw [h]; rfl
  by_cases h7 : o.kind = 7
  · simp only [checkOpO, checkOp, h7, if_true]
    cases decide (o.act = 1) <;> cases decide (o.act = 2) <;> cases vpeer o.n <;> simp
  by_cases hk : o.kind < 1 ∨ 6 < o.kind ∨ named o.key = false
  · have hs : (shape o.kind o.key o.field o.inner o.act o.n o.text).2 = false := by simp only [shape, if_pos hk]
    have hw : whereOk o = false := by simp only [whereOk, if_pos hk]
    have hf : fitsO o = (false, false) := by simp only [fitsO, hw, or_true, if_true]
    simp [checkOpO, checkOp, h7, hs, hf]
  by_cases h6 : o.kind = 6
  · by_cases hi : named o.field = false ∨ o.inner < 1 ∨ 5 < o.inner
    · have hs : (shape o.kind o.key o.field o.inner o.act o.n o.text).2 = false := by simp only [shape, if_neg hk, if_pos h6, if_pos hi]
      have hw : whereOk o = false := by
        simp only [whereOk, if_neg hk, if_pos h6, Bool.and_eq_false_iff, decide_eq_false_iff_not]
        rcases hi with hi | hi | hi
        · exact .inl (.inl hi)
        · exact .inl (.inr (by omega))
        · exact .inr (by omega)
      have hf : fitsO o = (false, false) := by simp only [fitsO, hw, or_true, if_true]
      simp [checkOpO, checkOp, h7, hs, hf]
    · have hw : whereOk o = true := by
        simp only [not_or, Bool.not_eq_false] at hi
        simp only [whereOk, if_neg hk, if_pos h6, Bool.and_eq_true, decide_eq_true_eq]
        exact ⟨⟨hi.1, by omega⟩, by omega⟩
      have hl : leafOf o = o.inner := by simp [leafOf, h6]
      have hr : o.inner = 1 ∨ o.inner = 2 ∨ o.inner = 3 ∨ o.inner = 4 ∨ o.inner = 5 := by omega
      simp only [checkOpO, checkOp, h7, if_false, shape, if_neg hk, if_pos h6, if_neg hi, fitsO, hw, usesO, hl]
      rcases hr with hr | hr | hr | hr | hr <;> simp [hr, h6, fits, texts, places] <;> grind
  · by_cases hi : o.field ≠ ⟨#[]⟩ ∨ o.inner ≠ 0
    · have hs : (shape o.kind o.key o.field o.inner o.act o.n o.text).2 = false := by simp only [shape, if_neg hk, if_neg h6, if_pos hi]
      have hw : whereOk o = false := by
        simp only [whereOk, if_neg hk, if_neg h6, Bool.and_eq_false_iff, decide_eq_false_iff_not]
        exact hi
      have hf : fitsO o = (false, false) := by simp only [fitsO, hw, or_true, if_true]
      simp [checkOpO, checkOp, h7, hs, hf]
    · have hw : whereOk o = true := by
        simp only [not_or, ne_eq, Classical.not_not] at hi
        simp only [whereOk, if_neg hk, if_neg h6, Bool.and_eq_true, decide_eq_true_eq]
        exact hi
      have hl : leafOf o = o.kind := by simp [leafOf, h6]
      have hr : o.kind = 1 ∨ o.kind = 2 ∨ o.kind = 3 ∨ o.kind = 4 ∨ o.kind = 5 := by omega
      simp only [checkOpO, checkOp, h7, if_false, shape, if_neg hk, if_neg h6, if_neg hi, fitsO, hw, usesO, hl]
      rcases hr with hr | hr | hr | hr | hr <;> simp [hr, fits, texts, places] <;> grind
theorem ops_checkOp (o : OpR) : PSpec Try.prog CT 139 [opD o] (· = .bool (checkOp o)) := by
  rw [← checkOpO_eq]; exact ops_checkOp0 o
end Go.Ab
