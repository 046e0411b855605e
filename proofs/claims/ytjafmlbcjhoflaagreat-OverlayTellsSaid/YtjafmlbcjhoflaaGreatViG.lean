/- Views: what must come at any rate; the laws. Conditions: none. -/
import Derived.Test.YtjafmlbcjhoflaaGreatViF
set_option linter.unusedSimpArgs false
namespace Go.Ab
open Go.Proofs

def v25 : ViewR := ⟨1, [2, 3, 4, 5], []⟩
def a25 : ViewR := ⟨1, [2, 4, 5, 6], [3]⟩
def w25 : ViewR := ⟨1, [], [2]⟩
def b25 : ViewR := ⟨1, [2], []⟩
def f25 : ViewR := ⟨1, [2, 4, 5, 6], []⟩
def c25 : ViewR := ⟨1, [3, 4, 5], [2]⟩
def k25 : ViewR := ⟨1, [2, 3, 4, 5], [9]⟩
theorem knowV_ok {v : ViewR} (p d : Int) (h : VOk v) : VOk (knowV v p d) := by
  unfold knowV
  split
  · rename_i hc
    simp only [Bool.and_eq_true, otherV, Bool.not_eq_true', decide_eq_false_iff_not] at hc
    exact knownV_ok d h hc.1.1 hc.1.2
  · exact h
theorem coolV_ok {v : ViewR} (p d : Int) (h : VOk v) : VOk (coolV v p d) := by
  unfold coolV
  split
  · rename_i hc
    simp only [Bool.and_eq_true, decide_eq_true_eq] at hc
    exact cooledV_ok d h hc.1
  · exact h
def Fit (v x : ViewR) : Prop := x.act.length ≤ v.act.length + 8 ∧ x.pas.length ≤ v.pas.length + 8
theorem fit_of {v x : ViewR} (h1 : checkV v = true → VOk x) (h2 : checkV v = false → x = v) : Fit v x := by
  cases h : checkV v with
  | true => have := h1 h; exact ⟨by have := this.la; omega, by have := this.lp; omega⟩
  | false => rw [h2 h]; exact ⟨by omega, by omega⟩
theorem addV_fit (v : ViewR) (p d : Int) : Fit v (addV v p d).1 := fit_of (fun h => addV_ok p d ((checkV_iff v).1 h)) fun h => by simp [addV, h]
theorem knowV_fit (v : ViewR) (p d : Int) : Fit v (knowV v p d) := fit_of (fun h => knowV_ok p d ((checkV_iff v).1 h)) fun h => by simp [knowV, h]
theorem coolV_fit (v : ViewR) (p d : Int) : Fit v (coolV v p d) := fit_of (fun h => coolV_ok p d ((checkV_iff v).1 h)) fun h => by simp [coolV, h]
theorem forgetV_fit (v : ViewR) (p : Int) : Fit v (forgetV v p) := fit_of (fun h => forgetV_ok p ((checkV_iff v).1 h)) fun h => by simp [forgetV, h]
theorem sameVw_refl (v : ViewR) : sameVw v v = true := by simp [sameVw]
theorem sampleV_len (v : ViewR) (d : Int) : (sampleV v d).length ≤ 4 := by
  unfold sampleV
  split
  · have := sampleTo_len (sortI (v.act ++ v.pas)) (max d 0).toNat v.self (min 3 (v.act ++ v.pas).length); omega
  · simp

end Go.Ab
set_option linter.unusedSimpArgs false
namespace Go.Ab
open Go.Proofs

theorem addV_gone {v : ViewR} (p d : Int) : (addV v p d).2 = 0 ∨ (addV v p d).2 ∈ (addV v p d).1.pas := by
  unfold addV
  split
  · rename_i hc
    simp only [Bool.and_eq_true, Bool.not_eq_true', decide_eq_false_iff_not] at hc
    unfold roomV
    split
    · right
      have hm := pick_mem (l := v.act) d (by omega)
      refine mem_dropL.2 ⟨?_, fun e => hc.1.2 (e ▸ hm)⟩
      exact knownV_has d (fun hx => (mem_dropL.1 hx).2 rfl)
    · exact .inl rfl
  · exact .inl rfl

end Go.Ab
