/- Vectors one below the other, for a program without layer 3's own functions. Conditions: none. -/
import Derived.Test.YtnagdbamieahgaaStB
set_option linter.unusedSimpArgs false
namespace Go.Ab
open Go.Proofs

def vjoin (a b : List Int) : List Int := List.zipWith max a b
def vleq (a b : List Int) : Bool := decide (vjoin a b = b)
theorem getD_set (l : List Int) (k : Nat) (x : Int) (p : Nat) (h : k < l.length) : (l.set k x).getD p 0 = if p = k then x else l.getD p 0 := by
  by_cases h1 : p = k
  · subst h1; simp [List.getD_eq_getElem?_getD, h]
  · rw [if_neg h1]; simp [List.getD_eq_getElem?_getD, List.getElem?_set, Ne.symm h1]
theorem ext13 {l m : List Int} (hl : l.length = 13) (hm : m.length = 13) (h : ∀ p, p < 13 → l.getD p 0 = m.getD p 0) : l = m :=
  List.ext_getElem (by omega) fun i h1 h2 => by
    have := h i (by omega)
    rwa [List.getD_eq_getElem?_getD, List.getD_eq_getElem?_getD, List.getElem?_eq_getElem h1, List.getElem?_eq_getElem h2] at this
theorem zip_at (f : Int → Int → Int) (a b : List Int) (ha : a.length = 13) (hb : b.length = 13) (p : Nat) (h : p < 13) : (List.zipWith f a b).getD p 0 = f (a.getD p 0) (b.getD p 0) := by
  have h1 : p < a.length := by omega
  have h2 : p < b.length := by omega
  simp [List.getD_eq_getElem?_getD, List.getElem?_zipWith, h1, h2]
theorem vjoin_at (a b : List Int) (ha : a.length = 13) (hb : b.length = 13) (p : Nat) (h : p < 13) : (vjoin a b).getD p 0 = max (a.getD p 0) (b.getD p 0) := zip_at max a b ha hb p h
theorem vjoin_len (a b : List Int) (ha : a.length = 13) (hb : b.length = 13) : (vjoin a b).length = 13 := by simp [vjoin, ha, hb]
theorem vleq_iff (a b : List Int) (ha : a.length = 13) (hb : b.length = 13) : vleq a b = true ↔ ∀ p, p < 13 → a.getD p 0 ≤ b.getD p 0 := by
  rw [vleq, decide_eq_true_eq]
  constructor
  · intro h p hp
    have := vjoin_at a b ha hb p hp
    rw [h] at this; omega
  · intro h
    refine ext13 (vjoin_len a b ha hb) hb fun p hp => ?_
    rw [vjoin_at a b ha hb p hp]
    have := h p hp; omega
theorem vleq_trans {a b c : List Int} (ha : a.length = 13) (hb : b.length = 13) (hc : c.length = 13) (h1 : vleq a b = true) (h2 : vleq b c = true) : vleq a c = true :=
  (vleq_iff a c ha hc).2 fun p hp => Int.le_trans ((vleq_iff a b ha hb).1 h1 p hp) ((vleq_iff b c hb hc).1 h2 p hp)
theorem ref_leq (a b : List Int) (ha : a.length = 13) (hb : b.length = 13) : PSpec Try.prog CT 93 [ints a, ints b] (· = .bool (vleq a b)) := by
  refine PSpec.of hT Try.func93 rfl (by kernel_rfl) rfl rfl ?_
  simp only [Try.f93, go_sem, Nat.reduceAdd, Nat.reduceSub, Nat.reduceMul, Nat.reduceLT, Nat.reduceLeDiff, ↓reduceIte, reduceCtorEq, Nat.reduceEqDiff, Int.reduceToNat, Int.reduceLT, Int.reduceLE, Int.reduceEq, beq_self_eq_true, ha, hb]
  refine awp_loop (fun n s => ∃ (k : Nat) (g : Nat → D), s = ⟨[ints a, ints b, .ptr 0 [], .ptr 1 [], g 4, .lit (.int .i64 k), g 6, g 7, g 8, g 9, g 10, g 11, g 12, g 13, g 14, g 15, g 16], ⟨[(.arr 13 .leaf, ints a), (.arr 13 .leaf, ints b)], []⟩⟩ ∧ n = 13 - k ∧ k ≤ 13 ∧ ∀ p, p < k → a.getD p 0 ≤ b.getD p 0) 13 ⟨0, reg_intro rfl rfl ⟨by simp, by omega, by simp⟩⟩ ?_
  rintro n s ⟨k, g, rfl, hn, hk, hp⟩
  simp only [go_sem, Nat.reduceAdd, Nat.reduceSub, Nat.reduceMul, Nat.reduceLT, Nat.reduceLeDiff, ↓reduceIte, reduceCtorEq, Nat.reduceEqDiff, Int.reduceToNat, Int.reduceLT, Int.reduceLE, Int.reduceEq, beq_self_eq_true, ha, hb]
  refine condK_split (fun hc => ?_) (fun hc => ?_)
  · have hi := of_decide_eq_true hc
    have hk' : k < 13 := by omega
    simp only [go_sem, Nat.reduceAdd, Nat.reduceSub, Nat.reduceMul, Nat.reduceLT, Nat.reduceLeDiff, ↓reduceIte, reduceCtorEq, Nat.reduceEqDiff, Int.reduceToNat, Int.reduceLT, Int.reduceLE, Int.reduceEq, beq_self_eq_true, ha, hb, hk', wrapNat k (by omega)]
    refine .inl ⟨by kernel_rfl, condK_split (fun h1 => ?_) (fun h1 => ?_)⟩
    · have h1 := of_decide_eq_true h1
      have : vleq a b = false := by
        rw [← Bool.not_eq_true, vleq_iff a b ha hb]
        intro h; have := h k hk'; omega
      simp only [go_sem, Nat.reduceAdd, Nat.reduceSub, Nat.reduceMul, Nat.reduceLT, Nat.reduceLeDiff, ↓reduceIte, reduceCtorEq, Nat.reduceEqDiff, Int.reduceToNat, Int.reduceLT, Int.reduceLE, Int.reduceEq, beq_self_eq_true, ha, hb, this]
    · have h1 := of_decide_eq_false h1
      simp only [go_sem, Nat.reduceAdd, Nat.reduceSub, Nat.reduceMul, Nat.reduceLT, Nat.reduceLeDiff, ↓reduceIte, reduceCtorEq, Nat.reduceEqDiff, Int.reduceToNat, Int.reduceLT, Int.reduceLE, Int.reduceEq, beq_self_eq_true, ha, hb, wrapNat k (by omega)]
      refine ⟨13 - (k + 1), by omega, k + 1, reg_intro rfl rfl ⟨rfl, by omega, fun p h => ?_⟩⟩
      by_cases hpk : p = k
      · subst hpk; omega
      · exact hp p (by omega)
  · have hi := of_decide_eq_false hc
    obtain rfl : k = 13 := by omega
    have : vleq a b = true := (vleq_iff a b ha hb).2 hp
    simp only [go_sem, Nat.reduceAdd, Nat.reduceSub, Nat.reduceMul, Nat.reduceLT, Nat.reduceLeDiff, ↓reduceIte, reduceCtorEq, Nat.reduceEqDiff, Int.reduceToNat, Int.reduceLT, Int.reduceLE, Int.reduceEq, beq_self_eq_true, ha, hb, this]
end Go.Ab
