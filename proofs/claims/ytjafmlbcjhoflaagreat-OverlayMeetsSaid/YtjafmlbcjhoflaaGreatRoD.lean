/- Who is there: a transaction taken in; both answers are the same. Conditions: none. -/
import Derived.Test.YtjafmlbcjhoflaaGreatRoC
set_option linter.unusedSimpArgs false
namespace Go.Ab
open Go.Proofs

/-- An op on who joined, and who left. -/
def goR (p : List Int × List Int) (o : OpR) : List Int × List Int :=
  if o.kind ≠ 7 then p else if o.act = 1 then (withL p.1 o.n, p.2) else (p.1, withL p.2 o.n)
def applyL (j l : List Int) (t : TxR) : List Int × List Int := if rosterOk j && rosterOk l && checkTx t then t.ops.foldl goR (j, l) else (j, l)

theorem mem_insL {n m : Int} : ∀ {l : List Int}, m ∈ insL n l ↔ m = n ∨ m ∈ l
  | [] => by simp [insL]
  | x :: r => by
    unfold insL
    split
    · simp
    · simp only [List.mem_cons, mem_insL (l := r)]
      constructor
      · rintro (h | h | h) <;> simp [h]
      · rintro (h | h | h) <;> simp [h]
theorem insL_strict {n : Int} : ∀ {l : List Int}, l.Pairwise (· < ·) → n ∉ l → (insL n l).Pairwise (· < ·)
  | [], _, _ => by simp [insL]
  | x :: r, h, hn => by
    rw [List.pairwise_cons] at h
    simp only [List.mem_cons, not_or] at hn
    unfold insL
    split
    · rename_i hx
      refine List.pairwise_cons.2 ⟨fun y hy => ?_, List.pairwise_cons.2 h⟩
      rcases List.mem_cons.1 hy with rfl | hy
      · exact hx
      · have := h.1 y hy; omega
    · rename_i hx
      refine List.pairwise_cons.2 ⟨fun y hy => ?_, insL_strict h.2 hn.2⟩
      rcases mem_insL.1 hy with rfl | hy
      · omega
      · exact h.1 y hy
theorem mem_withL {l : List Int} {n m : Int} : m ∈ withL l n ↔ m = n ∨ m ∈ l := by
  unfold withL
  split
  · rename_i h
    exact ⟨.inr, fun h' => h'.elim (fun e => e ▸ h) id⟩
  · exact mem_insL
theorem withL_strict {l : List Int} {n : Int} (h : l.Pairwise (· < ·)) : (withL l n).Pairwise (· < ·) := by
  unfold withL
  split
  · exact h
  · rename_i hn; exact insL_strict h hn
theorem withL_len (l : List Int) (n : Int) : (withL l n).length ≤ l.length + 1 := by
  unfold withL
  split
  · omega
  · rw [insL_len]; omega
theorem goR_strict {p : List Int × List Int} {o : OpR} (h1 : p.1.Pairwise (· < ·)) (h2 : p.2.Pairwise (· < ·)) : (goR p o).1.Pairwise (· < ·) ∧ (goR p o).2.Pairwise (· < ·) := by
  unfold goR
  split
  · exact ⟨h1, h2⟩
  · split
    · exact ⟨withL_strict h1, h2⟩
    · exact ⟨h1, withL_strict h2⟩
theorem goR_len (p : List Int × List Int) (o : OpR) : (goR p o).1.length ≤ p.1.length + 1 ∧ (goR p o).2.length ≤ p.2.length + 1 := by
  unfold goR
  split
  · omega
  · split
    · have := withL_len p.1 o.n; simp only; omega
    · have := withL_len p.2 o.n; simp only; omega
theorem take_ops (t : TxR) (k : Nat) (hk : k < t.ops.length) : t.ops.take (k + 1) = t.ops.take k ++ [opAt t k] := by
  rw [List.take_add_one, List.getElem?_eq_getElem hk, opAt, List.getD_eq_getElem?_getD, List.getElem?_eq_getElem hk]; rfl
/-- What some ops come to. -/
def upto (j l : List Int) (t : TxR) (k : Nat) : List Int × List Int := (t.ops.take k).foldl goR (j, l)
theorem upto_succ (j l : List Int) (t : TxR) (k : Nat) (hk : k < t.ops.length) : upto j l t (k + 1) = goR (upto j l t k) (opAt t k) := by
  simp only [upto, take_ops t k hk, List.foldl_append, List.foldl_cons, List.foldl_nil]
theorem upto_len (j l : List Int) (t : TxR) (k : Nat) (hk : k ≤ t.ops.length) : (upto j l t k).1.length ≤ j.length + k ∧ (upto j l t k).2.length ≤ l.length + k := by
  induction k with
  | zero => simp [upto]
  | succ k ih =>
    have := ih (by omega)
    rw [upto_succ j l t k (by omega)]
    have := goR_len (upto j l t k) (opAt t k)
    omega
theorem upto_strict {j l : List Int} (t : TxR) (h1 : j.Pairwise (· < ·)) (h2 : l.Pairwise (· < ·)) (k : Nat) (hk : k ≤ t.ops.length) : (upto j l t k).1.Pairwise (· < ·) ∧ (upto j l t k).2.Pairwise (· < ·) := by
  induction k with
  | zero => exact ⟨h1, h2⟩
  | succ k ih =>
    have := ih (by omega)
    rw [upto_succ j l t k (by omega)]
    exact goR_strict this.1 this.2

end Go.Ab
