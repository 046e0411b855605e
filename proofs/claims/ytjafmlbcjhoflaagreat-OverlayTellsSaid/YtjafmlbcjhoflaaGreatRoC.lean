/- Who is there: the program's answer, out of sets, is the document's. Conditions: none. -/
import Derived.Test.YtjafmlbcjhoflaaGreatMaA
set_option linter.unusedSimpArgs false
namespace Go.Ab
open Go.Proofs

theorem strict_ext : ∀ {l m : List Int}, l.Pairwise (· < ·) → m.Pairwise (· < ·) → (∀ n, n ∈ l ↔ n ∈ m) → l = m := by
  intro l m hl hm h
  have nl : l.Nodup := hl.imp fun h => by omega
  have nm : m.Nodup := hm.imp fun h => by omega
  have hp : l.Perm m := (List.perm_ext_iff_of_nodup nl nm).2 h
  exact List.Perm.eq_of_pairwise (le := (· < ·)) (fun a b _ _ h1 h2 => by omega) hl hm hp
theorem sortI_strict {l : List Int} (h : l.Nodup) : (sortI l).Pairwise (· < ·) := by
  have tr : ∀ a b c : Int, decide (a ≤ b) = true → decide (b ≤ c) = true → decide (a ≤ c) = true := by intro a b c; simp; omega
  have to : ∀ a b : Int, (decide (a ≤ b) || decide (b ≤ a)) = true := by intro a b; simp; omega
  have h1 := List.pairwise_mergeSort tr to l
  have h2 : (sortI l).Nodup := (List.mergeSort_perm l _).symm.nodup h
  refine List.Pairwise.imp (fun {a b} h => ?_) (h1.and h2)
  have := h.1
  simp only [decide_eq_true_eq] at this
  have := h.2
  omega
theorem mem_sortI {l : List Int} {n : Int} : n ∈ sortI l ↔ n ∈ l := (List.mergeSort_perm l _).mem_iff
theorem sortI_eq {s m : List Int} (hs : s.Nodup) (hm : m.Pairwise (· < ·)) (h : ∀ n, n ∈ s ↔ n ∈ m) : sortI s = m := strict_ext (sortI_strict hs) hm fun n => by rw [mem_sortI, h]

theorem rosterOk_strict {l : List Int} : rosterOk l = true ↔ l.Pairwise (· < ·) ∧ ∀ n ∈ l, vpeer n = true := by
  rw [rosterOk_iff]
  constructor
  · intro h
    have step : ∀ i, i + 1 < l.length → l.getD i 0 < l.getD (i + 1) 0 := by
      intro i hi
      have := h (i + 1) hi
      simp only [rosterAt, Bool.and_eq_true, Bool.or_eq_true, decide_eq_true_eq, Nat.add_sub_cancel] at this
      rcases this.2 with h' | h'
      · omega
      · exact h'
    have lt : ∀ k i, i + k + 1 < l.length → l.getD i 0 < l.getD (i + k + 1) 0 := by
      intro k
      induction k with
      | zero => intro i hi; exact step i hi
      | succ k ih =>
        intro i hi
        have h1 := ih i (by omega)
        have h2 := step (i + k + 1) (by omega)
        have e : i + (k + 1) + 1 = i + k + 1 + 1 := by omega
        rw [e]; omega
    refine ⟨?_, ?_⟩
    · rw [List.pairwise_iff_getElem]
      intro i j hi hj hij
      have := lt (j - i - 1) i (by omega)
      have e : i + (j - i - 1) + 1 = j := by omega
      rw [e] at this
      simpa [List.getD_eq_getElem?_getD, hi, hj] using this
    · intro n hn
      obtain ⟨i, hi, rfl⟩ := List.getElem_of_mem hn
      have := h i hi
      simp only [rosterAt, Bool.and_eq_true] at this
      simpa [List.getD_eq_getElem?_getD, hi] using this.1
  · rintro ⟨h1, h2⟩ i hi
    simp only [rosterAt, Bool.and_eq_true, Bool.or_eq_true, decide_eq_true_eq]
    have e : l.getD i 0 = l[i] := by simp [List.getD_eq_getElem?_getD, hi]
    refine ⟨by rw [e]; exact h2 _ (List.getElem_mem hi), ?_⟩
    by_cases h0 : i = 0
    · exact .inl h0
    · right
      have := (List.pairwise_iff_getElem.1 h1) (i - 1) i (by omega) hi (by omega)
      have e' : l.getD (i - 1) 0 = l[i - 1] := by rw [List.getD_eq_getElem?_getD, List.getElem?_eq_getElem (by omega)]; rfl
      rw [e, e']; exact this

end Go.Ab
set_option linter.unusedSimpArgs false
namespace Go.Ab
open Go.Proofs

/-- An op on who joined, and who left. -/
def goR (p : List Int × List Int) (o : OpR) : List Int × List Int :=
  if o.kind ≠ 7 then p else if o.act = 1 then (withL p.1 o.n, p.2) else (p.1, withL p.2 o.n)
def applyL (j l : List Int) (t : TxR) : List Int × List Int := if rosterOk j && rosterOk l && checkTx t then t.ops.foldl goR (j, l) else (j, l)

theorem mem_insL {n m : Int} : ∀ {l : List Int}, m ∈ insL n l ↔ m = n ∨ m ∈ l
  | [] => by simp [insL]
  | x :: r => by
    unfold insL
    split
    · simp
    · simp only [List.mem_cons, mem_insL (l := r)]
      constructor
      · rintro (h | h | h) <;> simp [h]
      · rintro (h | h | h) <;> simp [h]
theorem insL_strict {n : Int} : ∀ {l : List Int}, l.Pairwise (· < ·) → n ∉ l → (insL n l).Pairwise (· < ·)
  | [], _, _ => by simp [insL]
  | x :: r, h, hn => by
    rw [List.pairwise_cons] at h
    simp only [List.mem_cons, not_or] at hn
    unfold insL
    split
    · rename_i hx
      refine List.pairwise_cons.2 ⟨fun y hy => ?_, List.pairwise_cons.2 h⟩
      rcases List.mem_cons.1 hy with rfl | hy
      · exact hx
      · have := h.1 y hy; omega
    · rename_i hx
      refine List.pairwise_cons.2 ⟨fun y hy => ?_, insL_strict h.2 hn.2⟩
      rcases mem_insL.1 hy with rfl | hy
      · omega
      · exact h.1 y hy
theorem mem_withL {l : List Int} {n m : Int} : m ∈ withL l n ↔ m = n ∨ m ∈ l := by
  unfold withL
  split
  · rename_i h
    exact ⟨.inr, fun h' => h'.elim (fun e => e ▸ h) id⟩
  · exact mem_insL
theorem withL_strict {l : List Int} {n : Int} (h : l.Pairwise (· < ·)) : (withL l n).Pairwise (· < ·) := by
  unfold withL
  split
  · exact h
  · rename_i hn; exact insL_strict h hn
theorem withL_len (l : List Int) (n : Int) : (withL l n).length ≤ l.length + 1 := by
  unfold withL
  split
  · omega
  · rw [insL_len]; omega
/-- What some ops come to. -/
def upto (j l : List Int) (t : TxR) (k : Nat) : List Int × List Int := (t.ops.take k).foldl goR (j, l)

end Go.Ab
