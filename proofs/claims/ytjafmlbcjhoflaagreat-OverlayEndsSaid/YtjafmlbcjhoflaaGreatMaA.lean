/- Functions that make and read sets of numbers kept as maps. Conditions: none. -/
import Derived.Test.YtjafmlbcjhoflaaGreatSoA
import Derived.Test.YtjafmlbcjhoflaaGreatRoA
import Derived.Test.YtjafmlbcjhoflaaGreatAbHs
set_option linter.unusedSimpArgs false
namespace Go.Ab
open Go.Proofs
end Go.Ab
set_option linter.unusedSimpArgs false
namespace Go.Ab
open Go.Proofs
/-- How many are still to come. -/
def togo (s l : List Int) : Nat := (s.filter fun n => !decide (n ∈ l)).length
theorem togo_lt {s l : List Int} {n : Int} (h1 : n ∈ s) (h2 : n ∉ l) : togo s (l ++ [n]) < togo s l := by
  unfold togo
  induction s with
  | nil => cases h1
  | cons x r ih =>
    have key : ∀ r : List Int, (r.filter fun m => !decide (m ∈ l ++ [n])).length ≤ (r.filter fun m => !decide (m ∈ l)).length := by
      intro r
      induction r with
      | nil => simp
      | cons y r ih =>
        simp only [List.filter_cons]
        by_cases h : y ∈ l
        · simp [h]; simpa using ih
        · by_cases h' : y = n
          · subst h'; simp [h]; have := ih; simp at this; omega
          · simp [h, h']; simpa using ih
    simp only [List.filter_cons]
    by_cases hx : x = n
    · subst hx
      have := key r
      simp [h2] at this ⊢
      omega
    · have h3 : n ∈ r := by rcases List.mem_cons.1 h1 with h | h; exact absurd h.symm hx; exact h
      have := ih h3
      by_cases h : x ∈ l
      · simp [h]; simpa using this
      · simp [h, hx]; simpa using this
theorem togo_nil (s : List Int) : togo s [] = s.length := by simp [togo]

theorem set_same {bs : List (Sh × D)} {m : Nat} {x : Sh × D} (h : bs[m]? = some x) : bs.set m x = bs := by
  apply List.ext_getElem?
  intro j
  rw [List.getElem?_set]
  split
  · rename_i e; subst e; rw [h]; simp [(List.getElem?_eq_some_iff.1 h).1]
  · rfl

end Go.Ab
set_option linter.unusedSimpArgs false
namespace Go.Ab
open Go.Proofs

/-- Numbers that come one by one into a slice of the call's own. -/
def Out (k : Nat) (d : D) (ex : List (Sh × D)) (l : List Int) : Prop :=
  (d = .lst 3 [] .full ∧ l = [] ∧ ex = []) ∨ ∃ j N L, d = .sl 3 (k + j) 0 l.length N ∧ ex[j]? = some (.arr N .leaf, .agg L) ∧ L.length = N ∧ l.length ≤ N ∧ N ≤ maxLen ∧ L.take l.length = (l.map fun n => .lit (.int .i64 n)) ∧
    ∀ N s L, (Sh.arr N s, D.agg L) ∈ ex → pureL L

theorem sh_int : CT.sh 3 = .leaf := rfl
theorem zero_int : CT.zero 3 = .lit (.int .i64 0) := rfl
theorem pure_reps (n : Nat) : pureL (List.replicate n (D.lit (.int .i64 0))) := by
  induction n with
  | zero => trivial
  | succ n ih => exact ⟨trivial, ih⟩
theorem pureL_app {a b : List D} (h1 : pureL a) (h2 : pureL b) : pureL (a ++ b) := by
  induction a with
  | nil => exact h2
  | cons x r ih => exact ⟨h1.1, ih h1.2⟩
theorem pureL_take {a : List D} (n : Nat) (h : pureL a) : pureL (a.take n) := by
  induction a generalizing n with
  | nil => simpa using h
  | cons x r ih => cases n with
    | zero => trivial
    | succ n => exact ⟨h.1, ih n h.2⟩
theorem pureL_drop {a : List D} (n : Nat) (h : pureL a) : pureL (a.drop n) := by
  induction a generalizing n with
  | nil => simpa using h
  | cons x r ih => cases n with
    | zero => exact h
    | succ n => exact ih n h.2
theorem pure_ints (l : List Int) : pureL (l.map fun n => D.lit (.int .i64 n)) := by
  induction l with
  | nil => trivial
  | cons x r ih => exact ⟨trivial, ih⟩

theorem out_app {k : Nat} {d : D} {base ex : List (Sh × D)} {l : List Int} {n : Int} {K : St → Prop} {dst : Option Tmp} {ts : List D} {tk : List Bool} (t' : Tok) (ho : Out k d ex l) (hk : base.length = k) (hl : l.length < 1000000000)
    (h : ∀ d' ex', Out k d' ex' (l ++ [n]) → K (St.put ⟨ts, ⟨base ++ ex', tk⟩⟩ dst d')) : appK CT true K dst ts (base ++ ex) tk (.slice 3) d (.lst 3 [.lit (.int .i64 n)] t') := by
  have hby : CT.bytes 3 = 8 := rfl
  rcases ho with ⟨rfl, rfl, rfl⟩ | ⟨j, N, L, rfl, hj, hL, hlN, hN, htk, hpu⟩
  · refine appK_mut K dst ts 3 _ tk _ _ ⟨[], [.lit (.int .i64 n)], rfl, rfl, by rw [hby]; omega, by rw [hby]; simp, trivial, (by intro h; cases h), (by intro b lo n c N s L h; cases h), fun _ _ N h1 h2 => ?_⟩
    have := h (.sl 3 (k + 0) 0 ([] ++ [n]).length N) [(.arr N .leaf, .agg ([.lit (.int .i64 n)] ++ List.replicate (N - 1) (.lit (.int .i64 0))))] (.inr ⟨0, N, _, rfl, rfl, by simp at h1 ⊢; omega, by simpa using h1, h2, by simp, by
      intro N' s' L' hm
      simp only [List.mem_singleton, Prod.mk.injEq, D.agg.injEq] at hm
      obtain ⟨_, rfl⟩ := hm
      exact ⟨trivial, pure_reps _⟩⟩)
    subst hk
    simpa [Heap.var, zero_int, sh_int] using this
  · have hjl : j < ex.length := (List.getElem?_eq_some_iff.1 hj).1
    have hbx : (base ++ ex)[k + j]? = some (.arr N .leaf, .agg L) := by rw [List.getElem?_append_right (by omega), hk, Nat.add_sub_cancel_left]; exact hj
    have hset : ∀ y, (base ++ ex).set (k + j) y = base ++ ex.set j y := fun y => by rw [List.set_append_right _ _ (by omega), hk, Nat.add_sub_cancel_left]
    have hpL : pureL L := hpu _ _ _ (List.mem_of_getElem? hj)
    refine appK_mut K dst ts 3 _ tk _ _ ⟨l.map fun n => .lit (.int .i64 n), [.lit (.int .i64 n)], ?_, rfl, by rw [hby]; omega, by rw [hby]; simp; omega, trivial, (by intro h; cases h), ?_, ?_⟩
    · simp only [rowOf, hbx, List.drop_zero, htk]
    · intro b1 lo1 n1 c1 N1 s1 L1 h1 _ h2 h3
      cases h1
      simp only at h3
      rw [hbx] at h3; cases h3
      have e1 : l.length + 1 ≤ L.length := by simpa [hL] using h2
      have := h (.sl 3 (k + j) 0 (l ++ [n]).length N) (ex.set j (.arr N .leaf, .agg (overL L l.length [.lit (.int .i64 n)]))) (.inr ⟨j, N, _, rfl, List.getElem?_set_self hjl, by simp [overL]; omega, by simpa using (by simpa using h2 : l.length + 1 ≤ N), hN, ?_, ?_⟩)
      · simpa [hset] using this
      · rw [List.length_append, List.length_singleton]
        have := overL_take (L := L) (m := [.lit (.int .i64 n)]) (n := l.length) (by simpa using e1)
        simp only [List.length_singleton] at this
        rw [this, htk]; simp
      · intro N' s' L' hm
        rcases List.mem_or_eq_of_mem_set hm with h' | h'
        · exact hpu _ _ _ h'
        · simp only [Prod.mk.injEq, D.agg.injEq] at h'
          obtain ⟨_, rfl⟩ := h'
          exact pureL_app (pureL_app (pureL_take _ hpL) ⟨trivial, trivial⟩) (pureL_drop _ hpL)
    · intro h1 _ N' h2 h3
      have := h (.sl 3 (k + ex.length) 0 (l ++ [n]).length N') (ex ++ [(.arr N' .leaf, .agg ((l ++ [n]).map (fun n => .lit (.int .i64 n)) ++ List.replicate (N' - (l.length + 1)) (.lit (.int .i64 0))))]) (.inr ⟨ex.length, N', (l ++ [n]).map (fun n => .lit (.int .i64 n)) ++ List.replicate (N' - (l.length + 1)) (.lit (.int .i64 0)), rfl, by simp, by simp at h2 ⊢; omega, by simpa using h2, h3, by rw [List.take_append_of_le_length (by simp), List.take_of_length_le (by simp)], ?_⟩)
      · subst hk
        simpa [Heap.var, zero_int, sh_int] using this
      · intro N' s' L' hm
        rcases List.mem_append.1 hm with h' | h'
        · exact hpu _ _ _ h'
        · simp only [List.mem_singleton, Prod.mk.injEq, D.agg.injEq] at h'
          obtain ⟨_, rfl⟩ := h'
          exact pureL_app (pure_ints _) (pure_reps _)

theorem out_nrm {k : Nat} {d : D} {ex : List (Sh × D)} {l : List Int} (ho : Out k d ex l) (t : TypeId) : nrm CT t d = d := by
  rcases ho with ⟨rfl, _⟩ | ⟨j, N, L, rfl, _⟩
  · simp only [nrm_lst]
  · simp only [nrm_sl]

theorem sort_perm {l s : List Int} (h : l.Perm s) : sortI l = sortI s := by
  have tr : ∀ a b c : Int, decide (a ≤ b) = true → decide (b ≤ c) = true → decide (a ≤ c) = true := by intro a b c; simp; omega
  have to : ∀ a b : Int, (decide (a ≤ b) || decide (b ≤ a)) = true := by intro a b; simp; omega
  refine List.Perm.eq_of_pairwise (le := fun a b => decide (a ≤ b) = true) (fun a b _ _ h1 h2 => by simp at h1 h2; omega) (List.pairwise_mergeSort tr to l) (List.pairwise_mergeSort tr to s) ?_
  exact (List.mergeSort_perm l _).trans (h.trans (List.mergeSort_perm s _).symm)

end Go.Ab
