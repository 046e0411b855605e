/- A set's numbers, rising. Conditions: none. -/
import Derived.Test.YtgliaanopmlmfaaMaB
set_option linter.unusedSimpArgs false
namespace Go.Ab
open Go.Proofs

/-- Numbers that come one by one into a slice of the call's own. -/
def Out (k : Nat) (d : D) (ex : List (Sh × D)) (l : List Int) : Prop :=
  (d = .lst 3 [] .full ∧ l = [] ∧ ex = []) ∨ ∃ j N L, d = .sl 3 (k + j) 0 l.length N ∧ ex[j]? = some (.arr N .leaf, .agg L) ∧ L.length = N ∧ l.length ≤ N ∧ N ≤ maxLen ∧ L.take l.length = (l.map fun n => .lit (.int .i64 n)) ∧
    ∀ N s L, (Sh.arr N s, D.agg L) ∈ ex → pureL L

theorem sh_int : CT.sh 3 = .leaf := rfl
theorem zero_int : CT.zero 3 = .lit (.int .i64 0) := rfl
theorem pure_reps (n : Nat) : pureL (List.replicate n (D.lit (.int .i64 0))) := by
  induction n with
  | zero => trivial
  | succ n ih => exact ⟨trivial, ih⟩
theorem pureL_app {a b : List D} (h1 : pureL a) (h2 : pureL b) : pureL (a ++ b) := by
  induction a with
  | nil => exact h2
  | cons x r ih => exact ⟨h1.1, ih h1.2⟩
theorem pureL_take {a : List D} (n : Nat) (h : pureL a) : pureL (a.take n) := by
  induction a generalizing n with
  | nil => simpa using h
  | cons x r ih => cases n with
    | zero => trivial
    | succ n => exact ⟨h.1, ih n h.2⟩
theorem pureL_drop {a : List D} (n : Nat) (h : pureL a) : pureL (a.drop n) := by
  induction a generalizing n with
  | nil => simpa using h
  | cons x r ih => cases n with
    | zero => exact h
    | succ n => exact ih n h.2
theorem pure_ints (l : List Int) : pureL (l.map fun n => D.lit (.int .i64 n)) := by
  induction l with
  | nil => trivial
  | cons x r ih => exact ⟨trivial, ih⟩

theorem out_app {k : Nat} {d : D} {base ex : List (Sh × D)} {l : List Int} {n : Int} {K : St → Prop} {dst : Option Tmp} {ts : List D} {tk : List Bool} (t' : Tok) (ho : Out k d ex l) (hk : base.length = k) (hl : l.length < 1000000000)
    (h : ∀ d' ex', Out k d' ex' (l ++ [n]) → K (St.put ⟨ts, ⟨base ++ ex', tk⟩⟩ dst d')) : appK CT true K dst ts (base ++ ex) tk (.slice 3) d (.lst 3 [.lit (.int .i64 n)] t') := by
  have hby : CT.bytes 3 = 8 := rfl
  rcases ho with ⟨rfl, rfl, rfl⟩ | ⟨j, N, L, rfl, hj, hL, hlN, hN, htk, hpu⟩
  · refine appK_mut K dst ts 3 _ tk _ _ ⟨[], [.lit (.int .i64 n)], rfl, rfl, by rw [hby]; omega, by rw [hby]; simp, trivial, (by intro h; cases h), (by intro b lo n c N s L h; cases h), fun _ _ N h1 h2 => ?_⟩
    have := h (.sl 3 (k + 0) 0 ([] ++ [n]).length N) [(.arr N .leaf, .agg ([.lit (.int .i64 n)] ++ List.replicate (N - 1) (.lit (.int .i64 0))))] (.inr ⟨0, N, _, rfl, rfl, by simp at h1 ⊢; omega, by simpa using h1, h2, by simp, by
      intro N' s' L' hm
      simp only [List.mem_singleton, Prod.mk.injEq, D.agg.injEq] at hm
      obtain ⟨_, rfl⟩ := hm
      exact ⟨trivial, pure_reps _⟩⟩)
    subst hk
    simpa [Heap.var, zero_int, sh_int] using this
  · have hjl : j < ex.length := (List.getElem?_eq_some_iff.1 hj).1
    have hbx : (base ++ ex)[k + j]? = some (.arr N .leaf, .agg L) := by rw [List.getElem?_append_right (by omega), hk, Nat.add_sub_cancel_left]; exact hj
    have hset : ∀ y, (base ++ ex).set (k + j) y = base ++ ex.set j y := fun y => by rw [List.set_append_right _ _ (by omega), hk, Nat.add_sub_cancel_left]
    have hpL : pureL L := hpu _ _ _ (List.mem_of_getElem? hj)
    refine appK_mut K dst ts 3 _ tk _ _ ⟨l.map fun n => .lit (.int .i64 n), [.lit (.int .i64 n)], ?_, rfl, by rw [hby]; omega, by rw [hby]; simp; omega, trivial, (by intro h; cases h), ?_, ?_⟩
    · simp only [rowOf, hbx, List.drop_zero, htk]
    · intro b1 lo1 n1 c1 N1 s1 L1 h1 _ h2 h3
      cases h1
      simp only at h3
      rw [hbx] at h3; cases h3
      have e1 : l.length + 1 ≤ L.length := by simpa [hL] using h2
      have := h (.sl 3 (k + j) 0 (l ++ [n]).length N) (ex.set j (.arr N .leaf, .agg (overL L l.length [.lit (.int .i64 n)]))) (.inr ⟨j, N, _, rfl, List.getElem?_set_self hjl, by simp [overL]; omega, by simpa using (by simpa using h2 : l.length + 1 ≤ N), hN, ?_, ?_⟩)
      · simpa [hset] using this
      · rw [List.length_append, List.length_singleton]
        have := overL_take (L := L) (m := [.lit (.int .i64 n)]) (n := l.length) (by simpa using e1)
        simp only [List.length_singleton] at this
        rw [this, htk]; simp
      · intro N' s' L' hm
        rcases List.mem_or_eq_of_mem_set hm with h' | h'
        · exact hpu _ _ _ h'
        · simp only [Prod.mk.injEq, D.agg.injEq] at h'
          obtain ⟨_, rfl⟩ := h'
          exact pureL_app (pureL_app (pureL_take _ hpL) ⟨trivial, trivial⟩) (pureL_drop _ hpL)
    · intro h1 _ N' h2 h3
      have := h (.sl 3 (k + ex.length) 0 (l ++ [n]).length N') (ex ++ [(.arr N' .leaf, .agg ((l ++ [n]).map (fun n => .lit (.int .i64 n)) ++ List.replicate (N' - (l.length + 1)) (.lit (.int .i64 0))))]) (.inr ⟨ex.length, N', (l ++ [n]).map (fun n => .lit (.int .i64 n)) ++ List.replicate (N' - (l.length + 1)) (.lit (.int .i64 0)), rfl, by simp, by simp at h2 ⊢; omega, by simpa using h2, h3, by rw [List.take_append_of_le_length (by simp), List.take_of_length_le (by simp)], ?_⟩)
      · subst hk
        simpa [Heap.var, zero_int, sh_int] using this
      · intro N' s' L' hm
        rcases List.mem_append.1 hm with h' | h'
        · exact hpu _ _ _ h'
        · simp only [List.mem_singleton, Prod.mk.injEq, D.agg.injEq] at h'
          obtain ⟨_, rfl⟩ := h'
          exact pureL_app (pure_ints _) (pure_reps _)

theorem out_nrm {k : Nat} {d : D} {ex : List (Sh × D)} {l : List Int} (ho : Out k d ex l) (t : TypeId) : nrm CT t d = d := by
  rcases ho with ⟨rfl, _⟩ | ⟨j, N, L, rfl, _⟩
  · simp only [nrm_lst]
  · simp only [nrm_sl]

theorem sort_perm {l s : List Int} (h : l.Perm s) : sortI l = sortI s := by
  have tr : ∀ a b c : Int, decide (a ≤ b) = true → decide (b ≤ c) = true → decide (a ≤ c) = true := by intro a b c; simp; omega
  have to : ∀ a b : Int, (decide (a ≤ b) || decide (b ≤ a)) = true := by intro a b; simp; omega
  refine List.Perm.eq_of_pairwise (le := fun a b => decide (a ≤ b) = true) (fun a b _ _ h1 h2 => by simp at h1 h2; omega) (List.pairwise_mergeSort tr to l) (List.pairwise_mergeSort tr to s) ?_
  exact (List.mergeSort_perm l _).trans (h.trans (List.mergeSort_perm s _).symm)

set_option maxRecDepth 8000 in
/-- roster.closed -/
theorem roster_closed (i : Nat) (u : List Int) (c0 : Nat) (bs : List (Sh × D)) (hm : bs[i]? = some (.obj 1, setD u c0)) (hnd : u.Nodup) (hul : u.length < 1000000) :
    HSpec Try.prog CT 78 [.mref i] bs fun r bs' => r = intsL (sortI u) .no ∧ bs' = bs := by
  have hml : i < bs.length := (List.getElem?_eq_some_iff.1 hm).1
  refine HSpec.of hT Try.func78 rfl (by kernel_rfl) rfl rfl fun tk => ?_
  simp only [Try.f78, go_sem, Nat.reduceAdd, Nat.reduceSub, Nat.reduceMul, Nat.reduceLT, Nat.reduceLeDiff, ↓reduceIte, reduceCtorEq, Nat.reduceEqDiff, Int.reduceToNat, Int.reduceLT, Int.reduceLE, Int.reduceEq, beq_self_eq_true]
  refine mapRange_set rfl rfl hm ?_
  simp only [go_sem, Nat.reduceAdd, Nat.reduceSub, Nat.reduceMul, Nat.reduceLT, Nat.reduceLeDiff, ↓reduceIte, reduceCtorEq, Nat.reduceEqDiff, Int.reduceToNat, Int.reduceLT, Int.reduceLE, Int.reduceEq, beq_self_eq_true]
  refine awp_loop (fun n s => ∃ (x : List (Sh × D)) (ex : List (Sh × D)) (d : D) (l : List Int) (g : Nat → D), s = ⟨[.mref i, g 1, g 2, d, g 4, g 5, .ptr bs.length [], g 7, g 8, g 9, g 10, g 11, g 12, g 13, g 14, g 15, g 16, g 17], ⟨x, tk⟩⟩ ∧ n = togo u l ∧ x = bs ++ [(.obj 2, .it i c0 (seenD l))] ++ ex ∧ Out (bs.length + 1) d ex l ∧ l.Nodup ∧ (∀ n ∈ l, n ∈ u)) (togo u []) ⟨bs ++ [(.obj 2, .it i c0 [])], [], .lst 3 [] .full, [], reg_intro rfl rfl ⟨rfl, (List.append_nil _).symm, .inl ⟨rfl, rfl, rfl⟩, by simp, by simp⟩⟩ ?_
  rintro q st ⟨x, ex, d, l, g, rfl, hn, hx, ho, hlnd, hlu⟩
  subst hx
  have xm : ∀ y, (bs ++ [y] ++ ex)[i]? = some (.obj 1, setD u c0) := fun y => by rw [List.append_assoc, List.getElem?_append_left hml]; exact hm
  have xl : ∀ y, (bs ++ [y] ++ ex)[bs.length]? = some y := fun y => by simp
  have xs : ∀ y y', (bs ++ [y] ++ ex).set bs.length y' = bs ++ [y'] ++ ex := fun y y' => by simp
  have hll : l.length ≤ u.length := hlnd.length_le_of_subset hlu
  simp only [go_sem, Nat.reduceAdd, Nat.reduceSub, Nat.reduceMul, Nat.reduceLT, Nat.reduceLeDiff, ↓reduceIte, reduceCtorEq, Nat.reduceEqDiff, Int.reduceToNat, Int.reduceLT, Int.reduceLE, Int.reduceEq, beq_self_eq_true]
  refine next_set (xm _) (xl _) (fun n hn1 hn2 => ?_) (fun hall => ?_)
  · simp only [go_sem, Nat.reduceAdd, Nat.reduceSub, Nat.reduceMul, Nat.reduceLT, Nat.reduceLeDiff, ↓reduceIte, reduceCtorEq, Nat.reduceEqDiff, Int.reduceToNat, Int.reduceLT, Int.reduceLE, Int.reduceEq, beq_self_eq_true, xs]
    simp only [go_sem, Nat.reduceAdd, Nat.reduceSub, Nat.reduceMul, Nat.reduceLT, Nat.reduceLeDiff, ↓reduceIte, reduceCtorEq, Nat.reduceEqDiff, Int.reduceToNat, Int.reduceLT, Int.reduceLE, Int.reduceEq, beq_self_eq_true, entry_set (n := n) (l := l) (xm _) (xl _) hn1, out_nrm ho]
    refine out_app (k := bs.length + 1) (base := bs ++ [((Sh.obj 2), D.it i c0 (seenD (l ++ [n])))]) (l := l) _ ho (by simp) (by omega) fun d' ex' ho' => ?_
    simp only [go_sem, Nat.reduceAdd, Nat.reduceSub, Nat.reduceMul, Nat.reduceLT, Nat.reduceLeDiff, ↓reduceIte, reduceCtorEq, Nat.reduceEqDiff, Int.reduceToNat, Int.reduceLT, Int.reduceLE, Int.reduceEq, beq_self_eq_true, out_nrm ho']
    refine ⟨togo u (l ++ [n]), by rw [hn]; exact togo_lt hn1 hn2, bs ++ [(.obj 2, .it i c0 (seenD (l ++ [n])))] ++ ex', ex', d', l ++ [n], reg_intro rfl rfl ⟨rfl, rfl, ho', ?_, ?_⟩⟩
    · exact List.nodup_append.2 ⟨hlnd, by simp, fun a ha b hb => by rw [List.mem_singleton] at hb; subst hb; rintro rfl; exact hn2 ha⟩
    · intro y hy
      rcases List.mem_append.1 hy with h | h
      · exact hlu y h
      · rw [List.mem_singleton] at h; subst h; exact hn1
  · have hperm : l.Perm u := (List.perm_ext_iff_of_nodup hlnd hnd).2 fun a => ⟨hlu a, hall a⟩
    have hsort : sortI l = sortI u := sort_perm hperm
    simp only [go_sem, Nat.reduceAdd, Nat.reduceSub, Nat.reduceMul, Nat.reduceLT, Nat.reduceLeDiff, ↓reduceIte, reduceCtorEq, Nat.reduceEqDiff, Int.reduceToNat, Int.reduceLT, Int.reduceLE, Int.reduceEq, beq_self_eq_true]
    rcases ho with ⟨rfl, rfl, rfl⟩ | ⟨j, N, L, rfl, hj, hL, hlN, hN, htk, hpu⟩
    · refine ⟨_, sort_nil .full _ tk, ?_⟩
      rintro _ _ ⟨rfl, rfl⟩
      simp only [go_sem, Nat.reduceAdd, Nat.reduceSub, Nat.reduceMul, Nat.reduceLT, Nat.reduceLeDiff, ↓reduceIte, reduceCtorEq, Nat.reduceEqDiff, Int.reduceToNat, Int.reduceLT, Int.reduceLE, Int.reduceEq, beq_self_eq_true]
      have e := finH_drop (ex := [((Sh.obj 2), D.it i c0 (seenD []))]) (bs := bs) (tk := tk) (r := .lst 3 [] .full) (R := fun r bs' => r = intsL (sortI u) .no ∧ bs' = bs) (by simp) (by simp [meltD, lowD]) ⟨by rw [← hsort]; simp [meltD, sortI], rfl⟩ []
      simpa using e
    · have hjl : j < ex.length := (List.getElem?_eq_some_iff.1 hj).1
      have hbx : ∀ y, (bs ++ [y] ++ ex)[bs.length + 1 + j]? = some (.arr N .leaf, .agg L) := fun y => by rw [List.getElem?_append_right (by simp)]; simpa using hj
      refine ⟨_, sort_sl l (by omega) tk (hbx _) hlN htk, ?_⟩
      rintro _ _ ⟨rfl, rfl⟩
      simp only [go_sem, Nat.reduceAdd, Nat.reduceSub, Nat.reduceMul, Nat.reduceLT, Nat.reduceLeDiff, ↓reduceIte, reduceCtorEq, Nat.reduceEqDiff, Int.reduceToNat, Int.reduceLT, Int.reduceLE, Int.reduceEq, beq_self_eq_true]
      have hset : ∀ y z, (bs ++ [y] ++ ex).set (bs.length + 1 + j) z = bs ++ (y :: ex.set j z) := fun y z => by rw [List.set_append_right _ _ (by simp)]; simp
      rw [hset]
      have hsl : (sortI l).length = l.length := List.length_mergeSort l
      have hpL : pureL L := hpu _ _ _ (List.mem_of_getElem? hj)
      have hm : meltD (bs ++ ((Sh.obj 2), D.it i c0 (seenD l)) :: ex.set j (Sh.arr N .leaf, .agg (overL L 0 ((sortI l).map fun n => .lit (.int .i64 n))))) bs.length (.sl 3 (bs.length + 1 + j) 0 l.length N) = intsL (sortI u) .no := by
        have hg : (bs ++ ((Sh.obj 2), D.it i c0 (seenD l)) :: ex.set j (Sh.arr N .leaf, .agg (overL L 0 ((sortI l).map fun n => .lit (.int .i64 n)))))[bs.length + 1 + j]? = some (Sh.arr N .leaf, .agg (overL L 0 ((sortI l).map fun n => .lit (.int .i64 n)))) := by
          rw [List.getElem?_append_right (by omega)]
          have e : bs.length + 1 + j - bs.length = j + 1 := by omega
          rw [e, List.getElem?_cons_succ, List.getElem?_set_self hjl]
        simp only [meltD]
        rw [if_pos (by omega), hg]
        simp only [List.drop_zero, ← hsort, intsL]
        have := overL_take (L := L) (m := (sortI l).map fun n => D.lit (.int .i64 n)) (n := 0) (by simp [hsl]; omega)
        simp only [Nat.zero_add, List.length_map, List.take_zero, List.nil_append, hsl] at this
        rw [this]
      have e := finH_drop (ex := ((Sh.obj 2), D.it i c0 (seenD l)) :: ex.set j (Sh.arr N .leaf, .agg (overL L 0 ((sortI l).map fun n => .lit (.int .i64 n))))) (bs := bs) (tk := tk) (r := .sl 3 (bs.length + 1 + j) 0 l.length N) (R := fun r bs' => r = intsL (sortI u) .no ∧ bs' = bs) ?_ (by rw [hm]; simp [lowD]) ⟨hm, rfl⟩ []
      · simpa using e
      · intro N' s' L' hmem
        rcases List.mem_cons.1 hmem with h' | h'
        · cases h'
        · rcases List.mem_or_eq_of_mem_set h' with h' | h'
          · exact hpu _ _ _ h'
          · simp only [Prod.mk.injEq, D.agg.injEq] at h'
            obtain ⟨_, rfl⟩ := h'
            exact pureL_app (pureL_app (pureL_take _ hpL) (pure_ints _)) (pureL_drop _ hpL)
end Go.Ab
