/- Slices of the call's own, to which elements come one by one. Conditions: none. -/
import Derived.Test.YtgliaanopmlmfaaAbPg
set_option linter.unusedSimpArgs false
namespace Go.Ab
open Go.Proofs

theorem pureL_cat {a b : List D} (h1 : pureL a) (h2 : pureL b) : pureL (a ++ b) := by
  induction a with
  | nil => exact h2
  | cons x r ih => exact ⟨h1.1, ih h1.2⟩
theorem pureL_rep (n : Nat) (d : D) (h : pureD d) : pureL (List.replicate n d) := by
  induction n with
  | zero => trivial
  | succ n ih => exact ⟨h, ih⟩
theorem pureL_tk {a : List D} (n : Nat) (h : pureL a) : pureL (a.take n) := by
  induction a generalizing n with
  | nil => simpa using h
  | cons x r ih => cases n with
    | zero => trivial
    | succ n => exact ⟨h.1, ih n h.2⟩
theorem pureL_dr {a : List D} (n : Nat) (h : pureL a) : pureL (a.drop n) := by
  induction a generalizing n with
  | nil => simpa using h
  | cons x r ih => cases n with
    | zero => exact h
    | succ n => exact ih n h.2
theorem pureL_ov {L m : List D} {o : Nat} (h : pureL L) (hm : pureL m) : pureL (overL L o m) := pureL_cat (pureL_cat (pureL_tk _ h) hm) (pureL_dr _ h)
theorem pureL_all {l : List D} (h : ∀ d ∈ l, pureD d) : pureL l := by
  induction l with
  | nil => trivial
  | cons x r ih => exact ⟨h x (by simp), ih fun d hd => h d (by simp [hd])⟩

/-- What a slice's cells hold, behind the boxes that were there. -/
def OutX (e : TypeId) (k : Nat) (d : D) (ex : List (Sh × D)) (l : List D) : Prop :=
  (∀ N s L, (Sh.arr N s, D.agg L) ∈ ex → pureL L) ∧ pureL l ∧ ((d = .lst e [] .full ∧ l = []) ∨ ∃ j N L, d = .sl e (k + j) 0 l.length N ∧ ex[j]? = some (.arr N (CT.sh e), .agg L) ∧ L.length = N ∧ l.length ≤ N ∧ N ≤ maxLen ∧ L.take l.length = l)

theorem outX_nil (e : TypeId) (k : Nat) : OutX e k (.lst e [] .full) [] [] := ⟨by simp, trivial, .inl ⟨rfl, rfl⟩⟩
theorem outX_push {e : TypeId} {k : Nat} {d : D} {ex : List (Sh × D)} {l : List D} (ho : OutX e k d ex l) (ys : List (Sh × D)) (hy : ∀ N s L, (Sh.arr N s, D.agg L) ∈ ys → pureL L) : OutX e k d (ex ++ ys) l := by
  obtain ⟨h1, hp, h2⟩ := ho
  refine ⟨fun N s L h => (List.mem_append.1 h).elim (h1 N s L) (hy N s L), hp, ?_⟩
  rcases h2 with h2 | ⟨j, N, L, h3, h4, h5⟩
  · exact .inl h2
  · exact .inr ⟨j, N, L, h3, by rw [List.getElem?_append_left (List.getElem?_eq_some_iff.1 h4).1]; exact h4, h5⟩
theorem outX_nrm {e : TypeId} {k : Nat} {d : D} {ex : List (Sh × D)} {l : List D} (ho : OutX e k d ex l) (t : TypeId) : nrm CT t d = d := by
  rcases ho.2.2 with ⟨rfl, _⟩ | ⟨j, N, L, rfl, _⟩
  · simp only [nrm_lst]
  · simp only [nrm_sl]
theorem outX_leaf {e : TypeId} {k : Nat} {d : D} {ex : List (Sh × D)} {l : List D} (ho : OutX e k d ex l) : hasSh .leaf d := by
  rcases ho.2.2 with ⟨rfl, _⟩ | ⟨j, N, L, rfl, _⟩ <;> simp [hasSh, D.isLeaf]
theorem outX_row {e : TypeId} {k : Nat} {d : D} {base ex : List (Sh × D)} {tk : List Bool} {l : List D} (ho : OutX e k d ex l) (hk : base.length = k) : rowOf ⟨base ++ ex, tk⟩ d = some (e, l) := by
  rcases ho.2.2 with ⟨rfl, rfl⟩ | ⟨j, N, L, rfl, hj, _, _, _, hl⟩
  · rfl
  · have : (base ++ ex)[k + j]? = some (.arr N (CT.sh e), .agg L) := by rw [List.getElem?_append_right (by omega), hk, Nat.add_sub_cancel_left]; exact hj
    simp only [rowOf, this, List.drop_zero, hl]
theorem outX_len {e : TypeId} {k : Nat} {d : D} {ex : List (Sh × D)} {l : List D} (ho : OutX e k d ex l) {t : TypeId} (ht : CT.ty t = .slice e) (h : Heap) (ts : List TypeId) : builtinD CT h .len (t :: ts) [d] = some (.int l.length) := by
  rcases ho.2.2 with ⟨rfl, rfl⟩ | ⟨j, N, L, rfl, hj, _, _, _, hl⟩
  · simp [builtinD, nrm, lenD, ht]
  · simp [builtinD, nrm, lenD, ht]
/-- At a function's end: what was put into it. -/
theorem outX_melt {e : TypeId} {k : Nat} {d : D} {base ex : List (Sh × D)} {l : List D} (ho : OutX e k d ex l) (hk : base.length = k) {q : Nat} (hq : q ≤ k) : meltD (base ++ ex) q d = .lst e l .no := by
  rcases ho.2.2 with ⟨rfl, rfl⟩ | ⟨j, N, L, rfl, hj, _, _, _, hl⟩
  · rfl
  · have : (base ++ ex)[k + j]? = some (.arr N (CT.sh e), .agg L) := by rw [List.getElem?_append_right (by omega), hk, Nat.add_sub_cancel_left]; exact hj
    simp only [meltD]
    rw [if_pos (by omega), this]
    simp only [List.drop_zero, hl]

/-- One more element comes. -/
theorem outX_app {e : TypeId} {k : Nat} {d : D} {base ex : List (Sh × D)} {l : List D} {x : D} {K : St → Prop} {dst : Option Tmp} {ts : List D} {tk : List Bool} (t' : Tok) (ho : OutX e k d ex l) (hk : base.length = k) (hl : l.length < 1000000000)
    (hby : 0 < CT.bytes e ∧ CT.bytes e ≤ 100000) (hx : pureD x) (hz : pureD (CT.zero e))
    (h : ∀ d' ex', OutX e k d' ex' (l ++ [x]) → ex.length ≤ ex'.length → K (St.put ⟨ts, ⟨base ++ ex', tk⟩⟩ dst d')) : appK CT true K dst ts (base ++ ex) tk (.slice e) d (.lst e [x] t') := by
  have hrow := outX_row (tk := tk) ho hk
  obtain ⟨hpu, hpl, ho⟩ := ho
  have hbb : (l.length + 1) * CT.bytes e ≤ 140737488355328 := by
    calc (l.length + 1) * CT.bytes e ≤ 1000000001 * 100000 := Nat.mul_le_mul (by omega) hby.2
      _ ≤ _ := by omega
  refine appK_mut K dst ts e _ tk _ _ ⟨l, [x], hrow, rfl, hby.1, by simpa using hbb, by rcases ho with ⟨rfl, _⟩ | ⟨j, N, L, rfl, _⟩ <;> trivial, (by intro h; cases h), ?_, ?_⟩
  · intro b1 lo1 n1 c1 N1 s1 L1 h1 _ h2 h3
    rcases ho with ⟨rfl, rfl⟩ | ⟨j, N, L, rfl, hj, hL, hlN, hN, htk⟩
    · cases h1
    · have hjl : j < ex.length := (List.getElem?_eq_some_iff.1 hj).1
      have hbx : (base ++ ex)[k + j]? = some (.arr N (CT.sh e), .agg L) := by rw [List.getElem?_append_right (by omega), hk, Nat.add_sub_cancel_left]; exact hj
      have hset : ∀ y, (base ++ ex).set (k + j) y = base ++ ex.set j y := fun y => by rw [List.set_append_right _ _ (by omega), hk, Nat.add_sub_cancel_left]
      have hpL : pureL L := hpu _ _ _ (List.mem_of_getElem? hj)
      simp only [D.sl.injEq] at h1
      obtain ⟨_, rfl, rfl, rfl, rfl⟩ := h1
      simp only at h3
      rw [hbx] at h3
      simp only [Option.some.injEq, Prod.mk.injEq, Sh.arr.injEq, D.agg.injEq] at h3
      obtain ⟨⟨rfl, rfl⟩, rfl⟩ := h3
      have e1 : l.length + 1 ≤ N := by simpa using h2
      have e2 : overL L (0 + l.length) [x] = overL L l.length [x] := by rw [Nat.zero_add]
      rw [e2]
      have := h (.sl e (k + j) 0 (l ++ [x]).length N) (ex.set j (.arr N (CT.sh e), .agg (overL L l.length [x]))) ⟨?_, pureL_cat hpl ⟨hx, trivial⟩, .inr ⟨j, N, _, rfl, List.getElem?_set_self hjl, by simp [overL]; omega, by simpa using e1, hN, ?_⟩⟩ (by simp)
      · simpa [hset] using this
      · intro N' s' L' hm
        rcases List.mem_or_eq_of_mem_set hm with h' | h'
        · exact hpu _ _ _ h'
        · simp only [Prod.mk.injEq, D.agg.injEq] at h'
          obtain ⟨_, rfl⟩ := h'
          exact pureL_ov hpL ⟨hx, trivial⟩
      · have := overL_take (L := L) (m := [x]) (n := l.length) (by simp; omega)
        simp only [List.length_singleton] at this
        rw [List.length_append, List.length_singleton, this, htk]
  · intro _ _ N' h2 h3
    simp only [List.length_singleton] at h2 ⊢
    have := h (.sl e (k + ex.length) 0 (l ++ [x]).length N') (ex ++ [(.arr N' (CT.sh e), .agg (l ++ [x] ++ List.replicate (N' - (l.length + 1)) (CT.zero e)))]) ⟨?_, pureL_cat hpl ⟨hx, trivial⟩, .inr ⟨ex.length, N', l ++ [x] ++ List.replicate (N' - (l.length + 1)) (CT.zero e), rfl, by simp, by simp at h2 ⊢; omega, by simpa using h2, h3, by rw [List.take_append_of_le_length (by simp), List.take_of_length_le (by simp)]⟩⟩ (by simp)
    · subst hk
      simpa [Heap.var] using this
    · intro N' s' L' hm
      rcases List.mem_append.1 hm with h' | h'
      · exact hpu _ _ _ h'
      · simp only [List.mem_singleton, Prod.mk.injEq, D.agg.injEq] at h'
        obtain ⟨_, rfl⟩ := h'
        exact pureL_cat (pureL_cat hpl ⟨hx, trivial⟩) (pureL_rep _ _ hz)
end Go.Ab
