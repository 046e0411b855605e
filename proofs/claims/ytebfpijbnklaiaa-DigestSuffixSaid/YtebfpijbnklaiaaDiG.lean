/- What comes to both, in plain words. Conditions: none. -/
import Derived.Test.YtebfpijbnklaiaaDiE
set_option linter.unusedSimpArgs false
namespace Go.Ab
open Go.Proofs

/-- Transactions one behind the other, from what there is. -/
structure Runs (a : List TxR) : Prop where
  rdy : ∀ k, k < a.length → readyTx (vecOf (a.take k)) (txAt a k) = true
theorem runs_of {l : List TxR} {s : List Int × List TxR} (h : Good l s) (m : Nat) : Runs (s.2.take m) := by
  refine ⟨fun k hk => ?_⟩
  have hk1 : k < m ∧ k < s.2.length := by simp at hk; omega
  have e1 : (s.2.take m).take k = s.2.take k := by rw [List.take_take, Nat.min_eq_left (by omega)]
  have e2 : txAt (s.2.take m) k = txAt s.2 k := by
    unfold txAt
    rw [List.getD_eq_getElem?_getD, List.getD_eq_getElem?_getD, List.getElem?_take_of_lt hk1.1]
  rw [e1, e2]; exact h.rdy k hk1.2
def setT (v : List Int) (t : TxR) : List Int := v.set t.peer.toNat t.seq
theorem foldT_len (s : List TxR) : ∀ v : List Int, (s.foldl setT v).length = v.length := by
  induction s with
  | nil => intro v; rfl
  | cons t s ih => intro v; rw [List.foldl_cons, ih]; simp [setT]
theorem vec_at {a : List TxR} (h : Runs a) {k : Nat} (hk : k < a.length) (p : Nat) (_ : p < 13) :
    (vecOf (a.take (k + 1))).getD p 0 = if p = (txAt a k).peer.toNat then (txAt a k).seq else (vecOf (a.take k)).getD p 0 := by
  obtain ⟨_, p1⟩ := vpeer_of (ready_facts (h.rdy k hk)).1
  rw [vecOf_take a k hk, getD_set _ _ _ _ (by rw [vecOf_len]; exact p1)]
theorem vec_up {a : List TxR} (h : Runs a) {k : Nat} (hk : k < a.length) (p : Nat) (hp : p < 13) : (vecOf (a.take k)).getD p 0 ≤ (vecOf (a.take (k + 1))).getD p 0 := by
  rw [vec_at h hk p hp]
  split
  · rename_i e
    obtain ⟨f1, f2, f3, f4⟩ := ready_facts (h.rdy k hk)
    rw [e, f3]; omega
  · exact Int.le_refl _
theorem vec_mono {a : List TxR} (h : Runs a) (p : Nat) (hp : p < 13) : ∀ {i j : Nat}, i ≤ j → j ≤ a.length → (vecOf (a.take i)).getD p 0 ≤ (vecOf (a.take j)).getD p 0 := by
  intro i j hij
  induction j with
  | zero => intro _; obtain rfl : i = 0 := by omega
            exact Int.le_refl _
  | succ j ih =>
    intro hj
    by_cases e : i = j + 1
    · subst e; exact Int.le_refl _
    · exact Int.le_trans (ih (by omega) (by omega)) (vec_up h (by omega) p hp)
theorem vec_zero (p : Nat) (hp : p < 13) : (vecOf ([] : List TxR)).getD p 0 = 0 := by
  have : ∀ p, p < 13 → (zeros 13).getD p 0 = 0 := by decide +kernel
  exact this p hp
theorem vec_nonneg {a : List TxR} (h : Runs a) (p : Nat) (hp : p < 13) {j : Nat} (hj : j ≤ a.length) : 0 ≤ (vecOf (a.take j)).getD p 0 := by
  have := vec_mono h p hp (Nat.zero_le j) hj
  rw [List.take_zero, vec_zero p hp] at this; exact this

theorem has_iff {v : List Int} {t : TxR} (hp : vpeer t.peer = true) (hs : 1 ≤ t.seq) : vhas v t.peer t.seq = decide (t.seq ≤ v.getD t.peer.toNat 0) := by
  simp only [vhas, hp, Bool.true_and, decide_eq_true hs]

/-- What both have, when so many have come. -/
theorem runs_step {a : List TxR} (h : Runs a) {th : List Int} (hl : th.length = 13) {k : Nat} (hk : k < a.length) (hd : (txAt a k).deps.length = 13) :
    (vhas th (txAt a k).peer (txAt a k).seq = true → vjoin (vecOf (a.take (k + 1))) th = vjoin (vecOf (a.take k)) th) ∧
    (vhas th (txAt a k).peer (txAt a k).seq = false → readyTx (vjoin (vecOf (a.take k)) th) (txAt a k) = true ∧ vjoin (vecOf (a.take (k + 1))) th = setT (vjoin (vecOf (a.take k)) th) (txAt a k)) := by
  have hr := h.rdy k hk
  obtain ⟨f1, f2, f3, f4⟩ := ready_facts hr
  obtain ⟨p0, p1⟩ := vpeer_of f1
  have l1 := vecOf_len (a.take k)
  have l2 := vecOf_len (a.take (k + 1))
  have j1 := vjoin_len _ _ l1 hl
  have j2 := vjoin_len _ _ l2 hl
  rw [has_iff f1 f2]
  constructor
  · intro hh
    have hh := of_decide_eq_true hh
    refine ext13 j2 j1 fun p hp => ?_
    rw [vjoin_at _ _ l2 hl p hp, vjoin_at _ _ l1 hl p hp, vec_at h hk p hp]
    split
    · rename_i e; subst e; omega
    · rfl
  · intro hh
    have hh := of_decide_eq_false hh
    have hjp : (vjoin (vecOf (a.take k)) th).getD (txAt a k).peer.toNat 0 = (txAt a k).seq - 1 := by
      rw [vjoin_at _ _ l1 hl _ p1]; omega
    constructor
    · simp only [readyTx, Bool.and_eq_true] at hr ⊢
      refine ⟨⟨hr.1.1, ?_⟩, ?_⟩
      · have h2 := hr.1.2
        simp only [nextR, f3, hjp] at h2 ⊢
        exact h2
      · exact vleq_trans hd l1 j1 f4 (vleq_join_l _ _ l1 hl)
    · refine ext13 j2 (by simp [setT, j1]) fun p hp => ?_
      rw [vjoin_at _ _ l2 hl p hp, vec_at h hk p hp, setT, getD_set _ _ _ _ (by rw [j1]; exact p1)]
      split
      · rename_i e; subst e; omega
      · rw [vjoin_at _ _ l1 hl p hp]
theorem runs_fold {a : List TxR} (h : Runs a) {th : List Int} (hl : th.length = 13) (hd : ∀ k, k < a.length → (txAt a k).deps.length = 13) {n : Nat} (h0 : vjoin (vecOf (a.take n)) th = th) :
    ∀ j, n + j ≤ a.length → (lackR ((a.drop n).take j) th).foldl setT th = vjoin (vecOf (a.take (n + j))) th
  | 0, _ => by simp [lackR, h0]
  | j + 1, hj => by
    have hk : n + j < a.length := by omega
    have ih := runs_fold h hl hd h0 j (by omega)
    have ht : txAt (a.drop n) j = txAt a (n + j) := by unfold txAt; rw [List.getD_eq_getElem?_getD, List.getD_eq_getElem?_getD, List.getElem?_drop]
    have hs := lackR_snoc (a.drop n) th j (by simp; omega)
    rw [ht] at hs
    obtain ⟨s1, s2⟩ := runs_step h hl hk (hd _ hk)
    rw [hs]
    cases hv : vhas th (txAt a (n + j)).peer (txAt a (n + j)).seq with
    | true => rw [if_pos rfl, ih]; exact (s1 hv).symm
    | false =>
      rw [if_neg (by simp), List.foldl_append, ih]
      exact (s2 hv).2.symm
/-- Where one that is left stood. -/
theorem filter_at {f : TxR → Bool} : ∀ {L : List TxR} {i : Nat}, i < (L.filter f).length → ∃ j, j < L.length ∧ txAt (L.filter f) i = txAt L j ∧ (L.take j).filter f = (L.filter f).take i ∧ f (txAt L j) = true
  | [], i, h => by simp at h
  | x :: L, i, h => by
    by_cases hx : f x = true
    · rw [List.filter_cons_of_pos hx] at h ⊢
      cases i with
      | zero => exact ⟨0, by simp, rfl, rfl, hx⟩
      | succ i =>
        obtain ⟨j, h1, h2, h3, h4⟩ := filter_at (L := L) (i := i) (by simpa using h)
        refine ⟨j + 1, by simp; omega, by simpa [txAt] using h2, ?_, by simpa [txAt] using h4⟩
        rw [List.take_succ_cons, List.take_succ_cons, List.filter_cons_of_pos hx, h3]
    · rw [List.filter_cons_of_neg hx] at h ⊢
      obtain ⟨j, h1, h2, h3, h4⟩ := filter_at (L := L) (i := i) h
      refine ⟨j + 1, by simp; omega, by simpa [txAt] using h2, ?_, by simpa [txAt] using h4⟩
      rw [List.take_succ_cons, List.filter_cons_of_neg hx, h3]
/-- Each that is sent can be delivered behind those ahead of it. -/
theorem sent_ready {a : List TxR} (h : Runs a) {th : List Int} (hl : th.length = 13) (hd : ∀ k, k < a.length → (txAt a k).deps.length = 13) {n : Nat} (hn : n ≤ a.length) (h0 : vjoin (vecOf (a.take n)) th = th) {i : Nat} (hi : i < (lackR (a.drop n) th).length) :
    readyTx (((lackR (a.drop n) th).take i).foldl setT th) (txAt (lackR (a.drop n) th) i) = true ∧ vpeer (txAt (lackR (a.drop n) th) i).peer = true := by
  obtain ⟨j, h1, h2, h3, h4⟩ := filter_at hi
  simp only [List.length_drop] at h1
  have ht : txAt (a.drop n) j = txAt a (n + j) := by unfold txAt; rw [List.getD_eq_getElem?_getD, List.getD_eq_getElem?_getD, List.getElem?_drop]
  have hk : n + j < a.length := by omega
  have hf := runs_fold h hl hd h0 j (by omega)
  have e : (lackR (a.drop n) th).take i = lackR ((a.drop n).take j) th := h3.symm
  have e2 : txAt (lackR (a.drop n) th) i = txAt a (n + j) := h2.trans ht
  rw [e, hf, e2]
  rw [ht] at h4
  exact ⟨((runs_step h hl hk (hd _ hk)).2 (by simpa using h4)).1, (ready_facts (h.rdy _ hk)).1⟩
theorem sent_all {a : List TxR} (h : Runs a) {th : List Int} (hl : th.length = 13) (hd : ∀ k, k < a.length → (txAt a k).deps.length = 13) {n : Nat} (hn : n ≤ a.length) (h0 : vjoin (vecOf (a.take n)) th = th) :
    (lackR (a.drop n) th).foldl setT th = vjoin (vecOf a) th := by
  have := runs_fold h hl hd h0 (a.length - n) (by omega)
  rw [List.take_of_length_le (by simp), show n + (a.length - n) = a.length by omega, List.take_length] at this
  exact this
theorem sent_none {a : List TxR} (h : Runs a) {th : List Int} (hl : th.length = 13) (hd : ∀ k, k < a.length → (txAt a k).deps.length = 13) {n : Nat} (hn : n ≤ a.length) (h0 : vjoin (vecOf (a.take n)) th = th) :
    (!vleq (vecOf a) th) = decide (0 < (lackR (a.drop n) th).length) := by
  by_cases hz : (lackR (a.drop n) th).length = 0
  · have e := sent_all h hl hd hn h0
    rw [List.eq_nil_of_length_eq_zero hz, List.foldl_nil] at e
    have : vleq (vecOf a) th = true := decide_eq_true e.symm
    rw [this, hz]; rfl
  · have hpos : 0 < (lackR (a.drop n) th).length := by omega
    obtain ⟨j, h1, h2, h3, h4⟩ := filter_at hpos
    simp only [List.length_drop] at h1
    have ht : txAt (a.drop n) j = txAt a (n + j) := by unfold txAt; rw [List.getD_eq_getElem?_getD, List.getD_eq_getElem?_getD, List.getElem?_drop]
    have hk : n + j < a.length := by omega
    rw [ht] at h4
    obtain ⟨f1, f2, f3, f4⟩ := ready_facts (h.rdy _ hk)
    obtain ⟨p0, p1⟩ := vpeer_of f1
    have hno : vleq (vecOf a) th = false := by
      rw [← Bool.not_eq_true, vleq_iff _ _ (vecOf_len a) hl]
      intro hle
      have g1 := hle _ p1
      have g2 := vec_mono h _ p1 (show n + j + 1 ≤ a.length by omega) (Nat.le_refl _)
      rw [List.take_length, vec_at h hk _ p1, if_pos rfl] at g2
      have h5 : vhas th (txAt a (n + j)).peer (txAt a (n + j)).seq = false := by simpa using h4
      rw [has_iff f1 f2] at h5
      have h6 := of_decide_eq_false h5
      omega
    rw [hno, decide_eq_true hpos]; rfl
/-- What is had may be left out. -/
theorem pruned_le {a : List TxR} (h : Runs a) {th : List Int} (hl : th.length = 13) (hnn : ∀ p, p < 13 → 0 ≤ th.getD p 0) : ∀ {n : Nat}, n ≤ a.length → (∀ k, k < n → vhas th (txAt a k).peer (txAt a k).seq = true) → vjoin (vecOf (a.take n)) th = th
  | 0, _, _ => by
    refine ext13 (vjoin_len _ _ (vecOf_len _) hl) hl fun p hp => ?_
    rw [vjoin_at _ _ (vecOf_len _) hl p hp, List.take_zero, vec_zero p hp]
    have := hnn p hp; omega
  | n + 1, hn, hh => by
    have ih := pruned_le h hl hnn (n := n) (by omega) fun k hk => hh k (by omega)
    have hk : n < a.length := by omega
    obtain ⟨f1, f2, f3, f4⟩ := ready_facts (h.rdy _ hk)
    have hv := hh n (by omega)
    rw [has_iff f1 f2] at hv
    have hv := of_decide_eq_true hv
    refine ext13 (vjoin_len _ _ (vecOf_len _) hl) hl fun p hp => ?_
    have ihp := congrArg (fun l : List Int => l.getD p 0) ih
    simp only [vjoin_at _ _ (vecOf_len _) hl p hp] at ihp ⊢
    rw [vec_at h hk p hp]
    split
    · rename_i e; subst e; omega
    · exact ihp
end Go.Ab
