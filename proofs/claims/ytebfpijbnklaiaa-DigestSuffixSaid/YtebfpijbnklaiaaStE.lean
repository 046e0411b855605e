/- What is delivered is closed. Conditions: none. -/
import Derived.Test.YtebfpijbnklaiaaStD
set_option linter.unusedSimpArgs false
namespace Go.Ab
open Go.Proofs

def vecOf (o : List TxR) : List Int := o.foldl (fun v t => v.set t.peer.toNat t.seq) (zeros 13)
theorem vecOf_snoc (o : List TxR) (t : TxR) : vecOf (o ++ [t]) = (vecOf o).set t.peer.toNat t.seq := by
  simp only [vecOf, List.foldl_append, List.foldl_cons, List.foldl_nil]
theorem vecOf_len : ∀ o : List TxR, (vecOf o).length = 13 := by
  have : ∀ (o : List TxR) (v : List Int), v.length = 13 → (o.foldl (fun v t => v.set t.peer.toNat t.seq) v).length = 13 := by
    intro o
    induction o with
    | nil => intro v h; exact h
    | cons t o ih => intro v h; exact ih _ (by simp [h])
  exact fun o => this o _ (zeros_len 13)
theorem txTake (o : List TxR) (m : Nat) (h : m < o.length) : o.take (m + 1) = o.take m ++ [txAt o m] := by
  unfold txAt
  rw [List.take_add_one, List.getElem?_eq_getElem h, List.getD_eq_getElem?_getD, List.getElem?_eq_getElem h]; rfl
theorem txAt_app (o : List TxR) (t : TxR) (k : Nat) (h : k < o.length) : txAt (o ++ [t]) k = txAt o k := by
  unfold txAt
  rw [List.getD_eq_getElem?_getD, List.getD_eq_getElem?_getD, List.getElem?_append_left h]
theorem txAt_last (o : List TxR) (t : TxR) : txAt (o ++ [t]) o.length = t := by
  unfold txAt
  rw [List.getD_eq_getElem?_getD]; simp
theorem txAt_mem {o : List TxR} {k : Nat} (h : k < o.length) : txAt o k ∈ o := by
  unfold txAt
  rw [List.getD_eq_getElem?_getD, List.getElem?_eq_getElem h]; exact List.getElem_mem h

structure Good (l : List TxR) (s : List Int × List TxR) : Prop where
  vec : s.1 = vecOf s.2
  mem : ∀ t ∈ s.2, t ∈ l
  rdy : ∀ k, k < s.2.length → readyTx (vecOf (s.2.take k)) (txAt s.2 k) = true

theorem good_nil (l : List TxR) : Good l (zeros 13, []) := ⟨rfl, by simp, by simp⟩
theorem good_look {l : List TxR} {from_ : Nat} {s : List Int × List TxR} {i : Nat} (h : Good l s) (hl : 0 < l.length) : Good l (lookR l from_ s i) := by
  unfold lookR
  have hlt := modLt i from_ l.length hl
  generalize (i + from_) % l.length = q at hlt ⊢
  split
  · rename_i hr
    refine ⟨by rw [vecOf_snoc, h.vec], ?_, ?_⟩
    · intro t ht
      rcases List.mem_append.1 ht with ht | ht
      · exact h.mem t ht
      · simp only [List.mem_singleton] at ht; subst ht; exact txAt_mem hlt
    · intro k hk
      simp only at hk ⊢
      rcases Nat.lt_or_ge k s.2.length with h1 | h1
      · rw [txAt_app _ _ _ h1, List.take_append_of_le_length (by omega)]; exact h.rdy k h1
      · obtain rfl : k = s.2.length := by simp at hk; omega
        rw [txAt_last, List.take_append_of_le_length (Nat.le_refl _), List.take_of_length_le (Nat.le_refl _), ← h.vec]; exact hr
  · exact h
theorem good_pass {l : List TxR} {from_ : Nat} {s : List Int × List TxR} (h : Good l s) (hl : 0 < l.length) : ∀ k, Good l (passR l from_ s k)
  | 0 => h
  | k + 1 => by rw [passR_succ]; exact good_look (good_pass h hl k) hl
theorem good_deliver (l : List TxR) (from_ : Nat) : Good l (deliverR l from_) := by
  have : ∀ r, r ≤ l.length → Good l (roundsR l from_ r) := by
    intro r
    induction r with
    | zero => intro _; exact good_nil l
    | succ r ih => intro hr; rw [roundsR_succ]; exact good_pass (ih (by omega)) (by omega) _
  exact this _ (Nat.le_refl _)

theorem pass_len (l : List TxR) (from_ : Nat) (s : List Int × List TxR) : ∀ k, (passR l from_ s k).2.length ≤ s.2.length + k
  | 0 => by simp [passR]
  | k + 1 => by
    rw [passR_succ]
    have := pass_len l from_ s k
    unfold lookR
    split
    · simp only [List.length_append, List.length_cons, List.length_nil]; omega
    · omega
theorem deliver_len (l : List TxR) (from_ : Nat) : (deliverR l from_).2.length ≤ l.length * l.length := by
  have : ∀ r, (roundsR l from_ r).2.length ≤ r * l.length := by
    intro r
    induction r with
    | zero => simp [roundsR]
    | succ r ih =>
      rw [roundsR_succ]
      have := pass_len l from_ (roundsR l from_ r) l.length
      rw [Nat.add_mul]; omega
  exact this _

theorem ready_facts {v : List Int} {t : TxR} (h : readyTx v t = true) : vpeer t.peer = true ∧ 1 ≤ t.seq ∧ v.getD t.peer.toNat 0 = t.seq - 1 ∧ vleq t.deps v = true := by
  simp only [readyTx, checkTx, dotOk, nextR, Bool.and_eq_true, decide_eq_true_eq] at h
  obtain ⟨⟨⟨⟨⟨⟨⟨a, b⟩, c⟩, _⟩, _⟩, _⟩, ⟨⟨d, e⟩, f⟩⟩, g⟩ := h
  refine ⟨a, b, ?_, g⟩
  rw [← f, wrap64] <;> omega

/-- What a beginning of what is delivered has. -/
theorem good_pre {l : List TxR} {s : List Int × List TxR} (h : Good l s) (hd : ∀ t ∈ l, t.deps.length = 13) : ∀ m, m ≤ s.2.length →
    (∀ j, j < m → vleq (txAt s.2 j).deps (vecOf (s.2.take m)) = true) ∧
    (∀ p, vpeer p = true → ∀ q, 1 ≤ q → q ≤ (vecOf (s.2.take m)).getD p.toNat 0 → ∃ j, j < m ∧ (txAt s.2 j).peer = p ∧ (txAt s.2 j).seq = q)
  | 0, _ => by
    refine ⟨by simp, fun p hp q h1 h2 => ?_⟩
    exfalso
    have : (vecOf ([] : List TxR)).getD p.toNat 0 = 0 := by
      simp only [vecOf, List.foldl_nil]
      rw [List.getD_eq_getElem?_getD]
      cases hz : (zeros 13)[p.toNat]? with
      | none => rfl
      | some x =>
        have : ∀ x ∈ zeros 13, x = 0 := by decide +kernel
        simp [this x (List.mem_of_getElem? hz)]
    rw [List.take_zero, this] at h2
    omega
  | m + 1, hm => by
    obtain ⟨a, b⟩ := good_pre h hd m (by omega)
    have hr := h.rdy m (by omega)
    obtain ⟨f1, f2, f3, f4⟩ := ready_facts hr
    have hlen := vecOf_len (s.2.take m)
    obtain ⟨p0, p1⟩ := vpeer_of f1
    have hv : vecOf (s.2.take (m + 1)) = (vecOf (s.2.take m)).set (txAt s.2 m).peer.toNat (txAt s.2 m).seq := by rw [txTake _ _ (by omega), vecOf_snoc]
    have hup : vleq (vecOf (s.2.take m)) (vecOf (s.2.take (m + 1))) = true := by
      rw [vleq_iff _ _ hlen (vecOf_len _), hv]
      intro p hp
      rw [getD_set _ _ _ _ (by omega)]
      split
      · rename_i e; subst e; rw [f3]; omega
      · exact Int.le_refl _
    have dl : ∀ j, j < s.2.length → (txAt s.2 j).deps.length = 13 := fun j hj => hd _ (h.mem _ (txAt_mem hj))
    refine ⟨fun j hj => ?_, fun p hp q h1 h2 => ?_⟩
    · by_cases e : j = m
      · subst e; exact vleq_trans (dl j (by omega)) hlen (vecOf_len _) f4 hup
      · exact vleq_trans (dl j (by omega)) hlen (vecOf_len _) (a j (by omega)) hup
    · rw [hv, getD_set _ _ _ _ (by omega)] at h2
      split at h2
      · rename_i e
        have hpe : p = (txAt s.2 m).peer := by have := vpeer_of hp; omega
        by_cases hq : q = (txAt s.2 m).seq
        · exact ⟨m, by omega, hpe.symm, hq.symm⟩
        · have hq2 : q ≤ (vecOf (s.2.take m)).getD p.toNat 0 := by rw [e, f3]; omega
          obtain ⟨j, hj, hh⟩ := b p hp q h1 hq2
          exact ⟨j, by omega, hh⟩
      · obtain ⟨j, hj, hh⟩ := b p hp q h1 h2
        exact ⟨j, by omega, hh⟩

/-- Transactions of one Dot have seen the same. -/
theorem apart_deps {l : List TxR} (h : apartTx l = true) {a b : TxR} (ha : a ∈ l) (hb : b ∈ l) (hp : a.peer = b.peer) (hs : a.seq = b.seq) : a.deps = b.deps := by
  obtain ⟨i, hi, rfl⟩ := List.mem_iff_getElem.1 ha
  obtain ⟨k, hk, rfl⟩ := List.mem_iff_getElem.1 hb
  have at_ : ∀ {j} (hj : j < l.length), txAt l j = l[j] := fun {j} hj => by
    unfold txAt
    rw [List.getD_eq_getElem?_getD, List.getElem?_eq_getElem hj, Option.getD_some]
  have key : ∀ {i k : Nat} (hi : i < l.length) (hk : k < l.length), k < i → l[k].peer = l[i].peer → l[k].seq = l[i].seq → l[k].deps = l[i].deps := by
    intro i k hi hk hlt e1 e2
    simp only [apartTx, List.all_eq_true, List.mem_range] at h
    have := h i hi k hlt
    simp only [apartAt, dotEq, at_ hi, at_ hk, e1, e2, decide_true, Bool.and_self, Bool.not_true, Bool.false_or, sameTx, Bool.and_eq_true, decide_eq_true_eq] at this
    exact this.1.1.2
  rcases Nat.lt_trichotomy i k with h1 | h1 | h1
  · exact key hk hi h1 hp hs
  · subst h1; rfl
  · exact (key hi hk h1 hp.symm hs.symm).symm
end Go.Ab
