/- What could be delivered can be put in order, and still be delivered. Conditions: none. -/
import Derived.Test.YtnagdbamieahgaaGrX
import Derived.Test.YtnagdbamieahgaaStC
set_option linter.unusedSimpArgs false
namespace Go.Ab
open Go.Proofs

/-- What a peer's last number is, behind the first ones. -/
def vAt (A : List TxR) (m : Nat) (p : Int) : Int := (vecOf (A.take m)).getD p.toNat 0
/-- Each may be delivered behind those ahead of it. -/
def ReadyAll (A : List TxR) : Prop := ∀ k, k < A.length → readyTx (vecOf (A.take k)) (txAt A k) = true
theorem vAt_succ {A : List TxR} {m : Nat} (hm : m < A.length) (h1 : vpeer (txAt A m).peer = true) {p : Int} (hp : vpeer p = true) : vAt A (m + 1) p = if p = (txAt A m).peer then (txAt A m).seq else vAt A m p := by
  obtain ⟨p0, p1⟩ := vpeer_of h1
  obtain ⟨q0, q1⟩ := vpeer_of hp
  have hlen := vecOf_len (A.take m)
  rw [vAt, txTake _ _ hm, vecOf_snoc, getD_set _ _ _ _ (by omega)]
  by_cases e : p = (txAt A m).peer
  · rw [if_pos (by rw [e]), if_pos e]
  · rw [if_neg (by omega), if_neg e]; rfl
theorem vAt_zero (A : List TxR) (p : Int) : vAt A 0 p = 0 := by
  rw [vAt, List.take_zero]
  simp only [vecOf, List.foldl_nil]
  rw [List.getD_eq_getElem?_getD]
  cases hz : (zeros 13)[p.toNat]? with
  | none => rfl
  | some x =>
    have : ∀ x ∈ zeros 13, x = 0 := by decide +kernel
    simp [this x (List.mem_of_getElem? hz)]
section
variable {A : List TxR} (hr : ReadyAll A)
include hr
theorem rdy_vp {k : Nat} (hk : k < A.length) : vpeer (txAt A k).peer = true := (ready_facts (hr k hk)).1
theorem rdy_seq {k : Nat} (hk : k < A.length) : 1 ≤ (txAt A k).seq := (ready_facts (hr k hk)).2.1
theorem rdy_at {k : Nat} (hk : k < A.length) : vAt A k (txAt A k).peer = (txAt A k).seq - 1 := (ready_facts (hr k hk)).2.2.1
theorem vAt_mono {p : Int} (hp : vpeer p = true) {i : Nat} : ∀ {k : Nat}, i ≤ k → k ≤ A.length → vAt A i p ≤ vAt A k p
  | 0, h, _ => by obtain rfl : i = 0 := by omega
                  exact Int.le_refl _
  | k + 1, h, hk => by
    by_cases e : i = k + 1
    · subst e; exact Int.le_refl _
    · have ih := vAt_mono hp (show i ≤ k by omega) (by omega)
      have h2 := rdy_at hr (show k < A.length by omega)
      rw [vAt_succ (by omega) (rdy_vp hr (by omega)) hp]
      split
      · rename_i e; rw [e] at ih ⊢; omega
      · exact ih
theorem seq_lt {j k : Nat} (hjk : j < k) (hk : k < A.length) (hp : (txAt A j).peer = (txAt A k).peer) : (txAt A j).seq < (txAt A k).seq := by
  have h1 := rdy_at hr hk
  have h2 := vAt_mono hr (rdy_vp hr hk) (show j + 1 ≤ k by omega) (by omega)
  rw [vAt_succ (by omega) (rdy_vp hr (by omega)) (rdy_vp hr hk), if_pos hp.symm] at h2
  omega
theorem vAt_has {p : Int} (hp : vpeer p = true) {q : Int} (hq : 1 ≤ q) : ∀ {m : Nat}, m ≤ A.length → q ≤ vAt A m p → ∃ j, j < m ∧ (txAt A j).peer = p ∧ (txAt A j).seq = q
  | 0, _, h => by rw [vAt_zero] at h; omega
  | m + 1, hm, h => by
    rw [vAt_succ (by omega) (rdy_vp hr (by omega)) hp] at h
    split at h
    · rename_i e
      by_cases hqe : q = (txAt A m).seq
      · exact ⟨m, by omega, e.symm, hqe.symm⟩
      · have h2 := rdy_at hr (show m < A.length by omega)
        rw [← e] at h2
        obtain ⟨j, hj, hh⟩ := vAt_has hp hq (show m ≤ A.length by omega) (by omega)
        exact ⟨j, by omega, hh⟩
    · obtain ⟨j, hj, hh⟩ := vAt_has hp hq (show m ≤ A.length by omega) h
      exact ⟨j, by omega, hh⟩
variable (hd : ∀ k, k < A.length → (txAt A k).deps.length = 13)
include hd
theorem rdy_deps {k : Nat} (hk : k < A.length) {p : Int} (hp : vpeer p = true) : (txAt A k).deps.getD p.toNat 0 ≤ vAt A k p := by
  have h := (ready_facts (hr k hk)).2.2.2
  rw [vleq_iff _ _ (hd k hk) (vecOf_len _)] at h
  exact h _ (vpeer_of hp).2
theorem lead_lt {k i : Nat} (hk : k < A.length) (hi : i < A.length) (hl : leadG A k i = true) : k < i := by
  simp only [leadG, vhas, Bool.and_eq_true, decide_eq_true_eq] at hl
  obtain ⟨⟨h1, h2⟩, h3⟩ := hl
  have h4 := rdy_deps hr hd hi h1
  apply Decidable.byContradiction
  intro hn
  have h5 := vAt_mono hr h1 (show i ≤ k by omega) (by omega)
  have h6 := rdy_at hr hk
  omega
omit hd in
theorem rdy_check (hl : A.length ≤ 4096) : checkG A = true := by
  simp only [checkG, decide_eq_true hl, Bool.true_and]
  refine range_good fun i hi => ?_
  have h1 := hr i hi
  simp only [readyTx, Bool.and_eq_true] at h1
  rw [okG, h1.1.1, Bool.true_and, newG]
  refine range_good fun k hk => ?_
  cases h2 : dotEq A k i with
  | false => rfl
  | true =>
    simp only [dotEq, Bool.and_eq_true, decide_eq_true_eq] at h2
    have := seq_lt hr hk hi h2.1
    omega
omit hr hd in
theorem least_out (out : List Nat) : ∀ m, (∀ k, k < m → k ∈ out) ∨ ∃ i, i < m ∧ i ∉ out ∧ ∀ k, k < i → k ∈ out
  | 0 => .inl (by simp)
  | m + 1 => by
    rcases least_out out m with h | ⟨i, h1, h2, h3⟩
    · by_cases hm : m ∈ out
      · exact .inl fun k hk => by
          by_cases e : k = m
          · subst e; exact hm
          · exact h k (by omega)
      · exact .inr ⟨m, by omega, hm, h⟩
    · exact .inr ⟨i, by omega, h2, h3⟩
theorem rdy_best {out : List Nat} (hn : out.Nodup) (hl : out.length < A.length) : ∃ b, bestG A out = some b := by
  rcases least_out out A.length with h | ⟨i, h1, h2, h3⟩
  · have := List.nodup_range.length_le_of_subset (l₁ := List.range A.length) (l₂ := out) fun k hk => h k (List.mem_range.1 hk)
    rw [List.length_range] at this; omega
  · have ho : openG A out i = true := by
      simp only [openG, freeG, freeAt, Bool.and_eq_true, Bool.not_eq_true', decide_eq_false_iff_not, List.all_eq_true, List.mem_range, Bool.or_eq_true, decide_eq_true_eq]
      refine ⟨h2, fun k hk => ?_⟩
      cases hl : leadG A k i with
      | false => exact .inr rfl
      | true => exact .inl (h3 k (lead_lt hr hd hk h1 hl))
    rcases best_spec A out A.length with ⟨_, h5⟩ | ⟨j, h5, _⟩
    · rw [h5 i h1] at ho; cases ho
    · exact ⟨j, h5⟩
theorem rdy_sortR : ∀ r out, out.Nodup → out.length + r = A.length → ∃ o, sortR A r out = some o
  | 0, out, _, _ => ⟨out, rfl⟩
  | r + 1, out, hn, hl => by
    obtain ⟨b, hb⟩ := rdy_best hr hd hn (by omega)
    have hnew := bestAtG_new _ _ _ _ hb
    rw [sortR, hb]
    exact rdy_sortR r (out ++ [b]) (List.nodup_append.2 ⟨hn, by simp, fun x hx y hy => by rw [List.mem_singleton] at hy; subst hy; rintro rfl; exact hnew hx⟩) (by rw [List.length_append, List.length_singleton]; omega)
theorem rdy_sort (hl : A.length ≤ 4096) : ∃ o, sortGG A = some o := by
  rw [sortGG, rdy_check hr hl, if_pos rfl]
  exact rdy_sortR hr hd _ [] List.nodup_nil (by simp)
end
theorem txAt_map {A : List TxR} {s : List Nat} {j : Nat} (hj : j < s.length) : txAt (s.map (txAt A)) j = txAt A (s.getD j 0) := by
  rw [txAt, List.getD_eq_getElem?_getD, List.getElem?_map, List.getElem?_eq_getElem hj, List.getD_eq_getElem?_getD, List.getElem?_eq_getElem hj]; rfl
theorem vec_low {B : List TxR} (h : ∀ k, k < B.length → vpeer (txAt B k).peer = true) : ∀ m, m ≤ B.length → (vecOf (B.take m)).getD 0 0 = 0
  | 0, _ => by have := vAt_zero B 0; exact this
  | m + 1, hm => by
    have h1 := h m (by omega)
    have h2 : 1 ≤ (txAt B m).peer := by simp only [vpeer, Bool.and_eq_true, decide_eq_true_eq] at h1; exact h1.1
    have hlen := vecOf_len (B.take m)
    obtain ⟨p0, p1⟩ := vpeer_of h1
    rw [txTake _ _ (by omega), vecOf_snoc, getD_set _ _ _ _ (by omega), if_neg (by omega)]
    exact vec_low h m (by omega)
/-- Where numbers of one peer rise, the last one is the greatest. -/
theorem rise_vec {B : List TxR} (h : ∀ k, k < B.length → vpeer (txAt B k).peer = true) (hs : ∀ a b, a < b → b < B.length → (txAt B a).peer = (txAt B b).peer → (txAt B a).seq < (txAt B b).seq) : ∀ m, m ≤ B.length →
    (∀ a, a < m → (txAt B a).seq ≤ vAt B m (txAt B a).peer) ∧ ∀ p, vpeer p = true → vAt B m p = 0 ∨ ∃ a, a < m ∧ (txAt B a).peer = p ∧ (txAt B a).seq = vAt B m p
  | 0, _ => ⟨by simp, fun p _ => .inl (vAt_zero B p)⟩
  | m + 1, hm => by
    obtain ⟨h1, h2⟩ := rise_vec h hs m (by omega)
    refine ⟨fun a ha => ?_, fun p hp => ?_⟩
    · rw [vAt_succ (by omega) (h m (by omega)) (h a (by omega))]
      split
      · rename_i e
        by_cases ham : a = m
        · subst ham; exact Int.le_refl _
        · have := hs a m (by omega) (by omega) e; omega
      · rename_i e
        by_cases ham : a = m
        · subst ham; exact absurd rfl e
        · exact h1 a (by omega)
    · rw [vAt_succ (by omega) (h m (by omega)) hp]
      split
      · rename_i e; exact .inr ⟨m, by omega, e.symm, rfl⟩
      · rcases h2 p hp with h3 | ⟨a, h3, h4⟩
        · exact .inl h3
        · exact .inr ⟨a, by omega, h4⟩
theorem sorted_ready {A : List TxR} {s : List Nat} (hr : ReadyAll A) (hd : ∀ k, k < A.length → (txAt A k).deps.length = 13) (hok : OrderOk A s)
    (hown : ∀ i, i < A.length → (txAt A i).deps.getD (txAt A i).peer.toNat 0 = (txAt A i).seq - 1) : ReadyAll (s.map (txAt A)) := by
  have hsl := hok.len
  have hBl : (s.map (txAt A)).length = s.length := List.length_map ..
  have hat : ∀ {j}, j < s.length → txAt (s.map (txAt A)) j = txAt A (s.getD j 0) := fun hj => txAt_map hj
  have hlt : ∀ {j}, j < s.length → s.getD j 0 < A.length := fun hj => hok.lt _ (getN_mem hj)
  have hvp : ∀ k, k < (s.map (txAt A)).length → vpeer (txAt (s.map (txAt A)) k).peer = true := fun k hk => by rw [hBl] at hk; rw [hat hk]; exact rdy_vp hr (hlt hk)
  have hrise : ∀ a b, a < b → b < (s.map (txAt A)).length → (txAt (s.map (txAt A)) a).peer = (txAt (s.map (txAt A)) b).peer → (txAt (s.map (txAt A)) a).seq < (txAt (s.map (txAt A)) b).seq := fun a b hab hb hp => by
    rw [hBl] at hb
    have ha : a < s.length := by omega
    rw [hat ha, hat hb] at hp ⊢
    apply Decidable.byContradiction
    intro hn
    have hia := idx_get hok.nd ha
    have hib := idx_get hok.nd hb
    have hla := hlt ha
    have hlb := hlt hb
    generalize s.getD a 0 = i at *
    generalize s.getD b 0 = k at *
    have hne : i ≠ k := fun e => by subst e; omega
    have hsq : (txAt A k).seq < (txAt A i).seq := by
      rcases Nat.lt_or_gt_of_ne hne with h5 | h5
      · have := seq_lt hr h5 hlb hp; omega
      · exact seq_lt hr h5 hla hp.symm
    have hlead : leadG A k i = true := by
      simp only [leadG, vhas, Bool.and_eq_true, decide_eq_true_eq]
      refine ⟨⟨rdy_vp hr hlb, rdy_seq hr hlb⟩, ?_⟩
      rw [← hp, hown i hla]; omega
    have := ord_lead hok hlb hla hlead
    omega
  intro j hj
  rw [hBl] at hj
  obtain ⟨w1, w2⟩ := rise_vec hvp hrise j (by omega)
  have hbef : ∀ {k}, k < A.length → leadG A k (s.getD j 0) = true → (txAt A k).seq ≤ vAt (s.map (txAt A)) j (txAt A k).peer := fun {k} hk hl => by
    have h1 := ord_lead hok hk (hlt hj) hl
    rw [idx_get hok.nd hj] at h1
    have h2 := w1 _ h1
    rw [hat (by omega), get_idx (ord_mem hok hk)] at h2
    exact h2
  have hwp : ∀ p, vpeer p = true → 0 ≤ vAt (s.map (txAt A)) j p := fun p hp => by
    rcases w2 p hp with h3 | ⟨a, h3, h4, h5⟩
    · omega
    · rw [← h5, hat (by omega)]
      have := rdy_seq hr (hlt (show a < s.length by omega)); omega
  have hi := hlt hj
  rw [hat hj]
  have hrd := hr _ hi
  have hvi := rdy_vp hr hi
  have hsi := rdy_seq hr hi
  have hvat := rdy_at hr hi
  have hw : vAt (s.map (txAt A)) j (txAt A (s.getD j 0)).peer = (txAt A (s.getD j 0)).seq - 1 := by
    have hle : vAt (s.map (txAt A)) j (txAt A (s.getD j 0)).peer ≤ (txAt A (s.getD j 0)).seq - 1 := by
      rcases w2 _ hvi with h3 | ⟨a, h3, h4, h5⟩
      · omega
      · have := hrise a j h3 (by omega) (by rw [h4, hat hj])
        rw [hat hj] at this
        omega
    by_cases hq : (txAt A (s.getD j 0)).seq = 1
    · have := hwp _ hvi; omega
    · obtain ⟨k, hk, e1, e2⟩ := vAt_has hr hvi (q := (txAt A (s.getD j 0)).seq - 1) (by omega) (m := s.getD j 0) (by omega) (by omega)
      have hk' : k < A.length := by omega
      have hl : leadG A k (s.getD j 0) = true := by
        simp only [leadG, vhas, Bool.and_eq_true, decide_eq_true_eq]
        refine ⟨⟨rdy_vp hr hk', rdy_seq hr hk'⟩, ?_⟩
        rw [e1, e2, hown _ hi]; omega
      have := hbef hk' hl
      rw [e1, e2] at this
      omega
  have hdl := hd _ hi
  have hdep : ∀ p, vpeer p = true → (txAt A (s.getD j 0)).deps.getD p.toNat 0 ≤ vAt (s.map (txAt A)) j p := fun p hp => by
    by_cases hq : 1 ≤ (txAt A (s.getD j 0)).deps.getD p.toNat 0
    · obtain ⟨k, hk, e1, e2⟩ := vAt_has hr hp hq (m := s.getD j 0) (by omega) (rdy_deps hr hd hi hp)
      have hk' : k < A.length := by omega
      have hl : leadG A k (s.getD j 0) = true := by
        simp only [leadG, vhas, Bool.and_eq_true, decide_eq_true_eq]
        refine ⟨⟨rdy_vp hr hk', rdy_seq hr hk'⟩, ?_⟩
        rw [e1, e2]; exact Int.le_refl _
      have := hbef hk' hl
      rw [e1, e2] at this
      exact this
    · have := hwp p hp; omega
  have hlow : (txAt A (s.getD j 0)).deps.getD 0 0 ≤ 0 := by
    have h := (ready_facts hrd).2.2.2
    rw [vleq_iff _ _ hdl (vecOf_len _)] at h
    have h2 := h 0 (by omega)
    rw [vec_low (fun k hk => rdy_vp hr hk) _ (by omega)] at h2
    exact h2
  have hlow2 := vec_low hvp j (by omega)
  simp only [readyTx, Bool.and_eq_true] at hrd ⊢
  refine ⟨⟨hrd.1.1, ?_⟩, ?_⟩
  · have h3 := hrd.1.2
    simp only [nextR, Bool.and_eq_true, decide_eq_true_eq] at h3 ⊢
    have e : (vecOf ((s.map (txAt A)).take j)).getD (txAt A (s.getD j 0)).peer.toNat 0 = (txAt A (s.getD j 0)).seq - 1 := hw
    refine ⟨⟨h3.1.1, by rw [e]; omega⟩, ?_⟩
    rw [e, h3.2]; exact hvat
  · rw [vleq_iff _ _ hdl (vecOf_len _)]
    intro p hp
    by_cases h0 : p = 0
    · subst h0; rw [hlow2]; exact hlow
    · have hpp : vpeer (p : Int) = true := by simp only [vpeer, Bool.and_eq_true, decide_eq_true_eq]; omega
      have := hdep (p : Int) hpp
      rw [vAt, Int.toNat_natCast] at this
      exact this
end Go.Ab
