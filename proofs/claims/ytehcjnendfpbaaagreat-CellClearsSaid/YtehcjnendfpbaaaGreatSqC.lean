/- Sequences: what stands behind what, in order, in plain words. Conditions: none. -/
import Derived.Test.YtehcjnendfpbaaaGreatCeB
set_option linter.unusedSimpArgs false
namespace Go.Ab
open Go.Proofs

/-- Of two that stand behind one: does the first one stand first? -/
def firstLt (a b : ElemR) : Bool := decide (b.time < a.time) || (decide (a.time = b.time) && markLt b.m a.m)
theorem firstLt_irr (a : ElemR) : firstLt a a = false := by simp [firstLt, markLt_irr]
theorem firstLt_trans {a b c : ElemR} (h : firstLt a b = true) (k : firstLt b c = true) : firstLt a c = true := by
  simp only [firstLt, Bool.or_eq_true, Bool.and_eq_true, decide_eq_true_eq] at *
  rcases h with h | ⟨h, h2⟩ <;> rcases k with k | ⟨k, k2⟩
  · exact .inl (by omega)
  · exact .inl (by omega)
  · exact .inl (by omega)
  · exact .inr ⟨by omega, markLt_trans k2 h2⟩
theorem firstLt_total {a b : ElemR} (h : firstLt a b = false) (hne : a.m ≠ b.m) : firstLt b a = true := by
  simp only [firstLt, Bool.or_eq_false_iff, Bool.and_eq_false_iff, decide_eq_false_iff_not, Bool.or_eq_true, Bool.and_eq_true, decide_eq_true_eq] at *
  obtain ⟨h1, h2⟩ := h
  rcases h2 with h2 | h2
  · exact .inl (by omega)
  · by_cases e : a.time < b.time
    · exact .inl e
    · exact .inr ⟨by omega, markLt_total h2 (fun e => hne e.symm)⟩
def FirstL (l : List ElemR) : Prop := l.Pairwise fun a b => firstLt a b = true
theorem firstL_nodup {l : List ElemR} (h : FirstL l) : l.Nodup := h.imp fun {a b} hab e => by subst e; rw [firstLt_irr] at hab; cases hab
theorem firstL_ext {l m : List ElemR} (h1 : FirstL l) (h2 : FirstL m) (h : ∀ z, z ∈ l ↔ z ∈ m) : l = m := by
  refine List.Perm.eq_of_pairwise (le := fun a b : ElemR => firstLt a b = true) (fun a b _ _ h3 h4 => ?_) h1 h2 ((List.perm_ext_iff_of_nodup (firstL_nodup h1) (firstL_nodup h2)).2 h)
  have := firstLt_trans h3 h4
  rw [firstLt_irr] at this; cases this
/-- Is one put ahead of this one? -/
def goesF (x y : ElemR) : Bool := firstLt x y
theorem insB_first : ∀ {l : List ElemR} {x : ElemR}, FirstL l → (∀ w ∈ l, w.m ≠ x.m) → FirstL (insB (goesF x) x l)
  | [], x, _, _ => by simp [insB, FirstL]
  | y :: r, x, h, hn => by
    simp only [FirstL, List.pairwise_cons] at h
    unfold insB
    split
    · rename_i hg
      simp only [FirstL, List.pairwise_cons, List.mem_cons]
      refine ⟨?_, h⟩
      rintro z (rfl | hz)
      · exact hg
      · exact firstLt_trans hg (h.1 z hz)
    · rename_i hg
      have hyx : firstLt y x = true := firstLt_total (by simpa [goesF] using hg) (fun e => hn y (by simp) e.symm)
      simp only [FirstL, List.pairwise_cons]
      refine ⟨?_, insB_first h.2 fun w hw => hn w (by simp [hw])⟩
      intro z hz
      rcases mem_insB.1 hz with rfl | hz
      · exact hyx
      · exact h.1 z hz
def kidStep (m : MarkR) (o : List ElemR) (e : ElemR) : List ElemR := if e.ref = m then insB (goesF e) e o else o
/-- What stands behind a mark, in order. -/
def kidsL (l : List ElemR) (m : MarkR) : List ElemR := l.foldl (kidStep m) []
theorem kids_fold {m : MarkR} : ∀ (l o : List ElemR), FirstL o → (∀ a ∈ o, ∀ b ∈ l, a.m ≠ b.m) → (l.map ElemR.m).Nodup → FirstL (l.foldl (kidStep m) o) ∧ ∀ z, z ∈ l.foldl (kidStep m) o ↔ z ∈ o ∨ (z ∈ l ∧ z.ref = m)
  | [], o, h, _, _ => ⟨h, fun z => by simp⟩
  | e :: r, o, h, hd, hn => by
    rw [List.map_cons, List.nodup_cons] at hn
    have hx : ∀ b ∈ r, e.m ≠ b.m := fun b hb e2 => hn.1 (by rw [e2]; exact List.mem_map_of_mem hb)
    simp only [List.foldl_cons, kidStep]
    split
    · rename_i hr
      obtain ⟨k1, k2⟩ := kids_fold (m := m) r (insB (goesF e) e o) (insB_first h fun w hw => hd w hw e (by simp)) (fun a ha b hb => by
        rcases mem_insB.1 ha with rfl | ha
        · exact hx b hb
        · exact hd a ha b (by simp [hb])) hn.2
      refine ⟨k1, fun z => ?_⟩
      rw [k2 z, mem_insB, List.mem_cons]
      constructor
      · rintro ((rfl | h) | ⟨h, h3⟩)
        · exact .inr ⟨.inl rfl, hr⟩
        · exact .inl h
        · exact .inr ⟨.inr h, h3⟩
      · rintro (h | ⟨rfl | h, h3⟩)
        · exact .inl (.inr h)
        · exact .inl (.inl rfl)
        · exact .inr ⟨h, h3⟩
    · rename_i hr
      obtain ⟨k1, k2⟩ := kids_fold (m := m) r o h (fun a ha b hb => hd a ha b (by simp [hb])) hn.2
      refine ⟨k1, fun z => ?_⟩
      rw [k2 z, List.mem_cons]
      constructor
      · rintro (h | ⟨h, h3⟩)
        · exact .inl h
        · exact .inr ⟨.inr h, h3⟩
      · rintro (h | ⟨rfl | h, h3⟩)
        · exact .inl h
        · exact absurd h3 hr
        · exact .inr ⟨h, h3⟩
theorem kids_spec {l : List ElemR} (hn : (l.map ElemR.m).Nodup) (m : MarkR) : FirstL (kidsL l m) ∧ ∀ z, z ∈ kidsL l m ↔ z ∈ l ∧ z.ref = m := by
  obtain ⟨h1, h2⟩ := kids_fold (m := m) l [] (by simp [FirstL]) (by simp) hn
  exact ⟨h1, fun z => by rw [kidsL, h2]; simp⟩
/-- All that stand behind a mark, each with what is behind it. -/
def behindE (l : List ElemR) : Nat → MarkR → List ElemR
  | 0, _ => []
  | k + 1, m => (kidsL l m).flatMap fun e => e :: behindE l k e.m
def liveE (e : ElemR) : Bool := decide (e.gone.length = 0)
def thereL (l : List ElemR) : List ElemR := (behindE l (l.length + 1) zeroM).filter liveE
def readQ (c : CellR) : ValueR := if checkQ c = false then ⟨0, 0, []⟩ else ⟨5, 0, (thereL c.el).map (·.text)⟩

/-- How far an element is behind the beginning. -/
inductive Dep (l : List ElemR) : Nat → MarkR → Prop
  | zero : Dep l 0 zeroM
  | step (k : Nat) (e : ElemR) : e ∈ l → Dep l k e.ref → Dep l (k + 1) e.m
theorem dep_reach {l : List ElemR} {m : MarkR} (h : Reach l m) : ∃ k, Dep l k m := by
  induction h with
  | zero => exact ⟨0, .zero⟩
  | step e he _ ih => obtain ⟨k, hk⟩ := ih; exact ⟨k + 1, .step k e he hk⟩
theorem dep_inv {l : List ElemR} (hr : RiseG ElemR.m l) (hz : ∀ e ∈ l, e.m ≠ zeroM) {k : Nat} {e : ElemR} (he : e ∈ l) (h : Dep l k e.m) : ∃ j, k = j + 1 ∧ Dep l j e.ref := by
  generalize hm : e.m = m at h
  cases h with
  | zero => exact absurd hm (hz e he)
  | step j e' he' hd =>
    rw [riseG_inj hr he he' hm]
    exact ⟨j, rfl, hd⟩
theorem dep_one {l : List ElemR} (hr : RiseG ElemR.m l) (hz : ∀ e ∈ l, e.m ≠ zeroM) {k : Nat} {m : MarkR} (h : Dep l k m) : ∀ {j : Nat}, Dep l j m → j = k := by
  induction h with
  | zero =>
    intro j h2
    generalize hm : zeroM = m at h2
    cases h2 with
    | zero => rfl
    | step j e he _ => exact absurd hm.symm (hz e he)
  | step k e he _ ih =>
    intro j h2
    obtain ⟨i, rfl, h3⟩ := dep_inv hr hz he h2
    rw [ih h3]
theorem dep_chain {l : List ElemR} (hr : RiseG ElemR.m l) (hz : ∀ e ∈ l, e.m ≠ zeroM) {k : Nat} {m : MarkR} (h : Dep l k m) : ∃ ps : List ElemR, ps.length = k ∧ ps.Nodup ∧ ∀ e ∈ ps, e ∈ l ∧ ∃ j, j ≤ k ∧ Dep l j e.m := by
  induction h with
  | zero => exact ⟨[], rfl, by simp, by simp⟩
  | step k e he hd ih =>
    obtain ⟨ps, h1, h2, h3⟩ := ih
    refine ⟨e :: ps, by simp [h1], ?_, ?_⟩
    · rw [List.nodup_cons]
      refine ⟨fun hm => ?_, h2⟩
      obtain ⟨_, j, hj, hd2⟩ := h3 e hm
      have := dep_one hr hz (.step k e he hd) hd2
      omega
    · intro x hx
      rcases List.mem_cons.1 hx with rfl | hx
      · exact ⟨he, k + 1, Nat.le_refl _, .step k x he hd⟩
      · obtain ⟨h4, j, hj, h5⟩ := h3 x hx
        exact ⟨h4, j, by omega, h5⟩
theorem dep_le {l : List ElemR} (hr : RiseG ElemR.m l) (hz : ∀ e ∈ l, e.m ≠ zeroM) {k : Nat} {m : MarkR} (h : Dep l k m) : k ≤ l.length := by
  obtain ⟨ps, h1, h2, h3⟩ := dep_chain hr hz h
  rw [← h1]
  exact sub_len h2 fun e he => (h3 e he).1
/-- Going down from a mark comes to an end. -/
def FinB (l : List ElemR) : Nat → MarkR → Prop
  | 0, _ => False
  | k + 1, m => ∀ e ∈ l, e.ref = m → FinB l k e.m
theorem fin_dep {l : List ElemR} (hr : RiseG ElemR.m l) (hz : ∀ e ∈ l, e.m ≠ zeroM) : ∀ (n k : Nat) {m : MarkR}, Dep l k m → l.length < k + n → FinB l n m
  | 0, k, m, h, hk => by have := dep_le hr hz h; omega
  | n + 1, k, m, h, hk => fun e he hem => fin_dep hr hz n (k + 1) (.step k e he (by rw [hem]; exact h)) (by omega)
theorem fin_zero {l : List ElemR} (hr : RiseG ElemR.m l) (hz : ∀ e ∈ l, e.m ≠ zeroM) : FinB l (l.length + 1) zeroM := fin_dep hr hz _ 0 .zero (by omega)
theorem checkQ_fin {c : CellR} (h : checkQ c = true) : RiseG ElemR.m c.el ∧ (∀ e ∈ c.el, e.m ≠ zeroM) ∧ FinB c.el (c.el.length + 1) zeroM := by
  obtain ⟨_, h2, h3, _⟩ := (checkQ_iff c).1 h
  have hz : ∀ e ∈ c.el, e.m ≠ zeroM := fun e he e2 => by have := (h2 e he).1; rw [e2] at this; simp [zeroM] at this
  exact ⟨h3, hz, fin_zero h3 hz⟩
theorem behind_sub {l : List ElemR} (hn : (l.map ElemR.m).Nodup) : ∀ (n : Nat) (m : MarkR), ∀ e ∈ behindE l n m, e ∈ l
  | 0, _, e, he => by simp [behindE] at he
  | n + 1, m, e, he => by
    simp only [behindE, List.mem_flatMap, List.mem_cons] at he
    obtain ⟨x, hx, rfl | h⟩ := he
    · exact (((kids_spec hn m).2 _).1 hx).1
    · exact behind_sub hn n _ e h

/-- What is so many steps behind what. -/
inductive Anc (l : List ElemR) (a : MarkR) : Nat → MarkR → Prop
  | here : Anc l a 0 a
  | step (k : Nat) (e : ElemR) : e ∈ l → Anc l a k e.ref → Anc l a (k + 1) e.m
theorem anc_dep {l : List ElemR} {a z : MarkR} {j k : Nat} (hd : Dep l j a) (h : Anc l a k z) : Dep l (j + k) z := by
  induction h with
  | here => exact hd
  | step k e he _ ih => exact .step (j + k) e he ih
theorem anc_one {l : List ElemR} (hr : RiseG ElemR.m l) {a z : MarkR} {k : Nat} (h : Anc l a k z) : ∀ {b : MarkR}, Anc l b k z → a = b := by
  induction h with
  | here => intro b hb; cases hb; rfl
  | step k e he _ ih =>
    intro b hb
    generalize hz : e.m = z at hb
    cases hb with
    | step _ e' he' hb =>
      have := riseG_inj hr he he' hz
      subst this
      exact ih hb
theorem anc_first {l : List ElemR} {a z : MarkR} {e : ElemR} (he : e ∈ l) (hr : e.ref = a) {k : Nat} (h : Anc l e.m k z) : Anc l a (k + 1) z := by
  induction h with
  | here => exact .step 0 e he (by rw [hr]; exact .here)
  | step k e' he' _ ih => exact .step (k + 1) e' he' ih
theorem behind_anc {l : List ElemR} (hr : RiseG ElemR.m l) : ∀ (n : Nat) {m : MarkR} {e : ElemR}, e ∈ behindE l n m → ∃ k, Anc l m (k + 1) e.m
  | 0, m, e, he => by simp [behindE] at he
  | n + 1, m, e, he => by
    simp only [behindE, List.mem_flatMap, List.mem_cons] at he
    obtain ⟨x, hx, h⟩ := he
    obtain ⟨hx1, hx2⟩ := ((kids_spec (riseG_keys hr) m).2 x).1 hx
    rcases h with rfl | h
    · exact ⟨0, .step 0 e hx1 (by rw [hx2]; exact .here)⟩
    · obtain ⟨k, hk⟩ := behind_anc hr n h
      exact ⟨k + 1, anc_first hx1 hx2 hk⟩
theorem behind_nodup {l : List ElemR} (hr : RiseG ElemR.m l) (hz : ∀ e ∈ l, e.m ≠ zeroM) : ∀ (n j : Nat) {m : MarkR}, Dep l j m → (behindE l n m).Nodup
  | 0, j, m, _ => by simp [behindE]
  | n + 1, j, m, hd => by
    obtain ⟨hf, hm⟩ := kids_spec (riseG_keys hr) m
    have kid : ∀ e ∈ kidsL l m, e ∈ l ∧ Dep l (j + 1) e.m := fun e he => ⟨((hm e).1 he).1, .step j e ((hm e).1 he).1 (by rw [((hm e).1 he).2]; exact hd)⟩
    have anc : ∀ {e z : ElemR}, e ∈ kidsL l m → z ∈ e :: behindE l n e.m → ∃ k, Anc l e.m k z.m := fun {e z} he hz => by
      rcases List.mem_cons.1 hz with rfl | hz
      · exact ⟨0, .here⟩
      · obtain ⟨k, hk⟩ := behind_anc hr n hz
        exact ⟨_, hk⟩
    simp only [behindE]
    rw [List.Nodup, List.pairwise_flatMap]
    refine ⟨fun e he => ?_, ?_⟩
    · obtain ⟨h1, h2⟩ := kid e he
      refine List.pairwise_cons.2 ⟨?_, behind_nodup hr hz n (j + 1) h2⟩
      rintro z hzm rfl
      obtain ⟨k, hk⟩ := behind_anc hr n hzm
      have := dep_one hr hz h2 (anc_dep h2 hk)
      omega
    · refine (firstL_nodup hf).imp_of_mem ?_
      intro e e' he he' hne x hx y hy hxy
      subst hxy
      obtain ⟨k, hk⟩ := anc he hx
      obtain ⟨k', hk'⟩ := anc he' hy
      have h1 := dep_one hr hz (anc_dep (kid e he).2 hk) (anc_dep (kid e' he').2 hk')
      have hkk : k = k' := by omega
      subst hkk
      exact hne (riseG_inj hr (kid e he).1 (kid e' he').1 (anc_one hr hk hk'))
theorem behind_len {l : List ElemR} (hr : RiseG ElemR.m l) (hz : ∀ e ∈ l, e.m ≠ zeroM) : (behindE l (l.length + 1) zeroM).length ≤ l.length :=
  sub_len (behind_nodup hr hz _ 0 .zero) fun e he => behind_sub (riseG_keys hr) _ _ e he
/-- What is sorted by first, of what stands behind one mark. -/
theorem sorted_kids {l m' c : List ElemR} (hn : (l.map ElemR.m).Nodup) {m : MarkR} (hc : c = kidsL l m ∨ c = l.filter fun e => decide (e.ref = m)) (hp : m'.Perm c) (hs : m'.Pairwise fun x y => firstLt y x = false) : m' = kidsL l m := by
  obtain ⟨k1, k2⟩ := kids_spec hn m
  have hln : l.Nodup := (List.pairwise_map.1 hn).imp fun h e => h (by rw [e])
  have hcm : ∀ z, z ∈ c ↔ z ∈ l ∧ z.ref = m := fun z => by
    rcases hc with rfl | rfl
    · exact k2 z
    · simp
  have hcn : c.Nodup := by
    rcases hc with rfl | rfl
    · exact firstL_nodup k1
    · exact hln.filter _
  have hmn : m'.Nodup := hp.nodup_iff.2 hcn
  refine firstL_ext ?_ k1 fun z => by rw [hp.mem_iff, hcm, k2]
  refine (hs.and hmn).imp_of_mem ?_
  rintro a b ha hb ⟨h1, h2⟩
  refine firstLt_total h1 fun e => h2 ?_
  have ha' := ((hcm a).1 (hp.mem_iff.1 ha)).1
  have hb' := ((hcm b).1 (hp.mem_iff.1 hb)).1
  have key : ∀ {l : List ElemR}, (l.map ElemR.m).Nodup → a ∈ l → b ∈ l → a = b := fun {l} hn ha hb => by
    induction l with
    | nil => simp at ha
    | cons x r ih =>
      rw [List.map_cons, List.nodup_cons] at hn
      rcases List.mem_cons.1 ha with h3 | h3 <;> rcases List.mem_cons.1 hb with h4 | h4
      · rw [h3, h4]
      · exact absurd (List.mem_map.2 ⟨b, h4, by rw [e, h3]⟩) hn.1
      · exact absurd (List.mem_map.2 ⟨a, h3, by rw [← e, h4]⟩) hn.1
      · exact ih hn.2 h3 h4
  exact key hn ha' hb'
end Go.Ab
