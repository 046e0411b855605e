/- Registers: what holds of them, in plain words. Conditions: none. -/
import Derived.Test.YtgliaanopmlmfaaReS
set_option linter.unusedSimpArgs false
namespace Go.Ab
open Go.Proofs

theorem markLt_trans {a b c : MarkR} (h : markLt a b = true) (k : markLt b c = true) : markLt a c = true := by
  simp only [markLt, Bool.or_eq_true, Bool.and_eq_true, decide_eq_true_eq] at *
  omega
theorem markLt_irr (a : MarkR) : markLt a a = false := by simp [markLt]
def RiseW (l : List WriteR) : Prop := l.Pairwise fun a b => markLt a.m b.m = true
theorem pairwise_of_next {α : Type} [Inhabited α] {R : α → α → Prop} (tr : ∀ a b c, R a b → R b c → R a c) : ∀ {l : List α}, (∀ k, 0 < k → k < l.length → R (l.getD (k - 1) default) (l.getD k default)) → l.Pairwise R
  | [], _ => .nil
  | [x], _ => by simp
  | x :: y :: r, h => by
    have h1 : R x y := by have := h 1 (by omega) (by simp); simpa using this
    have h2 : (y :: r).Pairwise R := pairwise_of_next tr fun k hk hl => by
      have := h (k + 1) (by omega) (by simpa using hl)
      have e : (x :: y :: r).getD (k + 1 - 1) default = (y :: r).getD (k - 1) default := by
        obtain ⟨j, rfl⟩ : ∃ j, k = j + 1 := ⟨k - 1, by omega⟩
        simp
      rw [e] at this
      simpa using this
    refine List.pairwise_cons.2 ⟨?_, h2⟩
    intro z hz
    rcases List.mem_cons.1 hz with rfl | hz
    · exact h1
    · exact tr _ _ _ h1 ((List.pairwise_cons.1 h2).1 z hz)
theorem next_of_pairwise {α : Type} [Inhabited α] {R : α → α → Prop} {l : List α} (h : l.Pairwise R) {k : Nat} (hk : 0 < k) (hl : k < l.length) : R (l.getD (k - 1) default) (l.getD k default) := by
  have := List.pairwise_iff_getElem.1 h (k - 1) k (by omega) hl (by omega)
  rw [List.getD_eq_getElem?_getD, List.getD_eq_getElem?_getD, List.getElem?_eq_getElem hl, List.getElem?_eq_getElem (by omega)]
  exact this
theorem checkR_iff (c : CellR) : checkR c = true ↔ shapeR c = true ∧ (∀ w ∈ c.wr, 1 ≤ w.m.i ∧ (w.text.size : Int) ≤ 64) ∧ RiseW c.wr := by
  have at_ : ∀ {l : List WriteR} {x : WriteR}, x ∈ l → ∃ k, k < l.length ∧ l.getD k default = x := by
    intro l x hx
    obtain ⟨i, hi, rfl⟩ := List.getElem_of_mem hx
    exact ⟨i, hi, by rw [List.getD_eq_getElem?_getD, List.getElem?_eq_getElem hi]; rfl⟩
  have mem : ∀ {l : List WriteR} {k : Nat}, k < l.length → l.getD k default ∈ l := by
    intro l k hk
    rw [List.getD_eq_getElem?_getD, List.getElem?_eq_getElem hk]; exact List.getElem_mem hk
  simp only [checkR, Bool.and_eq_true, List.all_eq_true, List.mem_range]
  constructor
  · rintro ⟨h1, h2⟩
    refine ⟨h1, ?_, pairwise_of_next (R := fun a b : WriteR => markLt a.m b.m = true) (fun a b c => markLt_trans) ?_⟩
    · intro w hw
      obtain ⟨k, hk, rfl⟩ := at_ hw
      have := h2 k hk
      simp only [wrOk, Bool.and_eq_true, decide_eq_true_eq] at this
      exact this.1
    · intro k hk hl
      have := h2 k hl
      simp only [wrOk, Bool.and_eq_true, Bool.or_eq_true, decide_eq_true_eq] at this
      rcases this.2 with h | h
      · omega
      · exact h
  · rintro ⟨h1, h2, h3⟩
    refine ⟨h1, fun k hk => ?_⟩
    have h4 := h2 _ (mem hk)
    simp only [wrOk, Bool.and_eq_true, Bool.or_eq_true, decide_eq_true_eq]
    refine ⟨h4, ?_⟩
    by_cases h0 : k = 0
    · exact .inl h0
    · exact .inr (next_of_pairwise h3 (by omega) hk)
theorem riseW_ext {l m : List WriteR} (h1 : RiseW l) (h2 : RiseW m) (h : ∀ z, z ∈ l ↔ z ∈ m) : l = m := by
  have nd : ∀ {l : List WriteR}, RiseW l → l.Nodup := fun h => h.imp fun {a b} hab e => by subst e; rw [markLt_irr] at hab; cases hab
  refine List.Perm.eq_of_pairwise (le := fun a b : WriteR => markLt a.m b.m = true) (fun a b _ _ h3 h4 => ?_) h1 h2 ((List.perm_ext_iff_of_nodup (nd h1) (nd h2)).2 h)
  have := markLt_trans h3 h4
  rw [markLt_irr] at this; cases this
theorem insB_riseW : ∀ {l : List WriteR} {x : WriteR}, RiseW l → (∀ w ∈ l, w.m ≠ x.m) → RiseW (insB (goesM x) x l)
  | [], x, _, _ => by simp [insB, RiseW]
  | y :: r, x, h, hn => by
    simp only [RiseW, List.pairwise_cons] at h
    unfold insB
    split
    · rename_i hg
      simp only [RiseW, List.pairwise_cons, List.mem_cons]
      refine ⟨?_, h⟩
      rintro z (rfl | hz)
      · exact hg
      · exact markLt_trans hg (h.1 z hz)
    · rename_i hg
      have hyx : markLt y.m x.m = true := markLt_total (by simpa [goesM] using hg) (fun e => hn y (by simp) e.symm)
      simp only [RiseW, List.pairwise_cons]
      refine ⟨?_, insB_riseW h.2 fun w hw => hn w (by simp [hw])⟩
      intro z hz
      rcases mem_insB.1 hz with rfl | hz
      · exact hyx
      · exact h.1 z hz
theorem mem_kept {α : Type} {p : α → Bool} {l : List α} {z : α} : z ∈ keptL p l ↔ z ∈ l ∧ p z = false := by
  simp [keptL]

/-- What a write that is new makes of a register. -/
theorem doR_new {c : CellR} {t : TxR} {i : Int} {s : ByteArray} (hc : checkR c = true) (hs : (s.size : Int) ≤ 64) (hi : 1 ≤ i) (hn : ∀ w ∈ c.wr, w.m ≠ ⟨t.peer, t.seq, i⟩) :
    doR c t i s = { c with wr := insB (goesM (xw t i s)) (xw t i s) (keptL (bef t i) c.wr) } ∧ checkR (doR c t i s) = true ∧ ∀ z, z ∈ (doR c t i s).wr ↔ z = xw t i s ∨ (z ∈ c.wr ∧ bef t i z = false) := by
  have h1 : ¬ (checkR c = false ∨ 64 < (s.size : Int) ∨ i < 1) := by
    rintro (h | h | h)
    · rw [hc] at h; cases h
    · omega
    · omega
  have h2 : c.wr.any (sameM (xw t i s)) = false := by
    rw [List.any_eq_false]
    intro w hw
    simp only [sameM, decide_eq_true_eq]
    exact hn w hw
  have e : doR c t i s = { c with wr := insB (goesM (xw t i s)) (xw t i s) (keptL (bef t i) c.wr) } := by
    rw [doR, if_neg h1, h2, clearR, if_pos hc]; rfl
  obtain ⟨k1, k2, k3⟩ := (checkR_iff c).1 hc
  have hk : RiseW (keptL (bef t i) c.wr) := List.Pairwise.filter _ k3
  have hm : ∀ z, z ∈ (doR c t i s).wr ↔ z = xw t i s ∨ (z ∈ c.wr ∧ bef t i z = false) := fun z => by
    rw [e]
    simp only [mem_insB, mem_kept]
  refine ⟨e, (checkR_iff _).2 ⟨?_, ?_, ?_⟩, hm⟩
  · rw [e]; exact k1
  · intro w hw
    rcases (hm w).1 hw with rfl | ⟨hw, _⟩
    · exact ⟨hi, hs⟩
    · exact k2 w hw
  · rw [e]; exact insB_riseW hk fun w hw => hn w (mem_kept.1 hw).1
theorem bef_xw (t u : TxR) (s : ByteArray) : bef u 1 (xw t 1 s) = before t.peer t.seq 1 u 1 := rfl

/-- Two writes that have not seen each other. -/
theorem doR_apart {c : CellR} {t u : TxR} {a b : ByteArray} (hc : checkR c = true) (ha : (a.size : Int) ≤ 64) (hb : (b.size : Int) ≤ 64) (hne : ¬ (t.peer = u.peer ∧ t.seq = u.seq))
    (h1 : before t.peer t.seq 1 u 1 = false) (h2 : before u.peer u.seq 1 t 1 = false) (hx : ∀ w ∈ c.wr, w.m ≠ ⟨t.peer, t.seq, 1⟩) (hy : ∀ w ∈ c.wr, w.m ≠ ⟨u.peer, u.seq, 1⟩) :
    doR (doR c t 1 a) u 1 b = doR (doR c u 1 b) t 1 a ∧ checkR (doR (doR c t 1 a) u 1 b) = true ∧ xw t 1 a ∈ (doR (doR c t 1 a) u 1 b).wr ∧ xw u 1 b ∈ (doR (doR c t 1 a) u 1 b).wr ∧ (doR (doR c t 1 a) u 1 b).kind = c.kind := by
  have hd : (⟨t.peer, t.seq, 1⟩ : MarkR) ≠ ⟨u.peer, u.seq, 1⟩ := fun e => hne (by simpa using e)
  obtain ⟨e1, c1, m1⟩ := doR_new (t := t) (i := 1) (s := a) hc ha (by omega) hx
  obtain ⟨e2, c2, m2⟩ := doR_new (t := u) (i := 1) (s := b) hc hb (by omega) hy
  have n1 : ∀ w ∈ (doR c t 1 a).wr, w.m ≠ ⟨u.peer, u.seq, 1⟩ := fun w hw => by
    rcases (m1 w).1 hw with rfl | ⟨hw, _⟩
    · exact hd
    · exact hy w hw
  have n2 : ∀ w ∈ (doR c u 1 b).wr, w.m ≠ ⟨t.peer, t.seq, 1⟩ := fun w hw => by
    rcases (m2 w).1 hw with rfl | ⟨hw, _⟩
    · exact hd.symm
    · exact hx w hw
  obtain ⟨e3, c3, m3⟩ := doR_new (t := u) (i := 1) (s := b) c1 hb (by omega) n1
  obtain ⟨e4, c4, m4⟩ := doR_new (t := t) (i := 1) (s := a) c2 ha (by omega) n2
  have hmem : ∀ z, z ∈ (doR (doR c t 1 a) u 1 b).wr ↔ z ∈ (doR (doR c u 1 b) t 1 a).wr := fun z => by
    rw [m3, m4, m1, m2]
    constructor
    · rintro (rfl | ⟨rfl | ⟨h3, h4⟩, h5⟩)
      · exact .inr ⟨.inl rfl, by rw [bef_xw]; exact h2⟩
      · exact .inl rfl
      · exact .inr ⟨.inr ⟨h3, h5⟩, h4⟩
    · rintro (rfl | ⟨rfl | ⟨h3, h4⟩, h5⟩)
      · exact .inr ⟨.inl rfl, by rw [bef_xw]; exact h1⟩
      · exact .inl rfl
      · exact .inr ⟨.inr ⟨h3, h5⟩, h4⟩
  have hwr := riseW_ext ((checkR_iff _).1 c3).2.2 ((checkR_iff _).1 c4).2.2 hmem
  refine ⟨?_, c3, ?_, ?_, ?_⟩
  · rw [e3, e4] at hwr
    simp only at hwr
    rw [e3, e4, hwr]
    rw [e1, e2]
  · rw [m3]; exact .inr ⟨(m1 _).2 (.inl rfl), by rw [bef_xw]; exact h1⟩
  · rw [m3]; exact .inl rfl
  · rw [e3, e1]

/-- Who has seen all writes there. -/
theorem doR_last {c : CellR} {t : TxR} {s : ByteArray} (hc : checkR c = true) (hs : (s.size : Int) ≤ 64) (h1 : ∀ w ∈ c.wr, bef t 1 w = true) (h2 : ∀ w ∈ c.wr, ¬ (w.m.p = t.peer ∧ w.m.s = t.seq)) :
    (readR (doR c t 1 s)).texts = [s] ∧ (readR (clearR c t 1)).texts = [] ∧ (doR c t 1 s).wr = [xw t 1 s] ∧ (clearR c t 1).wr = [] := by
  have hk : keptL (bef t 1) c.wr = [] := by
    rw [keptL, List.filter_eq_nil_iff]
    intro w hw; rw [h1 w hw]; simp
  obtain ⟨e1, c1, m1⟩ := doR_new (t := t) (i := 1) (s := s) hc hs (by omega) (fun w hw e => h2 w hw (by rw [e]; exact ⟨rfl, rfl⟩))
  have hw : (doR c t 1 s).wr = [xw t 1 s] := by rw [e1, hk]; rfl
  have hcl : (clearR c t 1).wr = [] := by rw [clearR, if_pos hc]; exact hk
  refine ⟨?_, ?_, hw, hcl⟩
  · rw [readR, if_neg (by rw [c1]; simp)]
    split
    · rw [hw]; rfl
    · rw [hw]; simp [latestL, bestAt]
  · rw [readR]
    split
    · rfl
    · split
      · rw [hcl]; rfl
      · rw [hcl]; simp [latestL, bestAt]
theorem mem_readR {c : CellR} (hc : checkR c = true) (hk : c.kind = 3) {w : WriteR} (hw : w ∈ c.wr) : w.text ∈ (readR c).texts := by
  rw [readR, if_neg (by rw [hc]; simp), if_pos hk]
  exact ((rises_spec (wrTexts c.wr) [] (by simp [Rising])).2 _).2 (.inr (List.mem_map.2 ⟨w, hw, rfl⟩))
end Go.Ab
