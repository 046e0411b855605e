/- Sets: what is read behind what. Conditions: none. -/
import Derived.Test.YtehcjnendfpbaaaGreatOsQ
import Derived.Test.YtehcjnendfpbaaaGreatReO
import Derived.Test.YtehcjnendfpbaaaGreatReC
import Derived.Test.YtehcjnendfpbaaaGreatCeB
import Derived.Test.YtehcjnendfpbaaaGreatCeL
import Derived.Test.YtehcjnendfpbaaaGreatCeF
set_option linter.unusedSimpArgs false
namespace Go.Ab
open Go.Proofs

theorem checkS_of {c d : CellR} (hc : checkS c = true) (hs : SideS c d) (h1 : ∀ m ∈ d.me, MeOk m) (h2 : RiseT d.me) : checkS d = true := by
  refine (checkS_iff d).2 ⟨?_, h1, h2⟩
  obtain ⟨e1, e2, e3, e4, e5⟩ := hs
  have := ((checkS_iff c).1 hc).1
  simpa [shapeS, e1, e2, e3, e4, e5] using this
theorem woMe_ok {t : TxR} {i : Int} {s : ByteArray} {all : Bool} {m y : MemberR} (h : woMe t i s all m = some y) (ho : MeOk m) : MeOk y := by
  obtain ⟨b1, b2, b3, b4⟩ := ho
  unfold woMe at h
  split at h
  · split at h
    · cases h
    · rename_i hn
      cases h
      exact ⟨b1, .inr hn, fun x hx => b3 x (List.mem_filter.1 hx).1, kept_rise _ b4⟩
  · cases h; exact ⟨b1, b2, b3, b4⟩
theorem woS_ok {c : CellR} (hc : checkS c = true) (t : TxR) (i : Int) (s : ByteArray) (all : Bool) : checkS (woS c t i s all) = true := by
  obtain ⟨_, ho, hr⟩ := (checkS_iff c).1 hc
  refine checkS_of hc ⟨rfl, rfl, rfl, rfl, rfl⟩ (fun z hz => ?_) (filterMap_rise wo_text hr)
  obtain ⟨m, hm, hz⟩ := List.mem_filterMap.1 hz
  exact woMe_ok hz (ho m hm)
theorem delS_ok {c : CellR} (hc : checkS c = true) (t : TxR) (i : Int) (s : ByteArray) : checkS (delS c t i s) = true := by
  unfold delS; split
  · exact hc
  · exact woS_ok hc _ _ _ _
theorem readS_ok {c : CellR} (hc : checkS c = true) : readS c = ⟨4, 0, c.me.map (·.text)⟩ := by rw [readS, if_neg (by rw [hc]; simp)]
theorem del_me {c : CellR} (hc : checkS c = true) {t : TxR} {i : Int} {s : ByteArray} (hi : 1 ≤ i) (hs : (s.size : Int) ≤ 64) : (delS c t i s).me = c.me.filterMap (woMe t i s false) := by
  rw [delS, if_neg (by rintro (h | h | h); rw [hc] at h; cases h; omega; omega)]; rfl


theorem fm_congr {α β : Type} {f g : α → Option β} : ∀ {l : List α}, (∀ m ∈ l, f m = g m) → l.filterMap f = l.filterMap g
  | [], _ => rfl
  | a :: r, h => by simp only [List.filterMap_cons, h a (List.mem_cons_self ..), fm_congr fun m hm => h m (List.mem_cons_of_mem _ hm)]
/-- A removal by one that has seen all additions. -/
theorem goes {c : CellR} (hc : checkS c = true) {t : TxR} {s : ByteArray} (hs : (s.size : Int) ≤ 64) (h : ∀ m ∈ c.me, m.text = s → ∀ x ∈ m.marks, befM t 1 x = true) :
    (readS (delS c t 1 s)).texts = (c.me.filter fun m => !decide (m.text = s)).map (·.text) := by
  have i1 : (1 : Int) ≤ 1 := Int.le_refl 1
  rw [readS_ok (delS_ok hc t 1 s), del_me hc i1 hs]
  simp only
  have : c.me.filterMap (woMe t 1 s false) = c.me.filter fun m => !decide (m.text = s) := by
    rw [← List.filterMap_eq_filter]
    refine fm_congr fun m hm => ?_
    by_cases e : m.text = s
    · have hl : leftM m.marks t 1 = [] := List.filter_eq_nil_iff.2 fun x hx => by simp [h m hm e x hx]
      rw [woMe, if_pos (.inr e), if_pos hl]; simp [Option.guard, e]
    · rw [woMe, if_neg (by rintro (h | h); cases h; exact e h)]; simp [Option.guard, e]
  rw [this]
end Go.Ab
set_option linter.unusedSimpArgs false
namespace Go.Ab
open Go.Proofs

end Go.Ab
set_option linter.unusedSimpArgs false
namespace Go.Ab
open Go.Proofs

end Go.Ab
set_option linter.unusedSimpArgs false
namespace Go.Ab
open Go.Proofs

end Go.Ab
set_option linter.unusedSimpArgs false
namespace Go.Ab
open Go.Proofs

theorem SideS.trans {a b c : CellR} (h : SideS a b) (k : SideS b c) : SideS a c := by
  obtain ⟨a1, a2, a3, a4, a5⟩ := h
  obtain ⟨b1, b2, b3, b4, b5⟩ := k
  exact ⟨b1.trans a1, b2.trans a2, b3.trans a3, b4.trans a4, b5.trans a5⟩

end Go.Ab
set_option linter.unusedSimpArgs false
namespace Go.Ab
open Go.Proofs

end Go.Ab
set_option linter.unusedSimpArgs false
namespace Go.Ab
open Go.Proofs

end Go.Ab
set_option linter.unusedSimpArgs false
namespace Go.Ab
open Go.Proofs

end Go.Ab
set_option linter.unusedSimpArgs false
namespace Go.Ab
open Go.Proofs

def RiseW (l : List WriteR) : Prop := l.Pairwise fun a b => markLt a.m b.m = true
theorem checkR_iff (c : CellR) : checkR c = true ↔ shapeR c = true ∧ (∀ w ∈ c.wr, 1 ≤ w.m.i ∧ (w.text.size : Int) ≤ 64) ∧ RiseW c.wr := by
  have at_ : ∀ {l : List WriteR} {x : WriteR}, x ∈ l → ∃ k, k < l.length ∧ l.getD k default = x := by
    intro l x hx
    obtain ⟨i, hi, rfl⟩ := List.getElem_of_mem hx
    exact ⟨i, hi, by rw [List.getD_eq_getElem?_getD, List.getElem?_eq_getElem hi]; rfl⟩
  have mem : ∀ {l : List WriteR} {k : Nat}, k < l.length → l.getD k default ∈ l := by
    intro l k hk
    rw [List.getD_eq_getElem?_getD, List.getElem?_eq_getElem hk]; exact List.getElem_mem hk
  simp only [checkR, Bool.and_eq_true, List.all_eq_true, List.mem_range]
  constructor
  · rintro ⟨h1, h2⟩
    refine ⟨h1, ?_, pairwise_of_next (R := fun a b : WriteR => markLt a.m b.m = true) (fun a b c => markLt_trans) ?_⟩
    · intro w hw
      obtain ⟨k, hk, rfl⟩ := at_ hw
      have := h2 k hk
      simp only [wrOk, Bool.and_eq_true, decide_eq_true_eq] at this
      exact this.1
    · intro k hk hl
      have := h2 k hl
      simp only [wrOk, Bool.and_eq_true, Bool.or_eq_true, decide_eq_true_eq] at this
      rcases this.2 with h | h
      · omega
      · exact h
  · rintro ⟨h1, h2, h3⟩
    refine ⟨h1, fun k hk => ?_⟩
    have h4 := h2 _ (mem hk)
    simp only [wrOk, Bool.and_eq_true, Bool.or_eq_true, decide_eq_true_eq]
    refine ⟨h4, ?_⟩
    by_cases h0 : k = 0
    · exact .inl h0
    · exact .inr (next_of_pairwise h3 (by omega) hk)


end Go.Ab
set_option linter.unusedSimpArgs false
namespace Go.Ab
open Go.Proofs

end Go.Ab
set_option linter.unusedSimpArgs false
namespace Go.Ab
open Go.Proofs


end Go.Ab
set_option linter.unusedSimpArgs false
namespace Go.Ab
open Go.Proofs

theorem takeQ_side (c : CellR) (t : TxR) (i : Int) (p : MarkR → Bool) : (takeQ c t i p).kind = c.kind ∧ (takeQ c t i p).am = c.am ∧ (takeQ c t i p).wr = c.wr ∧ (takeQ c t i p).me = c.me ∧ (takeQ c t i p).el.length ≤ c.el.length ∧ ∀ b, (∀ e ∈ c.el, e.gone.length ≤ b) → ∀ e ∈ (takeQ c t i p).el, e.gone.length ≤ b + 1 := by
  unfold takeQ
  split
  · exact ⟨rfl, rfl, rfl, rfl, by omega, fun b h e he => by have := h e he; omega⟩
  · refine ⟨rfl, rfl, rfl, rfl, by simp, fun b h e he => ?_⟩
    obtain ⟨y, hy, rfl⟩ := List.mem_map.1 he
    have h1 := h y hy
    unfold takeE
    split
    · have := with_len y.gone ⟨t.peer, t.seq, i⟩
      simp only; omega
    · omega
structure SmB (a b : Nat) (c : CellR) : Prop where
  am : c.am.length ≤ a
  wr : c.wr.length ≤ a
  me : c.me.length ≤ a
  mm : ∀ m ∈ c.me, m.marks.length ≤ b
  el : c.el.length ≤ a
  eg : ∀ e ∈ c.el, e.gone.length ≤ b
theorem SmB.sm {a b : Nat} {c : CellR} (h : SmB a b c) (ha : a < 10000) (hb : b < 10000) : c.sm :=
  ⟨by have := h.am; omega, by have := h.wr; omega, by have := h.me; omega, fun m hm => by have := h.mm m hm; omega, by have := h.el; omega, fun e he => by have := h.eg e he; omega⟩
theorem SmB.same {a b : Nat} {c : CellR} (h : SmB a b c) : SmB (2 * a + 1) (b + 1) c :=
  ⟨by have := h.am; omega, by have := h.wr; omega, by have := h.me; omega, fun m hm => by have := h.mm m hm; omega, by have := h.el; omega, fun e he => by have := h.eg e he; omega⟩
end Go.Ab
set_option linter.unusedSimpArgs false
namespace Go.Ab
open Go.Proofs

theorem idx_of {l : List ElemR} (hr : RiseG ElemR.m l) {x : ElemR} (hx : x ∈ l) : ¬ idxF (sameG ElemR.m x.m) l < 0 ∧ (idxF (sameG ElemR.m x.m) l).toNat < l.length ∧ l.getD (idxF (sameG ElemR.m x.m) l).toNat default = x := by
  have hany : l.any (sameG ElemR.m x.m) = true := List.any_eq_true.2 ⟨x, hx, by simp [sameG]⟩
  have hlt := List.findIdx_lt_length_of_exists (List.any_eq_true.1 hany)
  have hs := List.findIdx_getElem (w := hlt)
  have e : idxF (sameG ElemR.m x.m) l = (l.findIdx (sameG ElemR.m x.m) : Nat) := by rw [idxF, if_pos hany]
  rw [e]
  refine ⟨by omega, by simpa using hlt, ?_⟩
  rw [Int.toNat_natCast, List.getD_eq_getElem?_getD, List.getElem?_eq_getElem hlt]
  exact riseG_inj hr (List.getElem_mem hlt) hx (by simpa [sameG] using hs)
theorem idx_to {l : List ElemR} {m : MarkR} (h : ¬ idxF (sameG ElemR.m m) l < 0) : (idxF (sameG ElemR.m m) l).toNat < l.length ∧ (l.getD (idxF (sameG ElemR.m m) l).toNat default).m = m := by
  unfold idxF at *
  split at h
  · rename_i hany
    rw [if_pos hany]
    have hlt := List.findIdx_lt_length_of_exists (List.any_eq_true.1 hany)
    have hs := List.findIdx_getElem (w := hlt)
    rw [Int.toNat_natCast]
    refine ⟨hlt, ?_⟩
    rw [List.getD_eq_getElem?_getD, List.getElem?_eq_getElem hlt]
    simpa [sameG] using hs
  · omega
theorem ends_reach {l : List ElemR} : ∀ (f i : Nat), i < l.length → endsL l f i = true → Reach l (l.getD i default).m
  | 0, i, _, h => by simp [endsL] at h
  | f + 1, i, hi, h => by
    unfold endsL at h
    split at h
    · rename_i h0
      exact .step _ (getD_mem hi) (by rw [h0]; exact .zero)
    · split at h
      · cases h
      · rename_i h1
        obtain ⟨h2, h3⟩ := idx_to h1
        refine .step _ (getD_mem hi) ?_
        rw [← h3]
        exact ends_reach f _ h2 h
theorem reach_ends {l : List ElemR} (hr : RiseG ElemR.m l) (hz : ∀ e ∈ l, e.m ≠ zeroM) : ∀ (f k i : Nat), i < l.length → Dep l k (l.getD i default).m → k ≤ f → endsL l f i = true
  | 0, k, i, hi, hd, hk => by
    obtain ⟨j, rfl, _⟩ := dep_inv hr hz (getD_mem hi) hd
    omega
  | f + 1, k, i, hi, hd, hk => by
    obtain ⟨j, rfl, hd2⟩ := dep_inv hr hz (getD_mem hi) hd
    unfold endsL
    split
    · rfl
    · rename_i h0
      generalize hm : (l.getD i default).ref = m at *
      cases hd2 with
      | zero => exact absurd rfl h0
      | step j x hx hd3 =>
        obtain ⟨h1, h2, h3⟩ := idx_of hr hx
        rw [if_neg h1]
        refine reach_ends hr hz f (j + 1) _ h2 (by rw [h3]; exact .step j x hx hd3) (by omega)
theorem checkD_eq (c : CellR) : checkD c = checkQ c := by
  rw [Bool.eq_iff_iff, checkQ_iff]
  simp only [checkD, Bool.and_eq_true, List.all_eq_true, List.mem_range, endsQ]
  constructor
  · rintro ⟨h1, h2⟩
    have h3 : allG ElemR.m elOk c.el = true := by
      simp only [allG, List.all_eq_true, List.mem_range]
      exact fun k hk => (h2 k hk).1
    rw [allG_iff] at h3
    refine ⟨h1, fun e he => (elOk_iff e).1 (h3.1 e he), h3.2, fun e he => ?_⟩
    obtain ⟨k, hk, rfl⟩ := mem_getD he
    exact ends_reach _ _ hk (h2 k hk).2
  · rintro ⟨h1, h2, h3, h4⟩
    have hz : ∀ e ∈ c.el, e.m ≠ zeroM := fun e he e2 => by have := (h2 e he).1; rw [e2] at this; simp [zeroM] at this
    have h5 : allG ElemR.m elOk c.el = true := (allG_iff _ _ _).2 ⟨fun e he => (elOk_iff e).2 (h2 e he), h3⟩
    simp only [allG, List.all_eq_true, List.mem_range] at h5
    refine ⟨h1, fun k hk => ⟨h5 k hk, ?_⟩⟩
    obtain ⟨j, hj⟩ := dep_reach (h4 _ (getD_mem hk))
    exact reach_ends h3 hz _ j k hk hj (by have := dep_le h3 hz hj; omega)
theorem checkW_eq (c : CellR) : checkW c = checkC c := by
  unfold checkW checkC
  rw [checkD_eq]

-- clearing
def allC (c : CellR) (t : TxR) : Bool := c.am.all (fun a => befM t 1 a.m) && c.wr.all (fun a => befM t 1 a.m) && c.me.all (fun x => x.marks.all (befM t 1)) && c.el.all (fun e => befM t 1 e.m)
theorem kept_all {α : Type} {p : α → Bool} {l : List α} (h : ∀ x ∈ l, p x = true) : keptL p l = [] := by
  rw [keptL, List.filter_eq_nil_iff]
  intro x hx; simp [h x hx]
theorem len_nil {α : Type} {l : List α} (h : l.length = 0) : l = [] := List.eq_nil_of_length_eq_zero h
theorem clears_n {c : CellR} {t : TxR} (hc : checkN c = true) (h : ∀ a ∈ c.am, befM t 1 a.m = true) : clrN c t 1 = newC 1 := by
  obtain ⟨h1, _⟩ := (checkN_iff c).1 hc
  simp only [shapeN, Bool.and_eq_true, decide_eq_true_eq] at h1
  obtain ⟨⟨⟨⟨k1, k2⟩, k3⟩, k4⟩, k5⟩ := h1
  rw [clrN, if_neg (by rw [hc]; simp)]
  rw [show keepW (befM t 1) c.am = [] from kept_all h, newC, k1, len_nil k2, len_nil k3, len_nil k4]
theorem clears_w {c : CellR} {t : TxR} (hc : checkR c = true) (h : ∀ a ∈ c.wr, befM t 1 a.m = true) : clearR c t 1 = newC c.kind := by
  obtain ⟨h1, _⟩ := (checkR_iff c).1 hc
  simp only [shapeR, Bool.and_eq_true, decide_eq_true_eq] at h1
  obtain ⟨⟨⟨⟨k1, k2⟩, k3⟩, k4⟩, k5⟩ := h1
  rw [clearR, if_pos hc]
  rw [show keptL (bef t 1) c.wr = [] from kept_all h, newC, k2, len_nil k3, len_nil k4, len_nil k5]
theorem clears_b {c : CellR} {t : TxR} (hc : checkS c = true) (h : ∀ x ∈ c.me, ∀ m ∈ x.marks, befM t 1 m = true) : clearS c t 1 = newC 4 := by
  obtain ⟨h1, _⟩ := (checkS_iff c).1 hc
  simp only [shapeS, Bool.and_eq_true, decide_eq_true_eq] at h1
  obtain ⟨⟨⟨⟨k1, k2⟩, k3⟩, k4⟩, k5⟩ := h1
  rw [clearS, if_neg (by rw [hc]; simp)]
  have hm : c.me.filterMap (woMe t 1 ⟨#[]⟩ true) = [] := by
    rw [List.filterMap_eq_nil_iff]
    intro x hx
    rw [woMe, if_pos (.inl rfl), if_pos (show leftM x.marks t 1 = [] from kept_all (h x hx))]
  rw [woS, hm, newC, k1, k2, len_nil k3, len_nil k4, len_nil k5]
theorem clears_r {c : CellR} {t : TxR} (hc : checkQ c = true) (h : ∀ e ∈ c.el, befM t 1 e.m = true) : readQ (clearQ c t 1) = ⟨5, 0, []⟩ := by
  obtain ⟨e1, e2⟩ := takeQ_spec (c := c) (t := t) (i := 1) (p := befM t 1) hc (by omega)
  rw [clearQ, readQ, if_neg (by rw [e2]; simp)]
  obtain ⟨f1, f2, f3⟩ := checkQ_fin e2
  have : thereL (takeQ c t 1 (befM t 1)).el = [] := by
    rw [thereL, List.filter_eq_nil_iff]
    intro e he
    have := behind_sub (riseG_keys f1) _ _ e he
    rw [e1] at this
    obtain ⟨x, hx, rfl⟩ := List.mem_map.1 this
    rw [takeE, if_pos (h x hx)]
    simp only [liveE, decide_eq_true_eq]
    intro h0
    have h1 : (⟨t.peer, t.seq, 1⟩ : MarkR) ∈ withM x.gone ⟨t.peer, t.seq, 1⟩ := mem_with.2 (.inl rfl)
    rw [List.eq_nil_of_length_eq_zero h0] at h1
    cases h1
  rw [this]; rfl
theorem read_w {c : CellR} (h : c.kind = 2 ∨ c.kind = 3) : readC c = readR c := by rw [readC, if_neg (by omega), if_pos h]
theorem read_b {c : CellR} (h : c.kind = 4) : readC c = readS c := by rw [readC, if_neg (by omega), if_neg (by omega), if_pos h]
theorem read_r {c : CellR} (h : c.kind = 5) : readC c = readQ c := by rw [readC, if_neg (by omega), if_neg (by omega), if_neg (by omega), if_pos h]
theorem wipe_n {c : CellR} (h : c.kind = 1) (t : TxR) (i : Int) : wipeC c t i = clrN c t i := by rw [wipeC, if_pos h]
theorem wipe_w {c : CellR} (h : c.kind = 2 ∨ c.kind = 3) (t : TxR) (i : Int) : wipeC c t i = clearR c t i := by rw [wipeC, if_neg (by omega), if_pos h]
theorem wipe_b {c : CellR} (h : c.kind = 4) (t : TxR) (i : Int) : wipeC c t i = clearS c t i := by rw [wipeC, if_neg (by omega), if_neg (by omega), if_pos h]
theorem wipe_r {c : CellR} (h : c.kind = 5) (t : TxR) (i : Int) : wipeC c t i = clearQ c t i := by rw [wipeC, if_neg (by omega), if_neg (by omega), if_neg (by omega), if_pos h]
theorem read_new1 : readC (newC 1) = ⟨1, 0, []⟩ := by kernel_rfl
theorem read_new2 : readC (newC 2) = ⟨2, 0, []⟩ := by kernel_rfl
theorem read_new3 : readC (newC 3) = ⟨3, 0, []⟩ := by kernel_rfl
theorem read_new4 : readC (newC 4) = ⟨4, 0, []⟩ := by kernel_rfl
theorem read_new5 : readC (newC 5) = ⟨5, 0, []⟩ := by kernel_rfl
theorem read_new (k : Int) (h : newOk k = true) : readC (newC k) = ⟨k, 0, []⟩ := by
  simp only [newOk, Bool.and_eq_true, decide_eq_true_eq] at h
  have : k = 1 ∨ k = 2 ∨ k = 3 ∨ k = 4 ∨ k = 5 := by omega
  rcases this with rfl | rfl | rfl | rfl | rfl
  · exact read_new1
  · exact read_new2
  · exact read_new3
  · exact read_new4
  · exact read_new5
theorem clear_reads {c : CellR} {t : TxR} (hc : checkC c = true) (h : allC c t = true) : newOk c.kind = true ∧ readC (clearC c t 1) = readC (newC c.kind) := by
  simp only [allC, Bool.and_eq_true, List.all_eq_true] at h
  obtain ⟨⟨⟨a1, a2⟩, a3⟩, a4⟩ := h
  rw [clearC, if_neg (by rw [hc]; simp)]
  rcases kinds c.kind with hk | hk | hk | hk | hk
  · rw [check_n hk] at hc
    rw [wipe_n hk, clears_n hc a1, hk]
    exact ⟨by decide, rfl⟩
  · rw [check_w hk] at hc
    rw [wipe_w hk, clears_w hc a2]
    exact ⟨by simp [newOk]; omega, rfl⟩
  · rw [check_b hk] at hc
    rw [wipe_b hk, clears_b hc a3, hk]
    exact ⟨by decide, rfl⟩
  · rw [check_r hk] at hc
    have hkk : (clearQ c t 1).kind = 5 := by rw [clearQ, (takeQ_side c t 1 _).1, hk]
    rw [wipe_r hk, read_r hkk, clears_r hc a4, hk, read_new 5 (by decide)]
    exact ⟨by decide, rfl⟩
  · rw [check_o hk] at hc; cases hc

theorem SmB.up {a b a' b' : Nat} {c : CellR} (h : SmB a b c) (ha : a ≤ a') (hb : b ≤ b') : SmB a' b' c :=
  ⟨by have := h.am; omega, by have := h.wr; omega, by have := h.me; omega, fun m hm => by have := h.mm m hm; omega, by have := h.el; omega, fun e he => by have := h.eg e he; omega⟩
theorem SmB.side {a b : Nat} {c d : CellR} (h : SmB a b c) (hs : SideS c d) (hm : SmS a b d) : SmB a b d := by
  obtain ⟨e1, e2, e3, e4, e5⟩ := hs
  exact ⟨by rw [e3]; exact h.am, by rw [e4]; exact h.wr, hm.1, hm.2, by rw [e5]; exact h.el, fun e he => by rw [e5] at he; exact h.eg e he⟩
theorem clrN_sm {a b : Nat} {c : CellR} (h : SmB a b c) (t : TxR) (i : Int) : SmB a b (clrN c t i) := by
  unfold clrN
  split
  · exact h
  · exact ⟨Nat.le_trans (kept_len _ _) h.am, h.wr, h.me, h.mm, h.el, h.eg⟩
theorem clearR_sm {a b : Nat} {c : CellR} (h : SmB a b c) (t : TxR) (i : Int) : SmB a b (clearR c t i) := by
  unfold clearR
  split
  · exact ⟨h.am, Nat.le_trans (kept_len _ _) h.wr, h.me, h.mm, h.el, h.eg⟩
  · exact h
theorem takeQ_sm {a b : Nat} {c : CellR} (h : SmB a b c) (t : TxR) (i : Int) (p : MarkR → Bool) : SmB a (b + 1) (takeQ c t i p) := by
  obtain ⟨_, e1, e2, e3, e4, e5⟩ := takeQ_side c t i p
  have e6 := e5 b h.eg
  exact ⟨by rw [e1]; exact h.am, by rw [e2]; exact h.wr, by rw [e3]; exact h.me, fun m hm => by rw [e3] at hm; have := h.mm m hm; omega, by have := h.el; omega, fun e he => e6 e he⟩
theorem clearC_sm {a b : Nat} {c : CellR} (h : SmB a b c) (t : TxR) (i : Int) : SmB a (b + 1) (clearC c t i) := by
  unfold clearC wipeC
  split
  · exact h.up (by omega) (by omega)
  split
  · exact (clrN_sm h t i).up (by omega) (by omega)
  split
  · exact (clearR_sm h t i).up (by omega) (by omega)
  split
  · exact (h.side (clearS_side c t i) (clearS_sm ⟨h.me, h.mm⟩ t i)).up (by omega) (by omega)
  split
  · exact takeQ_sm h t i _
  · exact h.up (by omega) (by omega)
end Go.Ab
set_option linter.unusedSimpArgs false
namespace Go.Ab
open Go.Proofs

def s12x : ByteArray := ⟨#[120]⟩
def t12 : TxR := ⟨1, 1, zeros 13, 1, []⟩
def o12 : OpR := ⟨0, ⟨#[]⟩, ⟨#[]⟩, 0, 1, 3, ⟨#[]⟩, 0, 0, 0⟩
def p12 : OpR := ⟨0, ⟨#[]⟩, ⟨#[]⟩, 0, 1, 0, s12x, 0, 0, 0⟩
def q12 : OpR := ⟨0, ⟨#[]⟩, ⟨#[]⟩, 0, 3, 0, s12x, 0, 0, 0⟩
def b12 : CellR := ⟨1, 0, [⟨⟨1, 1, 1⟩, 3⟩], [], [], []⟩
def x12 : CellR := ⟨4, 0, [], [], [⟨s12x, false, [⟨1, 1, 1⟩]⟩], []⟩
theorem new_sm (k : Int) : (newC k).sm := ⟨by simp [newC], by simp [newC], by simp [newC], by simp [newC], by simp [newC], by simp [newC]⟩
theorem b12_sm : b12.sm := ⟨by simp [b12], by simp [b12], by simp [b12], by simp [b12], by simp [b12], by simp [b12]⟩
theorem x12_sm : x12.sm := ⟨by simp [x12], by simp [x12], by simp [x12], by simp [x12], by simp [x12], by simp [x12]⟩
set_option maxRecDepth 8000 in
set_option maxHeartbeats 4000000 in
theorem heads12 : PSpec Tryz.prog CT 10 [] (· = .bool true) := by
  refine PSpec.of hT Tryz.func10 rfl (by kernel_rfl) rfl rfl ?_
  have d1 : t12.deps.length = 13 := rfl
  have f1 : doC (newC 1) t12 1 o12 = b12 := by kernel_rfl
  have f2 : doC (newC 4) t12 1 p12 = x12 := by kernel_rfl
  have f3 : doC (newC 4) t12 1 q12 = newC 4 := by kernel_rfl
  have g1 : emptyC (newC 1) = true := by decide +kernel
  have g2 : emptyC b12 = false := by decide +kernel
  have g3 : readN b12 = ⟨1, 3, []⟩ := by kernel_rfl
  have g4 : readS x12 = ⟨4, 0, [s12x]⟩ := by kernel_rfl
  have g5 : checkC x12 = true := by decide +kernel
  have g6 : emptyC (newC 4) = true := by decide +kernel
  have n1 := cell_new 1
  have n6 := cell_new 6
  have n4 := cell_new 4
  rw [show newR 1 = newC 1 from rfl, show newOk 1 = true from rfl] at n1
  rw [show newR 6 = newC 0 from rfl, show newOk 6 = false from rfl] at n6
  rw [show newR 4 = newC 4 from rfl, show newOk 4 = true from rfl] at n4
  simp only [Tryz.f10, go_sem, simprocAttr]
  refine callK_pure n1 (by first | rfl | (simp only [go_sem]; done)) (by first | (simp only [go_sem]; done) | (simp [pureL, pureD]; done)) ?_
  simp only [go_sem, simprocAttr]
  refine callK_pure n6 (by first | rfl | (simp only [go_sem]; done)) (by first | (simp only [go_sem]; done) | (simp [pureL, pureD]; done)) ?_
  simp only [go_sem, simprocAttr]
  refine callK_pure n4 (by first | rfl | (simp only [go_sem]; done)) (by first | (simp only [go_sem]; done) | (simp [pureL, pureD]; done)) ?_
  simp only [go_sem, simprocAttr]
  refine callK_pure (args' := [cellD (newC 1), txD t12, .lit (.int .i64 1), opD o12]) (cell_do (newC 1) t12 1 o12 d1 (new_sm 1)) (by kernel_rfl) ⟨pure_cell _, pure_tx _, trivial, by simp [pureD, pureL], trivial⟩ ?_
  rw [f1]
  simp only [go_sem, simprocAttr]
  refine callK_pure (args' := [cellD (newC 4), txD t12, .lit (.int .i64 1), opD p12]) (cell_do (newC 4) t12 1 p12 d1 (new_sm 4)) (by kernel_rfl) ⟨pure_cell _, pure_tx _, trivial, by simp [pureD, pureL], trivial⟩ ?_
  rw [f2]
  simp only [go_sem, simprocAttr]
  refine callK_pure (args' := [cellD (newC 1)]) (cell_empty (newC 1) (new_sm 1)) (by kernel_rfl) ⟨pure_cell _, trivial⟩ ?_
  rw [g1]
  simp only [go_sem, simprocAttr]
  refine callK_pure (args' := [cellD b12]) (cell_empty b12 b12_sm) (by kernel_rfl) ⟨pure_cell _, trivial⟩ ?_
  rw [g2]
  simp only [go_sem, simprocAttr]
  refine callK_pure (args' := [cellD b12]) (cell_read_n b12 b12_sm rfl) (by kernel_rfl) ⟨pure_cell _, trivial⟩ ?_
  rw [g3]
  simp only [go_sem, simprocAttr]
  refine callK_pure (args' := [cellD x12]) (cell_read_b x12 x12_sm rfl) (by kernel_rfl) ⟨pure_cell _, trivial⟩ ?_
  rw [g4]
  simp only [go_sem, simprocAttr, List.map_cons, List.map_nil, List.length_cons, List.length_nil]
  have h1 : decide (((1 : Nat) : Int) = 1) = true := by decide
  try simp only [h1, go_sem, simprocAttr]
  refine callK_pure (args' := [cellD x12]) (cell_check x12 x12_sm) (by kernel_rfl) ⟨pure_cell _, trivial⟩ ?_
  rw [g5]
  simp only [go_sem, simprocAttr]
  refine callK_pure (args' := [cellD (newC 4), txD t12, .lit (.int .i64 1), opD q12]) (cell_do (newC 4) t12 1 q12 d1 (new_sm 4)) (by kernel_rfl) ⟨pure_cell _, pure_tx _, trivial, by simp [pureD, pureL], trivial⟩ ?_
  rw [f3]
  simp only [go_sem, simprocAttr]
  refine callK_pure (args' := [cellD (newC 4)]) (cell_empty (newC 4) (new_sm 4)) (by kernel_rfl) ⟨pure_cell _, trivial⟩ ?_
  rw [g6]
  simp only [go_sem, simprocAttr]
end Go.Ab
set_option linter.unusedSimpArgs false
namespace Go.Ab
open Go.Proofs

theorem few_smb {c : CellR} (h : fewC c = true) : SmB 60 30 c := by
  obtain ⟨h1, h2, h3, _⟩ := few_len h
  exact ⟨by omega, by omega, by omega, h2, by omega, h3⟩
end Go.Ab
