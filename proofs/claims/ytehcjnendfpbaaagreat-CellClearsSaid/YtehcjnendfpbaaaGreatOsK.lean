/- Sets: the program's removals. Conditions: none. -/
import Derived.Test.YtehcjnendfpbaaaGreatOsF
import Derived.Test.YtehcjnendfpbaaaGreatReA
set_option linter.unusedSimpArgs false
namespace Go.Ab
open Go.Proofs

def goneL (l : List (ByteArray × MemberR)) (s : ByteArray) (t : TxR) (i : Int) : List (ByteArray × MemberR) :=
  match getA l s with
  | none => l
  | some m => if leftM m.marks t i = [] then delA l s else putA l s { m with base := false, marks := leftM m.marks t i }
theorem goneL_none {l : List (ByteArray × MemberR)} {s : ByteArray} {t : TxR} {i : Int} (h : getA l s = none) : goneL l s t i = l := by rw [goneL, h]
theorem goneL_some {l : List (ByteArray × MemberR)} {s : ByteArray} {t : TxR} {i : Int} {m : MemberR} (h : getA l s = some m) : goneL l s t i = if leftM m.marks t i = [] then delA l s else putA l s { m with base := false, marks := leftM m.marks t i } := by rw [goneL, h]
theorem set_same {l : List (Sh × D)} {i : Nat} {x : Sh × D} (h : l[i]? = some x) : l.set i x = l := by
  refine List.ext_getElem? fun j => ?_
  rw [List.getElem?_set]
  split
  · rename_i e; subst e; rw [if_pos (List.getElem?_eq_some_iff.1 h).1, h]
  · rfl
theorem low_map2 {bs : List (Sh × D)} {i : Nat} (l : List (ByteArray × MemberR)) (q : Nat) (tk : Nat) : ∀ (j : Nat) (x : Sh × D), (bs.set i (.obj 1, mapG kS meD l q))[j]? = some x → x.1 = .obj 0 ∨ lowD (bs.set i (.obj 1, mapG kS meD l q)).length tk x.2 ∨ bs[j]? = some x := by
  intro j x hx
  rw [List.getElem?_set] at hx
  split at hx
  · split at hx
    · cases hx; exact .inr (.inl (low_map _ _ _ _))
    · cases hx
  · exact .inr (.inr hx)

set_option maxRecDepth 8000 in
set_option maxHeartbeats 2000000 in
theorem orset_gone (l : List (ByteArray × MemberR)) (q : Nat) (s : ByteArray) (t : TxR) (i : Int) (j : Nat) (bs : List (Sh × D)) (hd : t.deps.length = 13) (hm : bs[j]? = some (.obj 1, mapG kS meD l q)) (hmk : ∀ p ∈ l, p.2.marks.length < 100000000) (hkt : ∀ p ∈ l, p.2.text = p.1) :
    HSpec Tryz.prog CT 181 [.mref j, .lit (.string s), txD t, .lit (.int .i64 i)] bs fun r bs' => ∃ q', r = .tup [] ∧ bs' = bs.set j (.obj 1, mapG kS meD (goneL l s t i) q') := by
  have hK : KeyEnc CT 9 kS := keyStr rfl
  have hjl : j < bs.length := (List.getElem?_eq_some_iff.1 hm).1
  refine HSpec.of hT Tryz.func181 rfl (by kernel_rfl) rfl rfl fun tk => ?_
  simp only [Tryz.f181, go_sem, simprocAttr, hd]
  have hm2 : ∀ a b, (bs ++ [a] ++ [b])[j]? = some (.obj 1, mapG kS meD l q) := fun a b => by rw [List.append_assoc, List.getElem?_append_left hjl]; exact hm
  have hm3 : ∀ a b c, (bs ++ [a] ++ [b] ++ [c])[j]? = some (.obj 1, mapG kS meD l q) := fun a b c => by rw [List.append_assoc, List.append_assoc, List.getElem?_append_left hjl]; exact hm
  have hs3 : ∀ a b c y, (bs ++ [a] ++ [b] ++ [c]).set j y = bs.set j y ++ [a, b, c] := fun a b c y => by
    rw [List.append_assoc, List.append_assoc, List.set_append_left _ _ hjl]; rfl
  have hx1 : ∀ a b c : Sh × D, (bs ++ [a] ++ [b] ++ [c])[bs.length]? = some a := fun a b c => by simp
  have hx2 : ∀ a b c : Sh × D, (bs ++ [a] ++ [b] ++ [c])[bs.length + 1]? = some b := fun a b c => by simp
  rw [lookup_g (l := l) (g := q) (enc := meD) hK (t := 182) rfl (hm2 _ _) true s rfl]
  have fin : ∀ (l' : List (ByteArray × MemberR)) (q' : Nat) (a b c : Sh × D), (∀ N s' L, (Sh.arr N s', D.agg L) ∈ [a, b, c] → pureL L) → l' = goneL l s t i → finH (some (.tup [])) bs tk (fun r bs' => ∃ q', r = .tup [] ∧ bs' = bs.set j (.obj 1, mapG kS meD (goneL l s t i) q')) (bs.set j (.obj 1, mapG kS meD l' q') ++ [a, b, c]) tk := by
    intro l' q' a b c h1 h2
    refine ⟨.tup [], bs.set j (.obj 1, mapG kS meD l' q'), [a, b, c], [], rfl, rfl, by simp, by simp, low_map2 _ _ _, ?_, ?_, q', ?_, by rw [h2]⟩
    · intro n N s' L hn hx
      rw [List.getElem?_append_right hn] at hx
      exact h1 _ _ _ (List.mem_of_getElem? hx)
    · simp [meltD, meltL, lowD, lowL]
    · simp [meltD, meltL]
  cases hg : getA l s with
  | none =>
    simp only [go_sem, simprocAttr, packD, Bool.not_false]
    have e : bs ++ [(txSh, txD t)] ++ [(Sh.leaf, D.lit (.int .i64 i))] ++ [(((.pair .leaf (.pair .leaf (.pair .leaf .unit))) : Sh), CT.zero 67)] = bs.set j (.obj 1, mapG kS meD l q) ++ [(txSh, txD t), (Sh.leaf, D.lit (.int .i64 i)), (((.pair .leaf (.pair .leaf (.pair .leaf .unit))) : Sh), CT.zero 67)] := by rw [set_same hm]; simp
    have hfin := fin l q (txSh, txD t) (Sh.leaf, D.lit (.int .i64 i)) (((.pair .leaf (.pair .leaf (.pair .leaf .unit))) : Sh), CT.zero 67) (by simp) (goneL_none hg).symm
    rw [← e] at hfin
    exact hfin
  | some m =>
    have hmem := getA_mem hg
    have hml := hmk _ hmem
    simp only [go_sem, simprocAttr, packD, Bool.not_true]
    have hx2' : ∀ (a b c : Sh × D), (bs ++ [a] ++ [b] ++ [c])[(bs ++ [a]).length]? = some b := fun a b c => by simp
    refine callK_h (orset_without (p := befM t i) m.marks (by simpa using hml) _ (pred_gone t i hd _ (hx1 _ _ _) (hx2' _ _ _))) ?_
    rintro r b' ⟨rfl, rfl⟩
    simp only [go_sem, simprocAttr]
    have hlen : decide (((keptL (befM t i) m.marks).length : Int) = 0) = decide (leftM m.marks t i = []) := by
      have h0 : ((keptL (befM t i) m.marks).length : Int) = 0 ↔ leftM m.marks t i = [] := by
        show _ ↔ keptL _ _ = []
        rw [← List.length_eq_zero_iff]; omega
      rw [Bool.eq_iff_iff, decide_eq_true_eq, decide_eq_true_eq]; exact h0
    rw [hlen]
    refine condK_split (fun h1 => ?_) (fun h1 => ?_)
    · have h1' := of_decide_eq_true h1
      simp only [go_sem, simprocAttr]
      refine mapDel_g (l := l) (g := q) (enc := meD) hK (e := 67) rfl (hm3 _ _ _) s rfl ?_
      rw [hs3]
      simp only [go_sem, simprocAttr]
      exact fin _ _ _ _ _ (by simp) (by rw [goneL_some hg, if_pos h1'])
    · have h1' := of_decide_eq_false h1
      simp only [go_sem, simprocAttr]
      refine mapUpd_g (l := l) (g := q) (enc := meD) hK (e := 67) rfl (hm3 _ _ _) s { m with base := false, marks := leftM m.marks t i } rfl rfl ?_
      rw [hs3]
      simp only [go_sem, simprocAttr]
      exact fin _ _ _ _ _ (by simp) (by rw [goneL_some hg, if_neg h1'])

theorem gone_keyed {l : List (ByteArray × MemberR)} (h : Keyed l) (s : ByteArray) (t : TxR) (i : Int) : Keyed (goneL l s t i) := by
  unfold goneL
  split
  · exact h
  · rename_i m hg
    split
    · exact del_keyed h s
    · exact put_keyed h (by simp only; exact h.2 _ (getA_mem hg))
theorem get_gone {l : List (ByteArray × MemberR)} (h : Keyed l) (s a : ByteArray) (t : TxR) (i : Int) : getA (goneL l s t i) a = if s = a then (getA l s).bind (woMe t i s false) else getA l a := by
  unfold goneL
  cases hg : getA l s with
  | none =>
    simp only [Option.bind_none]
    split
    · rename_i e; rw [← e, hg]
    · rfl
  | some m =>
    have hmt : m.text = s := h.2 _ (getA_mem hg)
    simp only [Option.bind_some, woMe, hmt, or_true, if_true]
    split
    · rename_i h1
      rw [getA_del h.1]
    · rename_i h1
      rw [getA_put]
theorem gone_len {l : List (ByteArray × MemberR)} (s : ByteArray) (t : TxR) (i : Int) : (goneL l s t i).length ≤ l.length := by
  unfold goneL
  split
  · exact Nat.le_refl _
  · rename_i m hg
    split
    · exact (del_sub l s).length_le
    · have := congrArg List.length (keys_put l s { m with base := false, marks := leftM m.marks t i })
      rw [hg] at this
      simpa using Nat.le_of_eq this
theorem gone_marks {l : List (ByteArray × MemberR)} (h : Keyed l) {n : Nat} (hn : ∀ p ∈ l, p.2.marks.length < n) (s : ByteArray) (t : TxR) (i : Int) : ∀ p ∈ goneL l s t i, p.2.marks.length < n := by
  intro p hp
  have hk := gone_keyed h s t i
  have hg := getA_of_mem hk.1 (show (p.1, p.2) ∈ _ from hp)
  rw [get_gone h] at hg
  split at hg
  · cases hs : getA l s with
    | none => rw [hs] at hg; cases hg
    | some m =>
      rw [hs] at hg
      have hm := hn _ (getA_mem hs)
      have hl : (leftM m.marks t i).length ≤ m.marks.length := kept_len _ _
      simp only [Option.bind_some, woMe] at hg
      split at hg
      · split at hg
        · cases hg
        · rw [← Option.some.inj hg]; simp only at hm ⊢; omega
      · rw [← Option.some.inj hg]; exact hm
  · exact hn _ (getA_mem hg)
theorem filterMap_rise {f : MemberR → Option MemberR} (hf : ∀ m z, f m = some z → z.text = m.text) {l : List MemberR} (h : RiseT l) : RiseT (l.filterMap f) := by
  rw [RiseT, List.pairwise_filterMap]
  exact h.imp fun {a b} hab x hx y hy => by rw [hf _ _ hx, hf _ _ hy]; exact hab
theorem wo_text {t : TxR} {i : Int} {s : ByteArray} {all : Bool} (m z : MemberR) (h : woMe t i s all m = some z) : z.text = m.text := by
  unfold woMe at h
  split at h
  · split at h
    · cases h
    · cases h; rfl
  · cases h; rfl
/-- One removal, closed. -/
theorem del_close {l : List MemberR} (h : RiseT l) (s : ByteArray) (t : TxR) (i : Int) : closeM (goneL (openM l) s t i) = l.filterMap (woMe t i s false) := by
  obtain ⟨a1, a2⟩ := closeM_spec (gone_keyed (open_keyed h) s t i)
  refine riseT_ext a1 (filterMap_rise wo_text h) fun z => ?_
  rw [a2, get_gone (open_keyed h), List.mem_filterMap]
  by_cases hz : s = z.text
  · rw [if_pos hz]
    constructor
    · intro hb
      rw [Option.bind_eq_some_iff] at hb
      obtain ⟨m, hm, hw⟩ := hb
      exact ⟨m, ((get_open h s m).1 hm).1, hw⟩
    · rintro ⟨m, hm, hw⟩
      have := (get_open h s m).2 ⟨hm, by rw [← wo_text m z hw, hz]⟩
      rw [this]; exact hw
  · rw [if_neg hz, get_open h]
    constructor
    · rintro ⟨hm, _⟩
      exact ⟨z, hm, by rw [woMe, if_neg (by simp; exact fun e => hz e.symm)]⟩
    · rintro ⟨m, hm, hw⟩
      have ht := wo_text m z hw
      have : woMe t i s false m = some m := by rw [woMe, if_neg (by simp; exact fun e => hz (by rw [ht, e]))]
      rw [this] at hw
      cases hw
      exact ⟨hm, rfl⟩
open Classical in
/-- Each member's removal, closed. -/
theorem gones_spec {t : TxR} {i : Int} {n : Nat} : ∀ (r : List MemberR) (l : List (ByteArray × MemberR)), Keyed l → (∀ p ∈ l, p.2.marks.length < n) → (r.map (·.text)).Nodup →
    Keyed (r.foldl (fun a m => goneL a m.text t i) l) ∧ (∀ p ∈ r.foldl (fun a m => goneL a m.text t i) l, p.2.marks.length < n) ∧ (r.foldl (fun a m => goneL a m.text t i) l).length ≤ l.length ∧
    ∀ a, getA (r.foldl (fun a m => goneL a m.text t i) l) a = if a ∈ r.map (·.text) then (getA l a).bind (woMe t i a false) else getA l a
  | [], l, h, hn, _ => ⟨h, hn, Nat.le_refl _, fun a => by simp⟩
  | m :: r, l, h, hn, hnd => by
    simp only [List.map_cons, List.nodup_cons] at hnd
    obtain ⟨b1, b2, b3, b4⟩ := gones_spec r (goneL l m.text t i) (gone_keyed h _ _ _) (gone_marks h hn _ _ _) hnd.2
    refine ⟨b1, b2, Nat.le_trans b3 (gone_len _ _ _), fun a => ?_⟩
    rw [List.foldl_cons, b4, get_gone h]
    by_cases ha : m.text = a
    · subst ha
      have hnr : ¬ m.text ∈ r.map (·.text) := hnd.1
      rw [if_neg hnr, if_pos rfl, if_pos (by simp)]
    · rw [if_neg ha]
      have : (a ∈ (m :: r).map (·.text)) ↔ a ∈ r.map (·.text) := by
        rw [List.map_cons, List.mem_cons]
        constructor
        · rintro (e | e)
          · exact absurd e.symm ha
          · exact e
        · exact .inr
      by_cases hr : a ∈ r.map (·.text)
      · rw [if_pos hr, if_pos (this.2 hr)]
      · rw [if_neg hr, if_neg fun e => hr (this.1 e)]
theorem clear_close {l : List MemberR} (h : RiseT l) {t : TxR} {i : Int} {n : Nat} (hn : ∀ m ∈ l, m.marks.length < n) (x : ByteArray) :
    closeM (l.foldl (fun a m => goneL a m.text t i) (openM l)) = l.filterMap (woMe t i x true) := by
  obtain ⟨b1, b2, b3, b4⟩ := gones_spec (t := t) (i := i) (n := n) l (openM l) (open_keyed h) (fun p hp => by obtain ⟨m, hm, rfl⟩ := List.mem_map.1 hp; exact hn m hm) (riseT_texts h)
  obtain ⟨a1, a2⟩ := closeM_spec b1
  refine riseT_ext a1 (filterMap_rise wo_text h) fun z => ?_
  rw [a2, b4, List.mem_filterMap]
  have same : ∀ m : MemberR, woMe t i m.text false m = woMe t i x true m := fun m => by simp [woMe]
  constructor
  · intro hb
    split at hb
    · rw [Option.bind_eq_some_iff] at hb
      obtain ⟨m, hm, hw⟩ := hb
      obtain ⟨h1, h2⟩ := (get_open h _ m).1 hm
      rw [← h2, same] at hw
      exact ⟨m, h1, hw⟩
    · rename_i hno
      obtain ⟨h1, h2⟩ := (get_open h _ z).1 hb
      exact absurd (List.mem_map.2 ⟨z, h1, rfl⟩) hno
  · rintro ⟨m, hm, hw⟩
    have ht := wo_text m z hw
    have hin : z.text ∈ l.map (·.text) := List.mem_map.2 ⟨m, hm, ht.symm⟩
    have hg := (get_open h z.text m).2 ⟨hm, ht.symm⟩
    rw [if_pos hin, hg]
    rw [ht, Option.bind_some, same]; exact hw
end Go.Ab
set_option linter.unusedSimpArgs false
namespace Go.Ab
open Go.Proofs

theorem open_marks {l : List MemberR} {n : Nat} (h : ∀ m ∈ l, m.marks.length < n) : ∀ p ∈ openM l, p.2.marks.length < n := fun p hp => by
  obtain ⟨m, hm, rfl⟩ := List.mem_map.1 hp; exact h m hm
theorem open_len (l : List MemberR) : (openM l).length = l.length := by simp [openM]
set_option maxRecDepth 8000 in
set_option maxHeartbeats 2000000 in
theorem orset_del (c : CellR) (t : TxR) (i : Int) (x : ByteArray) (hd : t.deps.length = 13) (hw : c.me.length < 100000) (hm : ∀ m ∈ c.me, m.marks.length < 10000000) :
    PSpec Tryz.prog CT 175 [cellD c, txD t, .lit (.int .i64 i), .lit (.string x)] (· = cellD (delS c t i x)) := by
  refine HSpec.pure (HSpec.of hT Tryz.func175 rfl (by kernel_rfl) rfl rfl fun tk => ?_)
  simp only [Tryz.f175, go_sem, simprocAttr, hd]
  refine callK_pure (args' := [cellD c, .lit (.int .i64 i), .lit (.string x)]) (orset_may c i x (by omega) (fun m h => by have := hm m h; omega)) (by first | rfl | (simp only [go_sem, hd]; done)) (by first | (simp only [go_sem, hd]; done) | (simp [pureL, pureD]; done)) ?_
  cases hmay : (decide (1 ≤ i) && decide ((x.size : Int) ≤ 64) && checkS c) with
  | false =>
    have e : delS c t i x = c := by rw [delS, if_pos (may_not.1 hmay)]
    simp only [go_sem, simprocAttr, hd, Bool.not_false]
    rw [e]
    exact finH_all (by intro N s' L hmm; simp at hmm) (melt_cell _ _) (pure_cell _) ⟨pure_cell _, rfl⟩
  | true =>
  have hnot : ¬ (checkS c = false ∨ i < 1 ∨ 64 < (x.size : Int)) := fun h => by rw [may_not.2 h] at hmay; cases hmay
  have hck : checkS c = true := by simp only [Bool.and_eq_true] at hmay; exact hmay.2
  obtain ⟨_, hok, hr⟩ := (checkS_iff c).1 hck
  have e : delS c t i x = { c with me := c.me.filterMap (woMe t i x false) } := by rw [delS, if_neg hnot]; rfl
  simp only [go_sem, simprocAttr, hd, Bool.not_true]
  refine callK_h (orset_opened c _ hr (by omega)) ?_
  rintro r bs' ⟨q, rfl, rfl⟩
  simp only [go_sem, simprocAttr, hd]
  refine callK_h (orset_gone (openM c.me) q x t i 4 _ hd rfl (fun p hp => by have := open_marks hm p hp; omega) (open_keyed hr).2) ?_
  rintro r bs' ⟨q', rfl, rfl⟩
  simp only [go_sem, simprocAttr, hd]
  have hgl := gone_len (l := openM c.me) x t i
  rw [open_len] at hgl
  refine callK_h (orset_closed c 4 _ _ _ rfl (gone_keyed (open_keyed hr) x t i) (by omega)) ?_
  rintro r bs' ⟨rfl, rfl⟩
  simp only [go_sem, simprocAttr, hd, del_close hr]
  rw [e]
  exact finH_all (by intro N s' L hmm; simp at hmm) (melt_cell _ ({ c with me := c.me.filterMap (woMe t i x false) } : CellR)) (pure_cell _) ⟨pure_cell _, rfl⟩

set_option maxRecDepth 8000 in
set_option maxHeartbeats 2000000 in
theorem orset_clear (c : CellR) (t : TxR) (i : Int) (hd : t.deps.length = 13) (hw : c.me.length < 100000) (hm : ∀ m ∈ c.me, m.marks.length < 10000000) :
    PSpec Tryz.prog CT 173 [cellD c, txD t, .lit (.int .i64 i)] (· = cellD (clearS c t i)) := by
  refine HSpec.pure (HSpec.of hT Tryz.func173 rfl (by kernel_rfl) rfl rfl fun tk => ?_)
  simp only [Tryz.f173, go_sem, simprocAttr, hd]
  refine callK_pure (args' := [cellD c, .lit (.int .i64 i), .lit (.string ⟨#[]⟩)]) (orset_may c i ⟨#[]⟩ (by omega) (fun m h => by have := hm m h; omega)) (by first | rfl | (simp only [go_sem, hd]; done)) (by first | (simp only [go_sem, hd]; done) | (simp [pureL, pureD]; done)) ?_
  have hmn : (decide (1 ≤ i) && decide (((⟨#[]⟩ : ByteArray).size : Int) ≤ 64) && checkS c) = false ↔ (checkS c = false ∨ i < 1) := by
    have h0 : (((⟨#[]⟩ : ByteArray).size : Nat) : Int) = 0 := rfl
    rw [h0]
    cases checkS c <;> simp <;> omega
  cases hmay : (decide (1 ≤ i) && decide (((⟨#[]⟩ : ByteArray).size : Int) ≤ 64) && checkS c) with
  | false =>
    have e : clearS c t i = c := by rw [clearS, if_pos (hmn.1 hmay)]
    simp only [go_sem, simprocAttr, hd, Bool.not_false]
    rw [e]
    exact finH_all (by intro N s' L hmm; simp at hmm) (melt_cell _ _) (pure_cell _) ⟨pure_cell _, rfl⟩
  | true =>
  have hnot : ¬ (checkS c = false ∨ i < 1) := fun h => by rw [hmn.2 h] at hmay; cases hmay
  have hck : checkS c = true := by simp only [Bool.and_eq_true] at hmay; exact hmay.2
  obtain ⟨_, hok, hr⟩ := (checkS_iff c).1 hck
  have e : clearS c t i = { c with me := c.me.filterMap (woMe t i ⟨#[]⟩ true) } := by rw [clearS, if_neg hnot]; rfl
  simp only [go_sem, simprocAttr, hd, Bool.not_true]
  refine callK_h (orset_opened c _ hr (by omega)) ?_
  rintro r bs' ⟨q, rfl, rfl⟩
  simp only [go_sem, simprocAttr, hd]
  have hsp : ∀ k, Keyed ((c.me.take k).foldl (fun a m => goneL a m.text t i) (openM c.me)) ∧ (∀ p ∈ (c.me.take k).foldl (fun a m => goneL a m.text t i) (openM c.me), p.2.marks.length < 10000000) ∧ ((c.me.take k).foldl (fun a m => goneL a m.text t i) (openM c.me)).length ≤ c.me.length := fun k => by
    obtain ⟨b1, b2, b3, _⟩ := gones_spec (t := t) (i := i) (n := 10000000) (c.me.take k) (openM c.me) (open_keyed hr) (open_marks hm) (riseT_texts (List.Pairwise.sublist (List.take_sublist _ _) hr))
    rw [open_len] at b3
    exact ⟨b1, b2, b3⟩
  refine awp_loop (fun n s => ∃ (x ex : List (Sh × D)) (k z : Nat) (g : Nat → D), s = ⟨[g 0, g 1, .lit (.int .i64 i), .ptr 0 [], .ptr 1 [], g 5, .ptr 2 [], .mref 4, g 8, g 9, g 10, g 11, g 12, g 13, g 14, g 15, g 16, g 17, .lst 67 (c.me.map meD) .no, .lit (.int .i64 c.me.length), .lit (.int .i64 k), g 21, g 22, g 23, g 24, g 25, g 26, g 27, g 28, g 29, g 30, g 31, g 32, g 33], ⟨x, tk⟩⟩ ∧ n = c.me.length - k ∧ x = [(cellSh, cellD c), (txSh, txD t), (cellSh, CT.zero 27), (cellSh, cellD c), (.obj 1, mapG kS meD ((c.me.take k).foldl (fun a m => goneL a m.text t i) (openM c.me)) z)] ++ ex ∧ k ≤ c.me.length ∧ ∀ N s L, (Sh.arr N s, D.agg L) ∉ ex) c.me.length ⟨_, [], 0, q, reg_intro rfl rfl ⟨by simp, rfl, by omega, by simp⟩⟩ ?_
  rintro n st ⟨x, ex, k, z, g, rfl, hn, hx, hk, hex⟩
  have hxt : ∀ y, (x ++ [y])[1]? = some (txSh, txD t) := fun y => by rw [hx]; rfl
  have hxm : ∀ y, (x ++ [y])[4]? = some (.obj 1, mapG kS meD ((c.me.take k).foldl (fun a m => goneL a m.text t i) (openM c.me)) z) := fun y => by rw [hx]; rfl
  simp only [go_sem, simprocAttr]
  refine condK_split (fun hc => ?_) (fun hc => ?_)
  · have hk' : k < c.me.length := by have := of_decide_eq_true hc; omega
    simp only [go_sem, simprocAttr, hk', get_me, hxt, hd]
    refine callK_h (orset_gone _ z (meAt c k).text t i 4 _ hd (hxm _) (fun p hp => by have := (hsp k).2.1 p hp; omega) (hsp k).1.2) ?_
    rintro r bs' ⟨q', rfl, rfl⟩
    simp only [go_sem, simprocAttr, wrapNat k (by omega)]
    refine ⟨c.me.length - (k + 1), by omega, _, ex ++ [((.pair .leaf (.pair .leaf (.pair .leaf .unit))), meD (meAt c k))], k + 1, q', reg_intro rfl rfl ⟨rfl, ?_, by omega, fun N s L h => by rcases List.mem_append.1 h with h | h; exact hex _ _ _ h; simp at h⟩⟩
    rw [hx, take_snocG c.me k hk', List.foldl_append]
    rfl
  · have hi := of_decide_eq_false hc
    obtain rfl : k = c.me.length := by omega
    have hx0 : x[0]? = some (cellSh, cellD c) := by rw [hx]; rfl
    have hx2 : x[2]? = some (cellSh, CT.zero 27) := by rw [hx]; rfl
    have hx4 : x[4]? = some (.obj 1, mapG kS meD ((c.me.take c.me.length).foldl (fun a m => goneL a m.text t i) (openM c.me)) z) := by rw [hx]; rfl
    have hs2 : ∀ y, (x.set 2 y)[2]? = some y := fun y => List.getElem?_set_self (List.getElem?_eq_some_iff.1 hx2).1
    simp only [go_sem, simprocAttr, hx0]
    refine callK_h (orset_closed c 4 _ z _ hx4 (hsp _).1 (by have := (hsp c.me.length).2.2; omega)) ?_
    rintro r bs' ⟨rfl, rfl⟩
    rw [List.take_length, clear_close hr hm ⟨#[]⟩]
    simp only [go_sem, simprocAttr, hx2, hs2]
    rw [e]
    refine finH_all ?_ (melt_cell _ ({ c with me := c.me.filterMap (woMe t i ⟨#[]⟩ true) } : CellR)) (pure_cell _) ⟨pure_cell _, rfl⟩
    intro N s' L hmm
    rcases List.mem_or_eq_of_mem_set hmm with h | h
    · rw [hx] at h
      rcases List.mem_append.1 h with h | h
      · simp at h
      · exact absurd h (hex _ _ _)
    · simp at h
end Go.Ab
set_option linter.unusedSimpArgs false
namespace Go.Ab
open Go.Proofs

end Go.Ab
set_option linter.unusedSimpArgs false
namespace Go.Ab
open Go.Proofs

theorem outX_ofL {e : TypeId} {k : Nat} {d : D} {ex : List (Sh × D)} {l : List D} (ho : OutL e k d ex l) (hp : pureL l) : OutX e k d ex l := by
  rcases ho with ⟨rfl, rfl, rfl⟩ | ⟨j, N, L, h1, h2, h3, h4, h5, h6, h7⟩
  · exact outX_nil _ _
  · exact ⟨h7, hp, .inr ⟨j, N, L, h1, h2, h3, h4, h5, h6⟩⟩
theorem pureL_st {L : List D} {k : Nat} {d : D} (h : pureL L) (hd : pureD d) : pureL (L.set k d) := by
  induction L generalizing k with
  | nil => simpa using h
  | cons x r ih => cases k with
    | zero => exact ⟨hd, h.2⟩
    | succ k => exact ⟨h.1, ih h.2⟩
/-- An element of such a slice is written. -/
theorem outX_upd {e : TypeId} {K : Nat} {d : D} {base ex : List (Sh × D)} {l : List D} (ho : OutX e K d ex l) (hk : base.length = K) {k : Nat} (hl : k < l.length) :
    ∃ b N L, d = .sl e b 0 l.length N ∧ K ≤ b ∧ (base ++ ex)[b]? = some (.arr N (CT.sh e), .agg L) ∧ k < N ∧ L[k]? = l[k]? ∧
      ∀ y, pureD y → ∃ ex', (base ++ ex).set b (.arr N (CT.sh e), .agg (L.set k y)) = base ++ ex' ∧ OutX e K d ex' (l.set k y) := by
  obtain ⟨hpu, hpl, ⟨rfl, h⟩ | ⟨j, N, L, rfl, hj, hL, hlN, hN, htk⟩⟩ := ho
  · rw [h] at hl; simp at hl
  · have hjl : j < ex.length := (List.getElem?_eq_some_iff.1 hj).1
    refine ⟨K + j, N, L, rfl, by omega, by rw [List.getElem?_append_right (by omega), hk, Nat.add_sub_cancel_left]; exact hj, by omega, ?_, fun y hy => ⟨ex.set j (.arr N (CT.sh e), .agg (L.set k y)), ?_, ?_, pureL_st hpl hy, .inr ⟨j, N, L.set k y, by rw [List.length_set], List.getElem?_set_self hjl, by simpa using hL, by simpa using hlN, hN, ?_⟩⟩⟩
    · conv => rhs; rw [← htk]
      rw [List.getElem?_take, if_pos hl]
    · rw [List.set_append_right _ _ (by omega), hk, Nat.add_sub_cancel_left]
    · intro N' s' L' hm
      rcases List.mem_or_eq_of_mem_set hm with h' | h'
      · exact hpu _ _ _ h'
      · simp only [Prod.mk.injEq, D.agg.injEq] at h'
        obtain ⟨_, rfl⟩ := h'
        exact pureL_st (hpu _ _ _ (List.mem_of_getElem? hj)) hy
    · rw [List.length_set, List.take_set, htk]
theorem list_set_map {α : Type} (f : α → D) (l : List α) (k : Nat) (x : α) : (l.map f).set k (f x) = (l.set k x).map f := by simp

end Go.Ab
