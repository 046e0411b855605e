/- Sequences: two ops that have not seen each other come to one in either order. Conditions: none. -/
import Derived.Test.YtehcjnendfpbaaaGreatCeA
set_option linter.unusedSimpArgs false
namespace Go.Ab
open Go.Proofs

theorem reach_mono {l l' : List ElemR} (h : ∀ e ∈ l, ∃ e' ∈ l', e'.m = e.m ∧ e'.ref = e.ref) {m : MarkR} (hm : Reach l m) : Reach l' m := by
  induction hm with
  | zero => exact .zero
  | step e he _ ih =>
    obtain ⟨e', h1, h2, h3⟩ := h e he
    rw [← h2]
    exact .step e' h1 (by rw [h3]; exact ih)
def Behind (l : List ElemR) (t : TxR) (i : Int) (ref : MarkR) : Prop := ref = zeroM ∨ ∃ e ∈ l, e.m = ref ∧ ∀ m ∈ e.gone, befM t i m = false
theorem elemOf_iff {l : List ElemR} (h : RiseG ElemR.m l) {m : MarkR} {e : ElemR} : elemOf l m = some e ↔ e ∈ l ∧ e.m = m := by
  constructor
  · intro h1
    have := List.find?_some h1
    exact ⟨List.mem_of_find?_eq_some h1, by simpa [sameG] using this⟩
  · rintro ⟨h1, h2⟩
    cases hf : elemOf l m with
    | none =>
      have := List.find?_eq_none.1 hf e h1
      simp [sameG, h2] at this
    | some e' =>
      have h3 := List.find?_some hf
      have h4 := List.mem_of_find?_eq_some hf
      rw [riseG_inj h h1 h4 (by rw [h2]; simp [sameG] at h3; exact h3.symm)]
theorem behind_iff {l : List ElemR} (h : RiseG ElemR.m l) (t : TxR) (i : Int) (ref : MarkR) : behindOk l t i ref = true ↔ Behind l t i ref := by
  simp only [behindOk, Behind, Bool.or_eq_true, decide_eq_true_eq]
  refine or_congr Iff.rfl ?_
  cases he : elemOf l ref with
  | none =>
    simp only [Bool.false_eq_true, false_iff]
    rintro ⟨e, h1, h2, _⟩
    rw [(elemOf_iff h).2 ⟨h1, h2⟩] at he; cases he
  | some e =>
    obtain ⟨h1, h2⟩ := (elemOf_iff h).1 he
    simp only [Bool.not_eq_true', List.any_eq_false, Bool.not_eq_true]
    constructor
    · exact fun h3 => ⟨e, h1, h2, h3⟩
    · rintro ⟨e', h3, h4, h5⟩
      rw [riseG_inj h h1 h3 (by rw [h2, h4])]; exact h5
def InsOk (c : CellR) (t : TxR) (i : Int) (ref : MarkR) (s : ByteArray) : Prop := 1 ≤ i ∧ (s.size : Int) ≤ 64 ∧ (∀ e ∈ c.el, e.m ≠ ⟨t.peer, t.seq, i⟩) ∧ Behind c.el t i ref
theorem insQ_no {c : CellR} {t : TxR} {i : Int} {ref : MarkR} {s : ByteArray} (hc : checkQ c = true) (h : ¬ InsOk c t i ref s) : insQ c t i ref s = c := by
  unfold insQ
  split
  · rfl
  · rename_i h1
    split
    · rename_i h2
      simp only [not_or] at h1
      refine absurd ⟨by omega, by omega, ?_, (behind_iff ((checkQ_iff c).1 hc).2.2.1 t i ref).1 h2⟩ h
      intro e he e2
      exact h1.2.2.2 (List.any_eq_true.2 ⟨e, he, by simp [sameG, e2]⟩)
    · rfl
theorem insQ_yes {c : CellR} {t : TxR} {i : Int} {ref : MarkR} {s : ByteArray} (hc : checkQ c = true) (h : InsOk c t i ref s) :
    insQ c t i ref s = { c with el := (insQ c t i ref s).el } ∧ checkQ (insQ c t i ref s) = true ∧ ∀ z, z ∈ (insQ c t i ref s).el ↔ z = newE t i ref s ∨ z ∈ c.el := by
  obtain ⟨k1, k2, k3, k4⟩ := (checkQ_iff c).1 hc
  obtain ⟨h1, h2, h3, h4⟩ := h
  have hany : ¬ c.el.any (sameG ElemR.m ⟨t.peer, t.seq, i⟩) = true := by
    rw [List.any_eq_true]
    rintro ⟨e, he, e2⟩
    exact h3 e he (by simpa [sameG] using e2)
  have e : insQ c t i ref s = { c with el := insB (goesG ElemR.m (newE t i ref s)) (newE t i ref s) c.el } := by
    rw [insQ, if_neg (by rw [hc]; simp only [not_or]; exact ⟨by omega, by omega, by simp, hany⟩), if_pos ((behind_iff k3 t i ref).2 h4)]
  have hm : ∀ z, z ∈ (insQ c t i ref s).el ↔ z = newE t i ref s ∨ z ∈ c.el := fun z => by rw [e]; exact mem_insB
  refine ⟨by rw [e], ?_, hm⟩
  rw [checkQ_iff]
  refine ⟨by rw [e]; exact k1, fun x hx => ?_, by rw [e]; exact insB_riseG k3 h3, fun x hx => ?_⟩
  · rcases (hm x).1 hx with rfl | hx
    · exact ⟨h1, h2, by simp, by simp [RiseK]⟩
    · exact k2 x hx
  · have mono : ∀ {m : MarkR}, Reach c.el m → Reach (insQ c t i ref s).el m := fun hr => reach_mono (fun e he => ⟨e, (hm e).2 (.inr he), rfl, rfl⟩) hr
    rcases (hm x).1 hx with rfl | hx
    · refine .step (newE t i ref s) hx ?_
      show Reach _ ref
      rcases h4 with rfl | ⟨y, hy, rfl, _⟩
      · exact .zero
      · exact mono (k4 y hy)
    · exact mono (k4 x hx)
theorem takeE_m (p : MarkR → Bool) (m : MarkR) (e : ElemR) : (takeE p m e).m = e.m ∧ (takeE p m e).ref = e.ref ∧ (takeE p m e).text = e.text ∧ (takeE p m e).time = e.time := by
  unfold takeE; split <;> exact ⟨rfl, rfl, rfl, rfl⟩
theorem takeQ_spec {c : CellR} {t : TxR} {i : Int} {p : MarkR → Bool} (hc : checkQ c = true) (hi : 1 ≤ i) :
    takeQ c t i p = { c with el := c.el.map (takeE p ⟨t.peer, t.seq, i⟩) } ∧ checkQ (takeQ c t i p) = true := by
  have e : takeQ c t i p = { c with el := c.el.map (takeE p ⟨t.peer, t.seq, i⟩) } := by rw [takeQ, if_neg (by rw [hc]; simp; omega)]
  obtain ⟨k1, k2, k3, k4⟩ := (checkQ_iff c).1 hc
  refine ⟨e, ?_⟩
  rw [checkQ_iff, e]
  refine ⟨k1, ?_, ?_, ?_⟩
  · intro x hx
    obtain ⟨y, hy, rfl⟩ := List.mem_map.1 hx
    obtain ⟨a1, a2, a3, a4⟩ := k2 y hy
    unfold takeE
    split
    · refine ⟨a1, a2, fun m hm => ?_, with_rise a4⟩
      rcases mem_with.1 hm with rfl | hm
      · exact hi
      · exact a3 m hm
    · exact ⟨a1, a2, a3, a4⟩
  · rw [RiseG, List.pairwise_map]
    exact k3.imp fun {a b} h => by rw [(takeE_m _ _ a).1, (takeE_m _ _ b).1]; exact h
  · intro x hx
    obtain ⟨y, hy, rfl⟩ := List.mem_map.1 hx
    rw [(takeE_m _ _ y).1]
    exact reach_mono (fun e he => ⟨_, List.mem_map_of_mem he, (takeE_m _ _ e).1, (takeE_m _ _ e).2.1⟩) (k4 y hy)
theorem takeQ_no {c : CellR} {t : TxR} {i : Int} {p : MarkR → Bool} (h : checkQ c = false) : takeQ c t i p = c := by rw [takeQ, if_pos (.inr h)]
theorem insQ_bad {c : CellR} {t : TxR} {i : Int} {ref : MarkR} {s : ByteArray} (h : checkQ c = false) : insQ c t i ref s = c := by rw [insQ, if_pos (.inr (.inr (.inl h)))]
theorem with_comm {l : List MarkR} (h : RiseK l) (a b : MarkR) : withM (withM l a) b = withM (withM l b) a :=
  riseK_ext (with_rise (with_rise h)) (with_rise (with_rise h)) fun z => by
    simp only [mem_with]
    constructor
    · rintro (h | h | h)
      · exact .inr (.inl h)
      · exact .inl h
      · exact .inr (.inr h)
    · rintro (h | h | h)
      · exact .inr (.inl h)
      · exact .inl h
      · exact .inr (.inr h)

/-- Two insertions. -/
theorem ins_ins {c : CellR} {t u : TxR} {q r : MarkR} {a b : ByteArray} (hne : ¬ (t.peer = u.peer ∧ t.seq = u.seq)) (hq : q ≠ ⟨u.peer, u.seq, 1⟩) (hr : r ≠ ⟨t.peer, t.seq, 1⟩) :
    insQ (insQ c t 1 q a) u 1 r b = insQ (insQ c u 1 r b) t 1 q a := by
  cases hc : checkQ c with
  | false => simp only [insQ_bad hc]
  | true =>
    have hd : (⟨t.peer, t.seq, 1⟩ : MarkR) ≠ ⟨u.peer, u.seq, 1⟩ := fun e => hne (by simpa using e)
    -- an insertion leaves it open whether the other one may be
    have keep : ∀ {t u : TxR} {q r : MarkR} {a b : ByteArray}, (⟨t.peer, t.seq, 1⟩ : MarkR) ≠ ⟨u.peer, u.seq, 1⟩ → r ≠ ⟨t.peer, t.seq, 1⟩ → InsOk c t 1 q a → (InsOk (insQ c t 1 q a) u 1 r b ↔ InsOk c u 1 r b) := by
      intro t u q r a b hd hr h
      obtain ⟨_, _, hm⟩ := insQ_yes hc h
      unfold InsOk Behind
      simp only [hm]
      constructor
      · rintro ⟨h1, h2, h3, h4⟩
        refine ⟨h1, h2, fun e he => h3 e (.inr he), h4.elim .inl ?_⟩
        rintro ⟨e, rfl | he, h5, h6⟩
        · exact absurd h5.symm hr
        · exact .inr ⟨e, he, h5, h6⟩
      · rintro ⟨h1, h2, h3, h4⟩
        refine ⟨h1, h2, ?_, h4.elim .inl fun ⟨e, he, h5⟩ => .inr ⟨e, .inr he, h5⟩⟩
        rintro e (rfl | he)
        · exact hd
        · exact h3 e he
    by_cases ha : InsOk c t 1 q a
    · by_cases hb : InsOk c u 1 r b
      · obtain ⟨e1, c1, m1⟩ := insQ_yes hc ha
        obtain ⟨e2, c2, m2⟩ := insQ_yes hc hb
        obtain ⟨e3, c3, m3⟩ := insQ_yes c1 ((keep hd hr ha).2 hb)
        obtain ⟨e4, c4, m4⟩ := insQ_yes c2 ((keep hd.symm hq hb).2 ha)
        have := riseG_ext ((checkQ_iff _).1 c3).2.2.1 ((checkQ_iff _).1 c4).2.2.1 fun z => by
          rw [m3, m4, m1, m2]
          constructor
          · rintro (h | h | h)
            · exact .inr (.inl h)
            · exact .inl h
            · exact .inr (.inr h)
          · rintro (h | h | h)
            · exact .inr (.inl h)
            · exact .inl h
            · exact .inr (.inr h)
        rw [e3, e4, this, e1, e2]
      · have c1 := (insQ_yes hc ha).2.1
        rw [insQ_no hc hb, insQ_no c1 (fun h => hb ((keep hd hr ha).1 h))]
    · by_cases hb : InsOk c u 1 r b
      · have c2 := (insQ_yes hc hb).2.1
        rw [insQ_no hc ha, insQ_no c2 (fun h => ha ((keep hd.symm hq hb).1 h))]
      · rw [insQ_no hc ha, insQ_no hc hb, insQ_no hc ha]
/-- An insertion and a removal. -/
theorem ins_del {c : CellR} {t u : TxR} {q r : MarkR} {a : ByteArray} (hr : r ≠ ⟨t.peer, t.seq, 1⟩) (hb : before u.peer u.seq 1 t 1 = false) :
    delQ (insQ c t 1 q a) u 1 r = insQ (delQ c u 1 r) t 1 q a := by
  unfold delQ
  cases hc : checkQ c with
  | false => simp only [insQ_bad hc, takeQ_no hc]
  | true =>
    obtain ⟨e2, c2⟩ := takeQ_spec (t := u) (i := 1) (p := sameR r) hc (by omega)
    have hg : ∀ e : ElemR, (∀ m ∈ (takeE (sameR r) ⟨u.peer, u.seq, 1⟩ e).gone, befM t 1 m = false) ↔ ∀ m ∈ e.gone, befM t 1 m = false := by
      intro e
      unfold takeE
      split
      · simp only [mem_with]
        constructor
        · exact fun h m hm => h m (.inr hm)
        · rintro h m (rfl | hm)
          · exact hb
          · exact h m hm
      · rfl
    have keep : InsOk (takeQ c u 1 (sameR r)) t 1 q a ↔ InsOk c t 1 q a := by
      unfold InsOk Behind
      rw [e2]
      simp only [List.mem_map]
      constructor
      · rintro ⟨h1, h2, h3, h4⟩
        refine ⟨h1, h2, fun e he => by rw [← (takeE_m (sameR r) ⟨u.peer, u.seq, 1⟩ e).1]; exact h3 _ ⟨e, he, rfl⟩, h4.elim .inl ?_⟩
        rintro ⟨_, ⟨e, he, rfl⟩, h5, h6⟩
        exact .inr ⟨e, he, by rw [← (takeE_m (sameR r) ⟨u.peer, u.seq, 1⟩ e).1]; exact h5, (hg e).1 h6⟩
      · rintro ⟨h1, h2, h3, h4⟩
        refine ⟨h1, h2, ?_, h4.elim .inl ?_⟩
        · rintro _ ⟨e, he, rfl⟩
          rw [(takeE_m (sameR r) ⟨u.peer, u.seq, 1⟩ e).1]; exact h3 e he
        · rintro ⟨e, he, h5, h6⟩
          exact .inr ⟨_, ⟨e, he, rfl⟩, by rw [(takeE_m (sameR r) ⟨u.peer, u.seq, 1⟩ e).1]; exact h5, (hg e).2 h6⟩
    by_cases ha : InsOk c t 1 q a
    · obtain ⟨e1, c1, m1⟩ := insQ_yes hc ha
      obtain ⟨e3, c3⟩ := takeQ_spec (t := u) (i := 1) (p := sameR r) c1 (by omega)
      obtain ⟨e4, c4, m4⟩ := insQ_yes c2 (keep.2 ha)
      have hx : takeE (sameR r) ⟨u.peer, u.seq, 1⟩ (newE t 1 q a) = newE t 1 q a := by
        rw [takeE, if_neg]
        simp only [sameR, decide_eq_true_eq]
        exact fun e => hr e.symm
      have := riseG_ext ((checkQ_iff _).1 c3).2.2.1 ((checkQ_iff _).1 c4).2.2.1 fun z => by
        rw [m4, e3, e2]
        simp only [List.mem_map, m1]
        constructor
        · rintro ⟨w, rfl | hw, rfl⟩
          · exact .inl hx
          · exact .inr ⟨w, hw, rfl⟩
        · rintro (rfl | ⟨w, hw, rfl⟩)
          · exact ⟨_, .inl rfl, hx⟩
          · exact ⟨w, .inr hw, rfl⟩
      have h5 : takeQ (insQ c t 1 q a) u 1 (sameR r) = { c with el := (takeQ (insQ c t 1 q a) u 1 (sameR r)).el } := by
        conv => lhs; rw [e3]
        rw [e1]
        rw [e1] at e3
        rw [e3]
      have h6 : insQ (takeQ c u 1 (sameR r)) t 1 q a = { c with el := (insQ (takeQ c u 1 (sameR r)) t 1 q a).el } := by
        conv => lhs; rw [e4]
        rw [e2]
      rw [h5, h6, this]
    · rw [insQ_no hc ha, insQ_no c2 (fun h => ha (keep.1 h))]
/-- Two removals. -/
theorem del_del {c : CellR} {t u : TxR} {q r : MarkR} : delQ (delQ c t 1 q) u 1 r = delQ (delQ c u 1 r) t 1 q := by
  unfold delQ
  cases hc : checkQ c with
  | false => simp only [takeQ_no hc]
  | true =>
    obtain ⟨e1, c1⟩ := takeQ_spec (t := t) (i := 1) (p := sameR q) hc (by omega)
    obtain ⟨e2, c2⟩ := takeQ_spec (t := u) (i := 1) (p := sameR r) hc (by omega)
    rw [(takeQ_spec c1 (by omega)).1, (takeQ_spec c2 (by omega)).1, e1, e2]
    simp only [List.map_map]
    congr 1
    refine List.map_congr_left fun e he => ?_
    have hk := (((checkQ_iff c).1 hc).2.1 e he).2.2.2
    simp only [Function.comp_apply, takeE]
    split <;> split <;> simp_all [with_comm hk]
end Go.Ab
