/- Sets: what is read behind what. Conditions: none. -/
import Derived.Test.YtehcjnendfpbaaaGreatOsQ
import Derived.Test.YtehcjnendfpbaaaGreatReO
import Derived.Test.YtehcjnendfpbaaaGreatReC
set_option linter.unusedSimpArgs false
namespace Go.Ab
open Go.Proofs

theorem checkS_of {c d : CellR} (hc : checkS c = true) (hs : SideS c d) (h1 : ∀ m ∈ d.me, MeOk m) (h2 : RiseT d.me) : checkS d = true := by
  refine (checkS_iff d).2 ⟨?_, h1, h2⟩
  obtain ⟨e1, e2, e3, e4, e5⟩ := hs
  have := ((checkS_iff c).1 hc).1
  simpa [shapeS, e1, e2, e3, e4, e5] using this
theorem addS_ok {c : CellR} (hc : checkS c = true) (t : TxR) (i : Int) (s : ByteArray) : checkS (addS c t i s) = true := by
  have hside := addS_side c t i s
  obtain ⟨_, ho, hr⟩ := (checkS_iff c).1 hc
  unfold addS at hside ⊢
  split
  · exact hc
  · rename_i hn
    rw [if_neg hn] at hside
    obtain ⟨a1, a2⟩ := addMe_spec hr s ⟨t.peer, t.seq, i⟩
    refine checkS_of hc hside (fun z hz => ?_) a1
    rcases (a2 z).1 hz with ⟨h, _⟩ | ⟨m, hm, _, rfl⟩ | ⟨_, rfl⟩
    · exact ho z h
    · obtain ⟨b1, b2, b3, b4⟩ := ho m hm
      refine ⟨b1, .inr fun e => ?_, fun x hx => ?_, with_rise b4⟩
      · have : (⟨t.peer, t.seq, i⟩ : MarkR) ∈ withM m.marks ⟨t.peer, t.seq, i⟩ := mem_with.2 (.inl rfl)
        rw [show withM m.marks ⟨t.peer, t.seq, i⟩ = [] from e] at this; cases this
      · rcases mem_with.1 hx with rfl | h
        · simp only; omega
        · exact b3 x h
    · refine ⟨by simp only; omega, .inr (by simp), fun x hx => ?_, by simp [RiseK]⟩
      rw [List.mem_singleton] at hx; subst hx; simp only; omega
theorem woMe_ok {t : TxR} {i : Int} {s : ByteArray} {all : Bool} {m y : MemberR} (h : woMe t i s all m = some y) (ho : MeOk m) : MeOk y := by
  obtain ⟨b1, b2, b3, b4⟩ := ho
  unfold woMe at h
  split at h
  · split at h
    · cases h
    · rename_i hn
      cases h
      exact ⟨b1, .inr hn, fun x hx => b3 x (List.mem_filter.1 hx).1, kept_rise _ b4⟩
  · cases h; exact ⟨b1, b2, b3, b4⟩
theorem woS_ok {c : CellR} (hc : checkS c = true) (t : TxR) (i : Int) (s : ByteArray) (all : Bool) : checkS (woS c t i s all) = true := by
  obtain ⟨_, ho, hr⟩ := (checkS_iff c).1 hc
  refine checkS_of hc ⟨rfl, rfl, rfl, rfl, rfl⟩ (fun z hz => ?_) (filterMap_rise wo_text hr)
  obtain ⟨m, hm, hz⟩ := List.mem_filterMap.1 hz
  exact woMe_ok hz (ho m hm)
theorem delS_ok {c : CellR} (hc : checkS c = true) (t : TxR) (i : Int) (s : ByteArray) : checkS (delS c t i s) = true := by
  unfold delS; split
  · exact hc
  · exact woS_ok hc _ _ _ _
theorem readS_ok {c : CellR} (hc : checkS c = true) : readS c = ⟨4, 0, c.me.map (·.text)⟩ := by rw [readS, if_neg (by rw [hc]; simp)]
theorem del_me {c : CellR} (hc : checkS c = true) {t : TxR} {i : Int} {s : ByteArray} (hi : 1 ≤ i) (hs : (s.size : Int) ≤ 64) : (delS c t i s).me = c.me.filterMap (woMe t i s false) := by
  rw [delS, if_neg (by rintro (h | h | h); rw [hc] at h; cases h; omega; omega)]; rfl


theorem fm_congr {α β : Type} {f g : α → Option β} : ∀ {l : List α}, (∀ m ∈ l, f m = g m) → l.filterMap f = l.filterMap g
  | [], _ => rfl
  | a :: r, h => by simp only [List.filterMap_cons, h a (List.mem_cons_self ..), fm_congr fun m hm => h m (List.mem_cons_of_mem _ hm)]
/-- A removal by one that has seen all additions. -/
theorem goes {c : CellR} (hc : checkS c = true) {t : TxR} {s : ByteArray} (hs : (s.size : Int) ≤ 64) (h : ∀ m ∈ c.me, m.text = s → ∀ x ∈ m.marks, befM t 1 x = true) :
    (readS (delS c t 1 s)).texts = (c.me.filter fun m => !decide (m.text = s)).map (·.text) := by
  have i1 : (1 : Int) ≤ 1 := Int.le_refl 1
  rw [readS_ok (delS_ok hc t 1 s), del_me hc i1 hs]
  simp only
  have : c.me.filterMap (woMe t 1 s false) = c.me.filter fun m => !decide (m.text = s) := by
    rw [← List.filterMap_eq_filter]
    refine fm_congr fun m hm => ?_
    by_cases e : m.text = s
    · have hl : leftM m.marks t 1 = [] := List.filter_eq_nil_iff.2 fun x hx => by simp [h m hm e x hx]
      rw [woMe, if_pos (.inr e), if_pos hl]; simp [Option.guard, e]
    · rw [woMe, if_neg (by rintro (h | h); cases h; exact e h)]; simp [Option.guard, e]
  rw [this]
end Go.Ab
set_option linter.unusedSimpArgs false
namespace Go.Ab
open Go.Proofs

def marks6s : List (List Nat) := [[0, 1, 2, 3, 4, 5, 6, 7, 8, 9], [0, 1, 2, 3, 4, 5, 7, 6, 8, 9], [0, 1, 2, 3, 6, 7, 8, 4, 5, 9], [0, 1, 2, 3, 7, 6, 8, 4, 5, 9], [0, 1, 2, 6, 7, 8, 3, 4, 5, 9], [0, 1, 2, 7, 6, 8, 3, 4, 5, 9]]
def sameT (s x : ByteArray) : Bool := decide (x = s)
end Go.Ab
set_option linter.unusedSimpArgs false
namespace Go.Ab
open Go.Proofs

end Go.Ab
set_option linter.unusedSimpArgs false
namespace Go.Ab
open Go.Proofs

def wantS (s : ByteArray) (l : List MemberR) : List ByteArray := (l.filter fun m => !decide (m.text = s)).map (·.text)
end Go.Ab
set_option linter.unusedSimpArgs false
namespace Go.Ab
open Go.Proofs

/-- The member of a text. -/
def atS (l : List MemberR) (x : ByteArray) : Option MemberR := l.find? fun m => decide (m.text = x)
theorem atS_iff {l : List MemberR} (h : RiseT l) {x : ByteArray} {m : MemberR} : atS l x = some m ↔ m ∈ l ∧ m.text = x := by
  constructor
  · intro h1
    exact ⟨List.mem_of_find?_eq_some h1, by simpa using List.find?_some h1⟩
  · rintro ⟨h1, h2⟩
    cases hf : atS l x with
    | none =>
      have := List.find?_eq_none.1 hf m h1
      simp [h2] at this
    | some e =>
      have h3 : e.text = x := by simpa using List.find?_some hf
      rw [riseT_inj h h1 (List.mem_of_find?_eq_some hf) (by rw [h2, h3])]
theorem atS_none {l : List MemberR} {x : ByteArray} : atS l x = none ↔ ∀ m ∈ l, m.text ≠ x := by
  simp [atS]
theorem atS_ext {l m : List MemberR} (h1 : RiseT l) (h2 : RiseT m) (h : ∀ x, atS l x = atS m x) : l = m :=
  riseT_ext h1 h2 fun z => by
    have := h z.text
    constructor
    · intro hz
      rw [(atS_iff h1).2 ⟨hz, rfl⟩] at this
      exact ((atS_iff h2).1 this.symm).1
    · intro hz
      rw [(atS_iff h2).2 ⟨hz, rfl⟩] at this
      exact ((atS_iff h1).1 this).1
def addO (s : ByteArray) (own : MarkR) : Option MemberR → Option MemberR
  | some m => some { m with marks := withM m.marks own }
  | none => some ⟨s, false, [own]⟩
theorem add_at {c : CellR} (hc : checkS c = true) {t : TxR} {s : ByteArray} (hs : (s.size : Int) ≤ 64) (x : ByteArray) :
    atS (addS c t 1 s).me x = if x = s then addO s ⟨t.peer, t.seq, 1⟩ (atS c.me s) else atS c.me x := by
  obtain ⟨_, ho, hr⟩ := (checkS_iff c).1 hc
  have e : (addS c t 1 s).me = addMe c.me s ⟨t.peer, t.seq, 1⟩ := by rw [addS, if_neg (by rintro (h | h | h); rw [hc] at h; cases h; omega; omega)]
  obtain ⟨a1, a2⟩ := addMe_spec hr s ⟨t.peer, t.seq, 1⟩
  rw [e]
  split
  · rename_i hx
    subst hx
    cases hm : atS c.me x with
    | none =>
      rw [atS_none] at hm
      exact (atS_iff a1).2 ⟨(a2 _).2 (.inr (.inr ⟨hm, rfl⟩)), rfl⟩
    | some m =>
      obtain ⟨h1, h2⟩ := (atS_iff hr).1 hm
      exact (atS_iff a1).2 ⟨(a2 _).2 (.inr (.inl ⟨m, h1, h2, rfl⟩)), h2⟩
  · rename_i hx
    cases hm : atS c.me x with
    | none =>
      rw [atS_none] at hm ⊢
      intro m hm2
      rcases (a2 m).1 hm2 with ⟨h1, _⟩ | ⟨y, h1, h2, rfl⟩ | ⟨_, rfl⟩
      · exact hm m h1
      · exact hm y h1
      · exact fun e => hx e.symm
    | some m =>
      obtain ⟨h1, h2⟩ := (atS_iff hr).1 hm
      exact (atS_iff a1).2 ⟨(a2 _).2 (.inl ⟨h1, by rw [h2]; exact hx⟩), h2⟩
theorem del_at {c : CellR} (hc : checkS c = true) {t : TxR} {s : ByteArray} (hs : (s.size : Int) ≤ 64) (x : ByteArray) :
    atS (delS c t 1 s).me x = (atS c.me x).bind (woMe t 1 s false) := by
  obtain ⟨_, ho, hr⟩ := (checkS_iff c).1 hc
  have hr2 := ((checkS_iff _).1 (delS_ok hc t 1 s)).2.2
  have e := del_me (t := t) hc (Int.le_refl 1) hs
  rw [e] at hr2 ⊢
  cases hm : atS c.me x with
  | none =>
    simp only [Option.bind_none]
    rw [atS_none] at hm ⊢
    intro m hm2
    obtain ⟨y, hy, h2⟩ := List.mem_filterMap.1 hm2
    rw [wo_text y m h2]
    exact hm y hy
  | some m =>
    obtain ⟨h1, h2⟩ := (atS_iff hr).1 hm
    cases hw : woMe t 1 s false m with
    | some y =>
      simp only [Option.bind_some, hw]
      exact (atS_iff hr2).2 ⟨List.mem_filterMap.2 ⟨m, h1, hw⟩, by rw [wo_text m y hw, h2]⟩
    | none =>
      simp only [Option.bind_some, hw]
      rw [atS_none]
      intro z hz e2
      obtain ⟨y, hy, h3⟩ := List.mem_filterMap.1 hz
      have := riseT_inj hr h1 hy (by rw [h2, ← e2, wo_text y z h3])
      subst this
      rw [hw] at h3; cases h3
theorem cell_me {c d : CellR} (h : SideS c d) {e : CellR} (h2 : SideS c e) (hm : d.me = e.me) : d = e := by
  obtain ⟨a1, a2, a3, a4, a5⟩ := h
  obtain ⟨b1, b2, b3, b4, b5⟩ := h2
  cases d; cases e
  simp only at *
  subst a1; subst a2; subst a3; subst a4; subst a5; subst hm
  rw [b1, b2, b3, b4, b5]
theorem SideS.trans {a b c : CellR} (h : SideS a b) (k : SideS b c) : SideS a c := by
  obtain ⟨a1, a2, a3, a4, a5⟩ := h
  obtain ⟨b1, b2, b3, b4, b5⟩ := k
  exact ⟨b1.trans a1, b2.trans a2, b3.trans a3, b4.trans a4, b5.trans a5⟩
theorem marks_rise {c : CellR} (hc : checkS c = true) {x : ByteArray} {m : MemberR} (h : atS c.me x = some m) : RiseK m.marks ∧ m.text = x := by
  obtain ⟨_, ho, hr⟩ := (checkS_iff c).1 hc
  obtain ⟨h1, h2⟩ := (atS_iff hr).1 h
  exact ⟨(ho m h1).2.2.2, h2⟩
theorem with_comm' {l : List MarkR} (h : RiseK l) (a b : MarkR) : withM (withM l a) b = withM (withM l b) a :=
  riseK_ext (with_rise (with_rise h)) (with_rise (with_rise h)) fun z => by
    simp only [mem_with]
    constructor
    · rintro (h | h | h)
      · exact .inr (.inl h)
      · exact .inl h
      · exact .inr (.inr h)
    · rintro (h | h | h)
      · exact .inr (.inl h)
      · exact .inl h
      · exact .inr (.inr h)
theorem rise_one (a : MarkR) : RiseK [a] := by simp [RiseK]
theorem add_bad {c : CellR} {t : TxR} {s : ByteArray} (h : checkS c = false) : addS c t 1 s = c := by rw [addS, if_pos (.inl h)]
theorem del_bad {c : CellR} {t : TxR} {s : ByteArray} (h : checkS c = false) : delS c t 1 s = c := by rw [delS, if_pos (.inl h)]
theorem add_long {c : CellR} {t : TxR} {s : ByteArray} (h : ¬ (s.size : Int) ≤ 64) : addS c t 1 s = c := by rw [addS, if_pos (.inr (.inr (by omega)))]
theorem del_long {c : CellR} {t : TxR} {s : ByteArray} (h : ¬ (s.size : Int) ≤ 64) : delS c t 1 s = c := by rw [delS, if_pos (.inr (.inr (by omega)))]
theorem with_one (a b : MarkR) : withM [a] b = withM [b] a := riseK_ext (with_rise (rise_one _)) (with_rise (rise_one _)) fun z => by
  simp only [mem_with, List.mem_singleton]
  exact ⟨fun h => h.symm, fun h => h.symm⟩

/-- Two additions. -/
theorem add_add {c : CellR} {t u : TxR} {a b : ByteArray} : addS (addS c t 1 a) u 1 b = addS (addS c u 1 b) t 1 a := by
  cases hc : checkS c with
  | false => simp only [add_bad hc]
  | true =>
    by_cases ha : (a.size : Int) ≤ 64
    · by_cases hb : (b.size : Int) ≤ 64
      · have c1 := addS_ok hc t 1 a
        have c2 := addS_ok hc u 1 b
        refine cell_me (c := c) ((addS_side c t 1 a).trans (addS_side _ u 1 b)) ((addS_side c u 1 b).trans (addS_side _ t 1 a)) ?_
        refine atS_ext ((checkS_iff _).1 (addS_ok c1 u 1 b)).2.2 ((checkS_iff _).1 (addS_ok c2 t 1 a)).2.2 fun x => ?_
        rw [add_at c1 hb, add_at c2 ha]
        by_cases hxb : x = b
        · subst hxb
          by_cases hxa : x = a
          · subst hxa
            simp only [if_true, add_at hc ha, add_at hc hb]
            cases hm : atS c.me x with
            | none => simp only [addO, with_one]
            | some m => simp only [addO, with_comm' (marks_rise hc hm).1]
          · simp only [if_true, if_neg hxa, add_at hc ha, add_at hc hb]
        · by_cases hxa : x = a
          · subst hxa
            simp only [if_true, if_neg hxb, add_at hc hb, add_at hc ha]
          · simp only [if_neg hxa, if_neg hxb, add_at hc ha, add_at hc hb]
      · simp only [add_long hb]
    · simp only [add_long ha]
theorem leftM_left (l : List MarkR) (t u : TxR) (i j : Int) : leftM (leftM l t i) u j = leftM (leftM l u j) t i := by
  simp only [leftM, keptL, List.filter_filter, Bool.and_comm]
theorem woMe_comm (t u : TxR) (a b : ByteArray) (m : MemberR) : (woMe t 1 a false m).bind (woMe u 1 b false) = (woMe u 1 b false m).bind (woMe t 1 a false) := by
  have hn : ∀ v : TxR, leftM [] v 1 = [] := fun v => rfl
  by_cases ha : m.text = a
  · by_cases hb : m.text = b
    · by_cases h1 : leftM m.marks t 1 = []
      · by_cases h2 : leftM m.marks u 1 = []
        · have e : a = b := ha.symm.trans hb
          subst e; simp [woMe, ha, h1, h2]
        · have := leftM_left m.marks t u 1 1
          rw [h1, hn] at this
          subst ha; simp [woMe, hb, h1, h2, ← this]
      · by_cases h2 : leftM m.marks u 1 = []
        · have := leftM_left m.marks u t 1 1
          rw [h2, hn] at this
          subst ha; simp [woMe, hb, h1, h2, ← this]
        · subst ha; simp [woMe, hb, h1, h2, leftM_left m.marks t u 1 1]
    · subst ha
      by_cases h1 : leftM m.marks t 1 = []
      · simp [woMe, hb, h1]
      · simp [woMe, hb, h1]
  · by_cases hb : m.text = b
    · subst hb
      by_cases h2 : leftM m.marks u 1 = []
      · simp [woMe, ha, h2]
      · simp [woMe, ha, h2]
    · simp [woMe, ha, hb]
/-- Two removals. -/
theorem del_del_s {c : CellR} {t u : TxR} {a b : ByteArray} : delS (delS c t 1 a) u 1 b = delS (delS c u 1 b) t 1 a := by
  cases hc : checkS c with
  | false => simp only [del_bad hc]
  | true =>
    by_cases ha : (a.size : Int) ≤ 64
    · by_cases hb : (b.size : Int) ≤ 64
      · have c1 := delS_ok hc t 1 a
        have c2 := delS_ok hc u 1 b
        refine cell_me (c := c) ((delS_side c t 1 a).trans (delS_side _ u 1 b)) ((delS_side c u 1 b).trans (delS_side _ t 1 a)) ?_
        refine atS_ext ((checkS_iff _).1 (delS_ok c1 u 1 b)).2.2 ((checkS_iff _).1 (delS_ok c2 t 1 a)).2.2 fun x => ?_
        rw [del_at c1 hb, del_at c2 ha, del_at hc ha, del_at hc hb]
        cases atS c.me x with
        | none => rfl
        | some m => exact woMe_comm t u a b m
      · simp only [del_long hb]
    · simp only [del_long ha]
theorem left_with {l : List MarkR} (h : RiseK l) {x : MarkR} {u : TxR} (hx : befM u 1 x = false) : leftM (withM l x) u 1 = withM (leftM l u 1) x :=
  riseK_ext (kept_rise _ (with_rise h)) (with_rise (kept_rise _ h)) fun z => by
    simp only [leftM, mem_kept, mem_with]
    constructor
    · rintro ⟨h | h, h2⟩
      · exact .inl h
      · exact .inr ⟨h, h2⟩
    · rintro (rfl | h)
      · exact ⟨.inl rfl, hx⟩
      · exact ⟨.inr h.1, h.2⟩
/-- An addition and a removal. -/
theorem add_del {c : CellR} {t u : TxR} {a b : ByteArray} (hx : before t.peer t.seq 1 u 1 = false) : delS (addS c t 1 a) u 1 b = addS (delS c u 1 b) t 1 a := by
  cases hc : checkS c with
  | false => simp only [add_bad hc, del_bad hc]
  | true =>
    by_cases ha : (a.size : Int) ≤ 64
    · by_cases hb : (b.size : Int) ≤ 64
      · have c1 := addS_ok hc t 1 a
        have c2 := delS_ok hc u 1 b
        refine cell_me (c := c) ((addS_side c t 1 a).trans (delS_side _ u 1 b)) ((delS_side c u 1 b).trans (addS_side _ t 1 a)) ?_
        refine atS_ext ((checkS_iff _).1 (delS_ok c1 u 1 b)).2.2 ((checkS_iff _).1 (addS_ok c2 t 1 a)).2.2 fun x => ?_
        rw [del_at c1 hb, add_at c2 ha, add_at hc ha, del_at hc hb, del_at hc hb]
        by_cases hxa : x = a
        · subst hxa
          simp only [if_true]
          have hb1 : befM u 1 ⟨t.peer, t.seq, 1⟩ = false := hx
          have hl1 : leftM [⟨t.peer, t.seq, 1⟩] u 1 = [⟨t.peer, t.seq, 1⟩] := by simp [leftM, keptL, hb1]
          have hne : ∀ l : List MarkR, withM l ⟨t.peer, t.seq, 1⟩ ≠ [] := fun l e => by
            have : (⟨t.peer, t.seq, 1⟩ : MarkR) ∈ withM l ⟨t.peer, t.seq, 1⟩ := mem_with.2 (.inl rfl)
            rw [e] at this; cases this
          cases hm : atS c.me x with
          | none =>
            by_cases hxb : x = b
            · subst hxb
              simp [addO, woMe, hl1]
            · simp [addO, woMe, hxb]
          | some m =>
            obtain ⟨hk, hmt⟩ := marks_rise hc hm
            by_cases hxb : x = b
            · subst hxb
              have hw : withM ([] : List MarkR) ⟨t.peer, t.seq, 1⟩ = [⟨t.peer, t.seq, 1⟩] := rfl
              by_cases h2 : leftM m.marks u 1 = []
              · simp only [addO, Option.bind_some, woMe, hmt, or_true, if_true, left_with hk hb1, h2, hw]
                simp
              · simp only [addO, Option.bind_some, woMe, hmt, or_true, if_true, left_with hk hb1, h2, hne, if_false]
            · have : m.text ≠ b := by rw [hmt]; exact hxb
              simp [addO, woMe, this]
        · simp only [if_neg hxa]
      · simp only [del_long hb]
    · simp only [add_long ha]
end Go.Ab
set_option linter.unusedSimpArgs false
namespace Go.Ab
open Go.Proofs

def t09 : TxR := ⟨1, 1, zeros 13, 2, []⟩
def u09 : TxR := ⟨2, 1, zeros 13, 1, []⟩
def v09 : TxR := ⟨3, 1, (zeros 13).set 1 1, 3, []⟩
def c09 (k : Int) : CellR := ⟨k, 0, [], [], [], []⟩
end Go.Ab
set_option linter.unusedSimpArgs false
namespace Go.Ab
open Go.Proofs

def m09 : CellR := doR (doR (c09 3) t09 1 b09) u09 1 a09
def l09 : CellR := doR (doR (c09 2) t09 1 b09) u09 1 a09
theorem doR_wr (c : CellR) (t : TxR) (i : Int) (x : ByteArray) : (doR c t i x).wr.length ≤ c.wr.length + 1 := by
  unfold doR
  split
  · omega
  · split
    · omega
    · simp only [insB_len]
      have := (clearR_shape c t i).2.2.2.2.2
      omega
end Go.Ab
set_option linter.unusedSimpArgs false
namespace Go.Ab
open Go.Proofs

end Go.Ab
set_option linter.unusedSimpArgs false
namespace Go.Ab
open Go.Proofs

def RiseW (l : List WriteR) : Prop := l.Pairwise fun a b => markLt a.m b.m = true
theorem checkR_iff (c : CellR) : checkR c = true ↔ shapeR c = true ∧ (∀ w ∈ c.wr, 1 ≤ w.m.i ∧ (w.text.size : Int) ≤ 64) ∧ RiseW c.wr := by
  have at_ : ∀ {l : List WriteR} {x : WriteR}, x ∈ l → ∃ k, k < l.length ∧ l.getD k default = x := by
    intro l x hx
    obtain ⟨i, hi, rfl⟩ := List.getElem_of_mem hx
    exact ⟨i, hi, by rw [List.getD_eq_getElem?_getD, List.getElem?_eq_getElem hi]; rfl⟩
  have mem : ∀ {l : List WriteR} {k : Nat}, k < l.length → l.getD k default ∈ l := by
    intro l k hk
    rw [List.getD_eq_getElem?_getD, List.getElem?_eq_getElem hk]; exact List.getElem_mem hk
  simp only [checkR, Bool.and_eq_true, List.all_eq_true, List.mem_range]
  constructor
  · rintro ⟨h1, h2⟩
    refine ⟨h1, ?_, pairwise_of_next (R := fun a b : WriteR => markLt a.m b.m = true) (fun a b c => markLt_trans) ?_⟩
    · intro w hw
      obtain ⟨k, hk, rfl⟩ := at_ hw
      have := h2 k hk
      simp only [wrOk, Bool.and_eq_true, decide_eq_true_eq] at this
      exact this.1
    · intro k hk hl
      have := h2 k hl
      simp only [wrOk, Bool.and_eq_true, Bool.or_eq_true, decide_eq_true_eq] at this
      rcases this.2 with h | h
      · omega
      · exact h
  · rintro ⟨h1, h2, h3⟩
    refine ⟨h1, fun k hk => ?_⟩
    have h4 := h2 _ (mem hk)
    simp only [wrOk, Bool.and_eq_true, Bool.or_eq_true, decide_eq_true_eq]
    refine ⟨h4, ?_⟩
    by_cases h0 : k = 0
    · exact .inl h0
    · exact .inr (next_of_pairwise h3 (by omega) hk)
theorem riseW_ext {l m : List WriteR} (h1 : RiseW l) (h2 : RiseW m) (h : ∀ z, z ∈ l ↔ z ∈ m) : l = m := by
  have nd : ∀ {l : List WriteR}, RiseW l → l.Nodup := fun h => h.imp fun {a b} hab e => by subst e; rw [markLt_irr] at hab; cases hab
  refine List.Perm.eq_of_pairwise (le := fun a b : WriteR => markLt a.m b.m = true) (fun a b _ _ h3 h4 => ?_) h1 h2 ((List.perm_ext_iff_of_nodup (nd h1) (nd h2)).2 h)
  have := markLt_trans h3 h4
  rw [markLt_irr] at this; cases this
theorem insB_riseW : ∀ {l : List WriteR} {x : WriteR}, RiseW l → (∀ w ∈ l, w.m ≠ x.m) → RiseW (insB (goesM x) x l)
  | [], x, _, _ => by simp [insB, RiseW]
  | y :: r, x, h, hn => by
    simp only [RiseW, List.pairwise_cons] at h
    unfold insB
    split
    · rename_i hg
      simp only [RiseW, List.pairwise_cons, List.mem_cons]
      refine ⟨?_, h⟩
      rintro z (rfl | hz)
      · exact hg
      · exact markLt_trans hg (h.1 z hz)
    · rename_i hg
      have hyx : markLt y.m x.m = true := markLt_total (by simpa [goesM] using hg) (fun e => hn y (by simp) e.symm)
      simp only [RiseW, List.pairwise_cons]
      refine ⟨?_, insB_riseW h.2 fun w hw => hn w (by simp [hw])⟩
      intro z hz
      rcases mem_insB.1 hz with rfl | hz
      · exact hyx
      · exact h.1 z hz
/-- What a write that is new makes of a register. -/
theorem doR_new {c : CellR} {t : TxR} {i : Int} {s : ByteArray} (hc : checkR c = true) (hs : (s.size : Int) ≤ 64) (hi : 1 ≤ i) (hn : ∀ w ∈ c.wr, w.m ≠ ⟨t.peer, t.seq, i⟩) :
    doR c t i s = { c with wr := insB (goesM (xw t i s)) (xw t i s) (keptL (bef t i) c.wr) } ∧ checkR (doR c t i s) = true ∧ ∀ z, z ∈ (doR c t i s).wr ↔ z = xw t i s ∨ (z ∈ c.wr ∧ bef t i z = false) := by
  have h1 : ¬ (checkR c = false ∨ 64 < (s.size : Int) ∨ i < 1) := by
    rintro (h | h | h)
    · rw [hc] at h; cases h
    · omega
    · omega
  have h2 : c.wr.any (sameM (xw t i s)) = false := by
    rw [List.any_eq_false]
    intro w hw
    simp only [sameM, decide_eq_true_eq]
    exact hn w hw
  have e : doR c t i s = { c with wr := insB (goesM (xw t i s)) (xw t i s) (keptL (bef t i) c.wr) } := by
    rw [doR, if_neg h1, h2, clearR, if_pos hc]; rfl
  obtain ⟨k1, k2, k3⟩ := (checkR_iff c).1 hc
  have hk : RiseW (keptL (bef t i) c.wr) := List.Pairwise.filter _ k3
  have hm : ∀ z, z ∈ (doR c t i s).wr ↔ z = xw t i s ∨ (z ∈ c.wr ∧ bef t i z = false) := fun z => by
    rw [e]
    simp only [mem_insB, mem_kept]
  refine ⟨e, (checkR_iff _).2 ⟨?_, ?_, ?_⟩, hm⟩
  · rw [e]; exact k1
  · intro w hw
    rcases (hm w).1 hw with rfl | ⟨hw, _⟩
    · exact ⟨hi, hs⟩
    · exact k2 w hw
  · rw [e]; exact insB_riseW hk fun w hw => hn w (mem_kept.1 hw).1
theorem bef_xw (t u : TxR) (s : ByteArray) : bef u 1 (xw t 1 s) = before t.peer t.seq 1 u 1 := rfl

/-- Two writes that have not seen each other. -/
theorem doR_apart {c : CellR} {t u : TxR} {a b : ByteArray} (hc : checkR c = true) (ha : (a.size : Int) ≤ 64) (hb : (b.size : Int) ≤ 64) (hne : ¬ (t.peer = u.peer ∧ t.seq = u.seq))
    (h1 : before t.peer t.seq 1 u 1 = false) (h2 : before u.peer u.seq 1 t 1 = false) (hx : ∀ w ∈ c.wr, w.m ≠ ⟨t.peer, t.seq, 1⟩) (hy : ∀ w ∈ c.wr, w.m ≠ ⟨u.peer, u.seq, 1⟩) :
    doR (doR c t 1 a) u 1 b = doR (doR c u 1 b) t 1 a ∧ checkR (doR (doR c t 1 a) u 1 b) = true ∧ xw t 1 a ∈ (doR (doR c t 1 a) u 1 b).wr ∧ xw u 1 b ∈ (doR (doR c t 1 a) u 1 b).wr ∧ (doR (doR c t 1 a) u 1 b).kind = c.kind := by
  have hd : (⟨t.peer, t.seq, 1⟩ : MarkR) ≠ ⟨u.peer, u.seq, 1⟩ := fun e => hne (by simpa using e)
  obtain ⟨e1, c1, m1⟩ := doR_new (t := t) (i := 1) (s := a) hc ha (by omega) hx
  obtain ⟨e2, c2, m2⟩ := doR_new (t := u) (i := 1) (s := b) hc hb (by omega) hy
  have n1 : ∀ w ∈ (doR c t 1 a).wr, w.m ≠ ⟨u.peer, u.seq, 1⟩ := fun w hw => by
    rcases (m1 w).1 hw with rfl | ⟨hw, _⟩
    · exact hd
    · exact hy w hw
  have n2 : ∀ w ∈ (doR c u 1 b).wr, w.m ≠ ⟨t.peer, t.seq, 1⟩ := fun w hw => by
    rcases (m2 w).1 hw with rfl | ⟨hw, _⟩
    · exact hd.symm
    · exact hx w hw
  obtain ⟨e3, c3, m3⟩ := doR_new (t := u) (i := 1) (s := b) c1 hb (by omega) n1
  obtain ⟨e4, c4, m4⟩ := doR_new (t := t) (i := 1) (s := a) c2 ha (by omega) n2
  have hmem : ∀ z, z ∈ (doR (doR c t 1 a) u 1 b).wr ↔ z ∈ (doR (doR c u 1 b) t 1 a).wr := fun z => by
    rw [m3, m4, m1, m2]
    constructor
    · rintro (rfl | ⟨rfl | ⟨h3, h4⟩, h5⟩)
      · exact .inr ⟨.inl rfl, by rw [bef_xw]; exact h2⟩
      · exact .inl rfl
      · exact .inr ⟨.inr ⟨h3, h5⟩, h4⟩
    · rintro (rfl | ⟨rfl | ⟨h3, h4⟩, h5⟩)
      · exact .inr ⟨.inl rfl, by rw [bef_xw]; exact h1⟩
      · exact .inl rfl
      · exact .inr ⟨.inr ⟨h3, h5⟩, h4⟩
  have hwr := riseW_ext ((checkR_iff _).1 c3).2.2 ((checkR_iff _).1 c4).2.2 hmem
  refine ⟨?_, c3, ?_, ?_, ?_⟩
  · rw [e3, e4] at hwr
    simp only at hwr
    rw [e3, e4, hwr]
    rw [e1, e2]
  · rw [m3]; exact .inr ⟨(m1 _).2 (.inl rfl), by rw [bef_xw]; exact h1⟩
  · rw [m3]; exact .inl rfl
  · rw [e3, e1]

end Go.Ab
set_option linter.unusedSimpArgs false
namespace Go.Ab
open Go.Proofs

def sawAll (c : CellR) (t : TxR) (k : Nat) : Bool := bef t 1 (wrAt c k) && !(decide ((wrAt c k).m.p = t.peer) && decide ((wrAt c k).m.s = t.seq))
end Go.Ab
set_option linter.unusedSimpArgs false
namespace Go.Ab
open Go.Proofs

def apartW (c : CellR) (t u : TxR) (k : Nat) : Bool := !decide ((wrAt c k).m = ⟨t.peer, t.seq, 1⟩) && !decide ((wrAt c k).m = ⟨u.peer, u.seq, 1⟩)

def marks6 : List (List Nat) := [[0, 1, 2, 3, 4, 5, 6, 7, 8, 9], [0, 1, 2, 3, 4, 5, 7, 6, 8, 9], [0, 1, 2, 3, 6, 7, 8, 4, 5, 9], [0, 1, 2, 3, 7, 6, 8, 4, 5, 9], [0, 1, 2, 6, 7, 8, 3, 4, 5, 9], [0, 1, 2, 7, 6, 8, 3, 4, 5, 9]]
theorem doR_rest (c : CellR) (t : TxR) (i : Int) (x : ByteArray) : (doR c t i x).am = c.am ∧ (doR c t i x).me = c.me ∧ (doR c t i x).el = c.el := by
  obtain ⟨p1, p2, p3, p4, p5, p6⟩ := clearR_shape c t i
  unfold doR; split
  · exact ⟨rfl, rfl, rfl⟩
  · split
    · exact ⟨rfl, rfl, rfl⟩
    · exact ⟨p3, p4, p5⟩
end Go.Ab
