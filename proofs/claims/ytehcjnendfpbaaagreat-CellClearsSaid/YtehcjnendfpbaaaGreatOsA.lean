/- Sets: what they become, in plain words. Conditions: none. -/
import Derived.Test.YtehcjnendfpbaaaGreatPlA
set_option linter.unusedSimpArgs false
namespace Go.Ab
open Go.Proofs

def sameK (m x : MarkR) : Bool := decide (x = m)
def goesK (m x : MarkR) : Bool := markLt m x
/-- Marks with one more, in order, once. -/
def withM (l : List MarkR) (m : MarkR) : List MarkR := if l.any (sameK m) then l else insB (goesK m) m l
def befM (t : TxR) (i : Int) (m : MarkR) : Bool := before m.p m.s m.i t i
def leftM (l : List MarkR) (t : TxR) (i : Int) : List MarkR := keptL (befM t i) l
def RiseK (l : List MarkR) : Prop := l.Pairwise fun a b => markLt a b = true
def risingM (l : List MarkR) : Bool := (List.range l.length).all fun k => decide (1 ≤ (l.getD k default).i) && (decide (k = 0) || markLt (l.getD (k - 1) default) (l.getD k default))
theorem risingM_iff (l : List MarkR) : risingM l = true ↔ (∀ m ∈ l, 1 ≤ m.i) ∧ RiseK l := by
  have at_ : ∀ {x : MarkR}, x ∈ l → ∃ k, k < l.length ∧ l.getD k default = x := by
    intro x hx
    obtain ⟨i, hi, rfl⟩ := List.getElem_of_mem hx
    exact ⟨i, hi, by rw [List.getD_eq_getElem?_getD, List.getElem?_eq_getElem hi]; rfl⟩
  have mem : ∀ {k : Nat}, k < l.length → l.getD k default ∈ l := by
    intro k hk
    rw [List.getD_eq_getElem?_getD, List.getElem?_eq_getElem hk]; exact List.getElem_mem hk
  simp only [risingM, List.all_eq_true, List.mem_range, Bool.and_eq_true, Bool.or_eq_true, decide_eq_true_eq]
  constructor
  · intro h
    refine ⟨fun m hm => ?_, pairwise_of_next (R := fun a b : MarkR => markLt a b = true) (fun a b c => markLt_trans) fun k hk hl => ?_⟩
    · obtain ⟨k, hk, rfl⟩ := at_ hm
      exact (h k hk).1
    · rcases (h k hl).2 with h0 | h0
      · omega
      · exact h0
  · rintro ⟨h1, h2⟩ k hk
    refine ⟨h1 _ (mem hk), ?_⟩
    by_cases h0 : k = 0
    · exact .inl h0
    · exact .inr (next_of_pairwise h2 (by omega) hk)
theorem insB_riseK : ∀ {l : List MarkR} {x : MarkR}, RiseK l → x ∉ l → RiseK (insB (goesK x) x l)
  | [], x, _, _ => by simp [insB, RiseK]
  | y :: r, x, h, hn => by
    simp only [RiseK, List.pairwise_cons] at h
    unfold insB
    split
    · rename_i hg
      simp only [RiseK, List.pairwise_cons, List.mem_cons]
      refine ⟨?_, h⟩
      rintro z (rfl | hz)
      · exact hg
      · exact markLt_trans hg (h.1 z hz)
    · rename_i hg
      have hyx : markLt y x = true := markLt_total (by simpa [goesK] using hg) (fun e => hn (by simp [e]))
      simp only [RiseK, List.pairwise_cons]
      refine ⟨?_, insB_riseK h.2 fun e => hn (by simp [e])⟩
      intro z hz
      rcases mem_insB.1 hz with rfl | hz
      · exact hyx
      · exact h.1 z hz
theorem any_sameK {l : List MarkR} {m : MarkR} : l.any (sameK m) = true ↔ m ∈ l := by simp [sameK]
theorem mem_with {l : List MarkR} {m z : MarkR} : z ∈ withM l m ↔ z = m ∨ z ∈ l := by
  unfold withM
  split
  · rename_i h
    rw [any_sameK] at h
    constructor
    · exact .inr
    · rintro (rfl | h2)
      · exact h
      · exact h2
  · exact mem_insB
theorem with_rise {l : List MarkR} {m : MarkR} (h : RiseK l) : RiseK (withM l m) := by
  unfold withM
  split
  · exact h
  · rename_i hn
    rw [any_sameK] at hn
    exact insB_riseK h hn
theorem kept_rise {l : List MarkR} (p : MarkR → Bool) (h : RiseK l) : RiseK (keptL p l) := List.Pairwise.filter _ h
theorem with_len (l : List MarkR) (m : MarkR) : (withM l m).length ≤ l.length + 1 := by
  unfold withM
  split
  · omega
  · rw [insB_len]; omega

/-- Members that rise by their texts. -/
def RiseT (l : List MemberR) : Prop := l.Pairwise fun a b => bLt a.text b.text = true
theorem riseT_ext {l m : List MemberR} (h1 : RiseT l) (h2 : RiseT m) (h : ∀ z, z ∈ l ↔ z ∈ m) : l = m := by
  have nd : ∀ {l : List MemberR}, RiseT l → l.Nodup := fun h => h.imp fun {a b} hab e => by subst e; rw [bLt_irr] at hab; cases hab
  refine List.Perm.eq_of_pairwise (le := fun a b : MemberR => bLt a.text b.text = true) (fun a b _ _ h3 h4 => ?_) h1 h2 ((List.perm_ext_iff_of_nodup (nd h1) (nd h2)).2 h)
  have := bLt_trans h3 h4
  rw [bLt_irr] at this; cases this
theorem riseT_texts {l : List MemberR} (h : RiseT l) : (l.map (·.text)).Nodup := by
  rw [List.Nodup, List.pairwise_map]
  exact h.imp fun {a b} hab e => by rw [e, bLt_irr] at hab; cases hab
theorem riseT_inj {l : List MemberR} (h : RiseT l) {x y : MemberR} (hx : x ∈ l) (hy : y ∈ l) (e : x.text = y.text) : x = y := by
  induction l with
  | nil => simp at hx
  | cons z r ih =>
    simp only [RiseT, List.pairwise_cons] at h
    rcases List.mem_cons.1 hx with hx1 | hx1 <;> rcases List.mem_cons.1 hy with hy1 | hy1
    · rw [hx1, hy1]
    · have := h.1 y hy1
      rw [← hx1, e, bLt_irr] at this; cases this
    · have := h.1 x hx1
      rw [← hy1, e, bLt_irr] at this; cases this
    · exact ih h.2 hx1 hy1

def meAtL (l : List MemberR) (k : Nat) : MemberR := l.getD k default
def okMe (l : List MemberR) (k : Nat) : Bool := decide (((meAtL l k).text.size : Int) ≤ 64) && ((meAtL l k).base || !decide ((meAtL l k).marks.length = 0)) && risingM (meAtL l k).marks && (decide (k = 0) || bLt (meAtL l (k - 1)).text (meAtL l k).text)
def shapeS (c : CellR) : Bool := decide (c.kind = 4) && decide (c.base = 0) && decide (c.am.length = 0) && decide (c.wr.length = 0) && decide (c.el.length = 0)
def checkS (c : CellR) : Bool := shapeS c && (List.range c.me.length).all (okMe c.me)
/-- A member that may be. -/
def MeOk (m : MemberR) : Prop := (m.text.size : Int) ≤ 64 ∧ (m.base = true ∨ m.marks ≠ []) ∧ (∀ x ∈ m.marks, 1 ≤ x.i) ∧ RiseK m.marks
theorem checkS_iff (c : CellR) : checkS c = true ↔ shapeS c = true ∧ (∀ m ∈ c.me, MeOk m) ∧ RiseT c.me := by
  have at_ : ∀ {x : MemberR}, x ∈ c.me → ∃ k, k < c.me.length ∧ c.me.getD k default = x := by
    intro x hx
    obtain ⟨i, hi, rfl⟩ := List.getElem_of_mem hx
    exact ⟨i, hi, by rw [List.getD_eq_getElem?_getD, List.getElem?_eq_getElem hi]; rfl⟩
  have mem : ∀ {k : Nat}, k < c.me.length → c.me.getD k default ∈ c.me := by
    intro k hk
    rw [List.getD_eq_getElem?_getD, List.getElem?_eq_getElem hk]; exact List.getElem_mem hk
  have hne : ∀ l : List MarkR, (!decide (l.length = 0)) = true ↔ l ≠ [] := fun l => by simp
  simp only [checkS, Bool.and_eq_true, List.all_eq_true, List.mem_range]
  constructor
  · rintro ⟨h1, h2⟩
    refine ⟨h1, fun m hm => ?_, pairwise_of_next (R := fun a b : MemberR => bLt a.text b.text = true) (fun a b c => bLt_trans) fun k hk hl => ?_⟩
    · obtain ⟨k, hk, rfl⟩ := at_ hm
      have := h2 k hk
      simp only [okMe, Bool.and_eq_true, Bool.or_eq_true, decide_eq_true_eq, hne] at this
      obtain ⟨⟨⟨a1, a2⟩, a3⟩, _⟩ := this
      obtain ⟨b1, b2⟩ := (risingM_iff _).1 a3
      exact ⟨a1, a2, b1, b2⟩
    · have := h2 k hl
      simp only [okMe, Bool.and_eq_true, Bool.or_eq_true, decide_eq_true_eq] at this
      rcases this.2 with h0 | h0
      · omega
      · exact h0
  · rintro ⟨h1, h2, h3⟩
    refine ⟨h1, fun k hk => ?_⟩
    obtain ⟨a1, a2, a3, a4⟩ := h2 _ (mem hk)
    simp only [okMe, Bool.and_eq_true, Bool.or_eq_true, decide_eq_true_eq, hne]
    refine ⟨⟨⟨a1, a2⟩, (risingM_iff _).2 ⟨a3, a4⟩⟩, ?_⟩
    by_cases h0 : k = 0
    · exact .inl h0
    · exact .inr (next_of_pairwise h3 (by omega) hk)

/-- What an addition does to members, one by one. -/
def addStep (s : ByteArray) (own : MarkR) (o : List MemberR × Bool) (m : MemberR) : List MemberR × Bool :=
  if m.text = s then (o.1 ++ [{ m with marks := withM m.marks own }], true)
  else if o.2 = false ∧ bLt s m.text = true then (o.1 ++ [⟨s, false, [own]⟩] ++ [m], true) else (o.1 ++ [m], o.2)
def addEnd (s : ByteArray) (own : MarkR) (o : List MemberR × Bool) : List MemberR := if o.2 then o.1 else o.1 ++ [⟨s, false, [own]⟩]
def addMe (l : List MemberR) (s : ByteArray) (own : MarkR) : List MemberR := addEnd s own (l.foldl (addStep s own) ([], false))
def addS (c : CellR) (t : TxR) (i : Int) (s : ByteArray) : CellR := if checkS c = false ∨ i < 1 ∨ 64 < (s.size : Int) then c else { c with me := addMe c.me s ⟨t.peer, t.seq, i⟩ }
/-- What a removal leaves of a member. -/
def woMe (t : TxR) (i : Int) (s : ByteArray) (all : Bool) (m : MemberR) : Option MemberR :=
  if all = true ∨ m.text = s then (if leftM m.marks t i = [] then none else some { m with base := false, marks := leftM m.marks t i }) else some m
def woS (c : CellR) (t : TxR) (i : Int) (s : ByteArray) (all : Bool) : CellR := { c with me := c.me.filterMap (woMe t i s all) }
def delS (c : CellR) (t : TxR) (i : Int) (s : ByteArray) : CellR := if checkS c = false ∨ i < 1 ∨ 64 < (s.size : Int) then c else woS c t i s false
def clearS (c : CellR) (t : TxR) (i : Int) : CellR := if checkS c = false ∨ i < 1 then c else woS c t i ⟨#[]⟩ true
def readS (c : CellR) : ValueR := if checkS c = false then ⟨0, 0, []⟩ else ⟨4, 0, c.me.map (·.text)⟩

/-- What an addition makes of rising members: who is there. -/
theorem add_spec {s : ByteArray} {own : MarkR} : ∀ (l : List MemberR) (o : List MemberR × Bool), RiseT l → RiseT o.1 → (∀ x ∈ o.1, ∀ y ∈ l, bLt x.text y.text = true) →
    (o.2 = false → ∀ x ∈ o.1, bLt x.text s = true) → (o.2 = true → ∀ y ∈ l, bLt s y.text = true) →
    RiseT (addEnd s own (l.foldl (addStep s own) o)) ∧ ∀ z, z ∈ addEnd s own (l.foldl (addStep s own) o) ↔
      z ∈ o.1 ∨ (z ∈ l ∧ z.text ≠ s) ∨ (∃ m ∈ l, m.text = s ∧ z = { m with marks := withM m.marks own }) ∨ (o.2 = false ∧ (∀ m ∈ l, m.text ≠ s) ∧ z = ⟨s, false, [own]⟩)
  | [], ⟨a, true⟩, _, ho, _, h2, _ => by
    simp only [List.foldl_nil, addEnd, if_true]; exact ⟨ho, fun z => by simp⟩
  | [], ⟨a, false⟩, _, ho, _, h2, _ => by
    simp only [List.foldl_nil, addEnd, Bool.false_eq_true, if_false]
    refine ⟨?_, fun z => by simp⟩
    refine List.pairwise_append.2 ⟨ho, by simp, fun x hx b hb' => ?_⟩
    rw [List.mem_singleton] at hb'
    rw [hb']; exact h2 rfl x hx
  | m :: l, o, hl, ho, h1, h2, h3 => by
    simp only [RiseT, List.pairwise_cons] at hl
    obtain ⟨hm, hl⟩ := hl
    have key : ∀ o' : List MemberR × Bool, addStep s own o m = o' → RiseT o'.1 → (∀ x ∈ o'.1, ∀ y ∈ l, bLt x.text y.text = true) → (o'.2 = false → ∀ x ∈ o'.1, bLt x.text s = true) → (o'.2 = true → ∀ y ∈ l, bLt s y.text = true) →
        (∀ z, (z ∈ o'.1 ∨ (z ∈ l ∧ z.text ≠ s) ∨ (∃ m ∈ l, m.text = s ∧ z = { m with marks := withM m.marks own }) ∨ (o'.2 = false ∧ (∀ m ∈ l, m.text ≠ s) ∧ z = ⟨s, false, [own]⟩)) ↔
          (z ∈ o.1 ∨ (z ∈ m :: l ∧ z.text ≠ s) ∨ (∃ m' ∈ m :: l, m'.text = s ∧ z = { m' with marks := withM m'.marks own }) ∨ (o.2 = false ∧ (∀ m' ∈ m :: l, m'.text ≠ s) ∧ z = ⟨s, false, [own]⟩))) →
        RiseT (addEnd s own ((m :: l).foldl (addStep s own) o)) ∧ ∀ z, z ∈ addEnd s own ((m :: l).foldl (addStep s own) o) ↔
          z ∈ o.1 ∨ (z ∈ m :: l ∧ z.text ≠ s) ∨ (∃ m' ∈ m :: l, m'.text = s ∧ z = { m' with marks := withM m'.marks own }) ∨ (o.2 = false ∧ (∀ m' ∈ m :: l, m'.text ≠ s) ∧ z = ⟨s, false, [own]⟩) := by
      intro o' e a1 a2 a3 a4 a5
      obtain ⟨b1, b2⟩ := add_spec l o' hl a1 a2 a3 a4
      rw [List.foldl_cons, e]
      exact ⟨b1, fun z => (b2 z).trans (a5 z)⟩
    by_cases hs : m.text = s
    · have hlt : ∀ y ∈ l, bLt s y.text = true := fun y hy => by rw [← hs]; exact hm y hy
      have hne : ∀ y ∈ l, y.text ≠ s := fun y hy e => by have := hlt y hy; rw [e, bLt_irr] at this; cases this
      refine key _ (by rw [addStep, if_pos hs]) ?_ ?_ (by simp) (fun _ => hlt) ?_
      · exact List.pairwise_append.2 ⟨ho, by simp, fun a ha b hb => by rw [List.mem_singleton] at hb; rw [hb]; exact h1 a ha m (by simp)⟩
      · intro x hx y hy
        rcases List.mem_append.1 hx with hx | hx
        · exact h1 x hx y (by simp [hy])
        · rw [List.mem_singleton] at hx; rw [hx]; exact hm y hy
      · intro z
        simp only [List.mem_append, List.mem_cons, List.not_mem_nil, or_false]
        constructor
        · rintro ((h | rfl) | ⟨h, h'⟩ | ⟨m', h, h', rfl⟩ | ⟨h, _⟩)
          · exact .inl h
          · exact .inr (.inr (.inl ⟨m, .inl rfl, hs, rfl⟩))
          · exact .inr (.inl ⟨.inr h, h'⟩)
          · exact .inr (.inr (.inl ⟨m', .inr h, h', rfl⟩))
          · cases h
        · rintro (h | ⟨rfl | h, h'⟩ | ⟨m', rfl | h, h', rfl⟩ | ⟨_, h, _⟩)
          · exact .inl (.inl h)
          · exact absurd hs h'
          · exact .inr (.inl ⟨h, h'⟩)
          · exact .inl (.inr rfl)
          · exact absurd h' (hne m' h)
          · exact absurd hs (h m (.inl rfl))
    · by_cases hg : o.2 = false ∧ bLt s m.text = true
      · have hlt : ∀ y ∈ l, bLt s y.text = true := fun y hy => bLt_trans hg.2 (hm y hy)
        have hne : ∀ y ∈ l, y.text ≠ s := fun y hy e => by have := hlt y hy; rw [e, bLt_irr] at this; cases this
        refine key _ (by rw [addStep, if_neg hs, if_pos hg]) ?_ ?_ (by simp) (fun _ => hlt) ?_
        · refine List.pairwise_append.2 ⟨List.pairwise_append.2 ⟨ho, by simp, fun a ha b hb => ?_⟩, by simp, fun a ha b hb => ?_⟩
          · rw [List.mem_singleton] at hb; rw [hb]; exact h2 hg.1 a ha
          · rw [List.mem_singleton] at hb; rw [hb]
            rcases List.mem_append.1 ha with ha | ha
            · exact h1 a ha m (by simp)
            · rw [List.mem_singleton] at ha; rw [ha]; exact hg.2
        · intro x hx y hy
          rcases List.mem_append.1 hx with hx | hx
          · rcases List.mem_append.1 hx with hx | hx
            · exact h1 x hx y (by simp [hy])
            · rw [List.mem_singleton] at hx; rw [hx]; exact hlt y hy
          · rw [List.mem_singleton] at hx; rw [hx]; exact hm y hy
        · intro z
          simp only [List.mem_append, List.mem_cons, List.not_mem_nil, or_false]
          constructor
          · rintro (((h | rfl) | rfl) | ⟨h, h'⟩ | ⟨m', h, h', rfl⟩ | ⟨h, _⟩)
            · exact .inl h
            · exact .inr (.inr (.inr ⟨hg.1, by rintro m' (rfl | h); exact hs; exact hne m' h, rfl⟩))
            · exact .inr (.inl ⟨.inl rfl, hs⟩)
            · exact .inr (.inl ⟨.inr h, h'⟩)
            · exact .inr (.inr (.inl ⟨m', .inr h, h', rfl⟩))
            · cases h
          · rintro (h | ⟨rfl | h, h'⟩ | ⟨m', rfl | h, h', rfl⟩ | ⟨_, h, rfl⟩)
            · exact .inl (.inl (.inl h))
            · exact .inl (.inr rfl)
            · exact .inr (.inl ⟨h, h'⟩)
            · exact absurd h' hs
            · exact absurd h' (hne m' h)
            · exact .inl (.inl (.inr rfl))
      · refine key _ (by rw [addStep, if_neg hs, if_neg hg]) ?_ ?_ ?_ ?_ ?_
        · exact List.pairwise_append.2 ⟨ho, by simp, fun a ha b hb => by rw [List.mem_singleton] at hb; rw [hb]; exact h1 a ha m (by simp)⟩
        · intro x hx y hy
          rcases List.mem_append.1 hx with hx | hx
          · exact h1 x hx y (by simp [hy])
          · rw [List.mem_singleton] at hx; rw [hx]; exact hm y hy
        · intro h x hx
          rcases List.mem_append.1 hx with hx | hx
          · exact h2 h x hx
          · rw [List.mem_singleton] at hx; rw [hx]
            have : bLt s m.text = false := by
              cases hb : bLt s m.text with
              | false => rfl
              | true => exact absurd ⟨h, hb⟩ hg
            exact bLt_total this fun e => hs e.symm
        · exact fun h y hy => h3 h y (by simp [hy])
        · intro z
          simp only [List.mem_append, List.mem_cons, List.not_mem_nil, or_false]
          constructor
          · rintro ((h | rfl) | ⟨h, h'⟩ | ⟨m', h, h', rfl⟩ | ⟨h, h', rfl⟩)
            · exact .inl h
            · exact .inr (.inl ⟨.inl rfl, hs⟩)
            · exact .inr (.inl ⟨.inr h, h'⟩)
            · exact .inr (.inr (.inl ⟨m', .inr h, h', rfl⟩))
            · exact .inr (.inr (.inr ⟨h, by rintro m' (rfl | h1); exact hs; exact h' m' h1, rfl⟩))
          · rintro (h | ⟨rfl | h, h'⟩ | ⟨m', rfl | h, h', rfl⟩ | ⟨h, h', rfl⟩)
            · exact .inl (.inl h)
            · exact .inl (.inr rfl)
            · exact .inr (.inl ⟨h, h'⟩)
            · exact absurd h' hs
            · exact .inr (.inr (.inl ⟨m', h, h', rfl⟩))
            · exact .inr (.inr (.inr ⟨h, fun m' h1 => h' m' (.inr h1), rfl⟩))
theorem addMe_spec {l : List MemberR} (h : RiseT l) (s : ByteArray) (own : MarkR) : RiseT (addMe l s own) ∧ ∀ z, z ∈ addMe l s own ↔ (z ∈ l ∧ z.text ≠ s) ∨ (∃ m ∈ l, m.text = s ∧ z = { m with marks := withM m.marks own }) ∨ ((∀ m ∈ l, m.text ≠ s) ∧ z = ⟨s, false, [own]⟩) := by
  obtain ⟨h1, h2⟩ := add_spec (s := s) (own := own) l ([], false) h (by simp [RiseT]) (by simp) (by simp) (by simp)
  refine ⟨h1, fun z => (h2 z).trans ?_⟩
  simp

/-- A map's members, by their rising texts. -/
def closeM (l : List (ByteArray × MemberR)) : List MemberR := (sortT (l.map (·.1))).map fun s => (getA l s).getD default
def Keyed (l : List (ByteArray × MemberR)) : Prop := (l.map (·.1)).Nodup ∧ ∀ p ∈ l, p.2.text = p.1
theorem closeM_spec {l : List (ByteArray × MemberR)} (h : Keyed l) : RiseT (closeM l) ∧ ∀ z, z ∈ closeM l ↔ getA l z.text = some z := by
  obtain ⟨h1, h2⟩ := sortT_spec h.1
  have hg : ∀ s, s ∈ sortT (l.map (·.1)) → ∃ v, getA l s = some v ∧ v.text = s := by
    intro s hs
    rw [h2] at hs
    obtain ⟨p, hp, rfl⟩ := List.mem_map.1 hs
    exact ⟨p.2, getA_of_mem h.1 hp, h.2 p hp⟩
  refine ⟨?_, fun z => ?_⟩
  · rw [RiseT, closeM, List.pairwise_map]
    refine List.Pairwise.imp_of_mem ?_ h1
    intro a b ha hb hab
    obtain ⟨v, hv, ev⟩ := hg a ha
    obtain ⟨w, hw, ew⟩ := hg b hb
    rw [hv, hw]
    simp only [Option.getD_some, ev, ew]; exact hab
  · simp only [closeM, List.mem_map]
    constructor
    · rintro ⟨s, hs, rfl⟩
      obtain ⟨v, hv, ev⟩ := hg s hs
      rw [hv]; simp only [Option.getD_some, ev, hv]
    · intro hz
      have hm := getA_mem hz
      exact ⟨z.text, (h2 _).2 (List.mem_map.2 ⟨_, hm, rfl⟩), by rw [hz]; rfl⟩
/-- A cell's members, in a map. -/
def openM (l : List MemberR) : List (ByteArray × MemberR) := l.map fun m => (m.text, m)
theorem open_keyed {l : List MemberR} (h : RiseT l) : Keyed (openM l) := by
  have e : (openM l).map (fun p => p.1) = l.map (fun m => m.text) := by
    simp only [openM, List.map_map]; rfl
  refine ⟨by rw [e]; exact riseT_texts h, ?_⟩
  · intro p hp
    obtain ⟨m, _, rfl⟩ := List.mem_map.1 hp
    rfl
theorem get_open {l : List MemberR} (h : RiseT l) (s : ByteArray) (z : MemberR) : getA (openM l) s = some z ↔ z ∈ l ∧ z.text = s := by
  constructor
  · intro hz
    have := getA_mem hz
    obtain ⟨m, hm, e⟩ := List.mem_map.1 this
    cases e
    exact ⟨hm, rfl⟩
  · rintro ⟨hz, rfl⟩
    exact getA_of_mem (open_keyed h).1 (List.mem_map.2 ⟨z, hz, rfl⟩)
theorem put_keyed {l : List (ByteArray × MemberR)} (h : Keyed l) {m : MemberR} {s : ByteArray} (hm : m.text = s) : Keyed (putA l s m) := by
  refine ⟨nodup_put h.1, fun p hp => ?_⟩
  have hg := getA_of_mem (nodup_put h.1) (show (p.1, p.2) ∈ putA l s m from hp)
  rw [getA_put] at hg
  split at hg
  · rename_i e; cases hg; rw [hm, e]
  · exact h.2 _ (getA_mem hg)
theorem del_keyed {l : List (ByteArray × MemberR)} (h : Keyed l) (s : ByteArray) : Keyed (delA l s) :=
  ⟨((del_sub l s).map _).nodup h.1, fun p hp => h.2 p ((del_sub l s).subset hp)⟩
end Go.Ab
