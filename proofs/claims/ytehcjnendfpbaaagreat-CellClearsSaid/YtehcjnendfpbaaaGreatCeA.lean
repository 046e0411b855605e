/- Counters and sequences: what is made of them, in plain words. Conditions: none. -/
import Derived.Test.YtehcjnendfpbaaaGreatOsA
set_option linter.unusedSimpArgs false
namespace Go.Ab
open Go.Proofs

theorem getD_mem {α : Type} [Inhabited α] {l : List α} {k : Nat} (hk : k < l.length) : l.getD k default ∈ l := by
  rw [List.getD_eq_getElem?_getD, List.getElem?_eq_getElem hk]; exact List.getElem_mem hk
theorem mem_getD {α : Type} [Inhabited α] {l : List α} {x : α} (hx : x ∈ l) : ∃ k, k < l.length ∧ l.getD k default = x := by
  obtain ⟨i, hi, rfl⟩ := List.getElem_of_mem hx
  exact ⟨i, hi, by rw [List.getD_eq_getElem?_getD, List.getElem?_eq_getElem hi]; rfl⟩

/-- Rising by a mark. -/
def RiseG {α : Type} (f : α → MarkR) (l : List α) : Prop := l.Pairwise fun a b => markLt (f a) (f b) = true
def okG {α : Type} [Inhabited α] (f : α → MarkR) (ok : α → Bool) (l : List α) (k : Nat) : Bool := ok (l.getD k default) && (decide (k = 0) || markLt (f (l.getD (k - 1) default)) (f (l.getD k default)))
def allG {α : Type} [Inhabited α] (f : α → MarkR) (ok : α → Bool) (l : List α) : Bool := (List.range l.length).all (okG f ok l)
theorem allG_iff {α : Type} [Inhabited α] (f : α → MarkR) (ok : α → Bool) (l : List α) : allG f ok l = true ↔ (∀ x ∈ l, ok x = true) ∧ RiseG f l := by
  simp only [allG, List.all_eq_true, List.mem_range, okG, Bool.and_eq_true, Bool.or_eq_true, decide_eq_true_eq]
  constructor
  · intro h
    refine ⟨fun x hx => ?_, pairwise_of_next (R := fun a b : α => markLt (f a) (f b) = true) (fun a b c => markLt_trans) fun k hk hl => ?_⟩
    · obtain ⟨k, hk, rfl⟩ := mem_getD hx
      exact (h k hk).1
    · rcases (h k hl).2 with h0 | h0
      · omega
      · exact h0
  · rintro ⟨h1, h2⟩ k hk
    refine ⟨h1 _ (getD_mem hk), ?_⟩
    by_cases h0 : k = 0
    · exact .inl h0
    · exact .inr (next_of_pairwise h2 (by omega) hk)
theorem riseG_keys {α : Type} {f : α → MarkR} {l : List α} (h : RiseG f l) : (l.map f).Nodup := by
  rw [List.Nodup, List.pairwise_map]
  exact h.imp fun {a b} hab e => by rw [e, markLt_irr] at hab; cases hab
theorem riseG_inj {α : Type} {f : α → MarkR} {l : List α} (h : RiseG f l) {x y : α} (hx : x ∈ l) (hy : y ∈ l) (e : f x = f y) : x = y := by
  induction l with
  | nil => simp at hx
  | cons z r ih =>
    simp only [RiseG, List.pairwise_cons] at h
    rcases List.mem_cons.1 hx with hx1 | hx1 <;> rcases List.mem_cons.1 hy with hy1 | hy1
    · rw [hx1, hy1]
    · have := h.1 y hy1
      rw [← hx1, e, markLt_irr] at this; cases this
    · have := h.1 x hx1
      rw [← hy1, e, markLt_irr] at this; cases this
    · exact ih h.2 hx1 hy1
def goesG {α : Type} (f : α → MarkR) (x y : α) : Bool := markLt (f x) (f y)
def sameG {α : Type} (f : α → MarkR) (m : MarkR) (y : α) : Bool := decide (f y = m)

/-- Where something that is new goes. -/
theorem insG_at {α : Type} [Inhabited α] {f : α → MarkR} {l : List α} {x : α} (hr : RiseG f l) {k : Nat} (hk : k ≤ l.length) (h1 : ∀ q, q < k → markLt (f (l.getD q default)) (f x) = true) (h2 : k < l.length → markLt (f (l.getD k default)) (f x) = false) :
    (k < l.length → f (l.getD k default) = f x → l.any (sameG f (f x)) = true) ∧ ((k < l.length → f (l.getD k default) ≠ f x) → l.any (sameG f (f x)) = false ∧ insB (goesG f x) x l = insAt l k x) := by
  constructor
  · intro hkl e
    exact any_at hkl (by rw [sameG, e]; simp)
  · intro hne
    have hb : ∀ q, q < l.length → f (l.getD q default) ≠ f x := by
      intro q hq e
      rcases Nat.lt_trichotomy q k with h | h | h
      · have := h1 q h; rw [e, markLt_irr] at this; cases this
      · subst h; exact hne hq e
      · have hkl : k < l.length := by omega
        have h3 := h2 hkl
        have h4 : markLt (f (l.getD k default)) (f (l.getD q default)) = true := by
          have := List.pairwise_iff_getElem.1 hr k q hkl hq h
          rw [List.getD_eq_getElem?_getD, List.getD_eq_getElem?_getD, List.getElem?_eq_getElem hkl, List.getElem?_eq_getElem hq]; exact this
        rw [e] at h4
        rw [h4] at h3; cases h3
    exact ⟨any_no fun q hq => by simpa [sameG] using hb q hq, insB_insAt hk (fun q hq => markLt_asymm (h1 q hq)) fun hkl => markLt_total (h2 hkl) (hne hkl)⟩

-- counters
def amOk (a : AmountR) : Bool := decide (-1073741824 ≤ a.n) && decide (a.n ≤ 1073741824) && decide (1 ≤ a.m.i)
def inW (n : Int) : Bool := decide (-1152921504606846976 ≤ n) && decide (n ≤ 1152921504606846976)
def inA (n : Int) : Bool := decide (-1073741824 ≤ n) && decide (n ≤ 1073741824)
def shapeN (c : CellR) : Bool := decide (c.kind = 1) && decide (c.wr.length = 0) && decide (c.me.length = 0) && decide (c.el.length = 0) && inW c.base
def checkN (c : CellR) : Bool := shapeN c && allG AmountR.m amOk c.am
def doN (c : CellR) (t : TxR) (i n : Int) : CellR :=
  if i < 1 ∨ inA n = false ∨ checkN c = false then c else if c.am.any (sameG AmountR.m ⟨t.peer, t.seq, i⟩) then c
  else { c with am := insB (goesG AmountR.m ⟨⟨t.peer, t.seq, i⟩, n⟩) ⟨⟨t.peer, t.seq, i⟩, n⟩ c.am }
theorem checkN_iff (c : CellR) : checkN c = true ↔ shapeN c = true ∧ (∀ a ∈ c.am, amOk a = true) ∧ RiseG AmountR.m c.am := by
  rw [checkN, Bool.and_eq_true, allG_iff]

-- sequences
def zeroM : MarkR := ⟨0, 0, 0⟩
def rootStep (o : List MarkR) (e : ElemR) : List MarkR := if e.ref ∈ o then (if e.m ∈ o then o else o ++ [e.m]) else o
def rootRound (l : List ElemR) (o : List MarkR) : List MarkR := l.foldl rootStep o
def rootGrow (l : List ElemR) : Nat → List MarkR → List MarkR
  | 0, o => o
  | k + 1, o => if (rootRound l o).length = o.length then rootRound l o else rootGrow l k (rootRound l o)
def rootedL (l : List ElemR) : Bool := decide ((rootGrow l l.length [zeroM]).length = l.length + 1)
/-- What is to be reached, by what stands behind what. -/
inductive Reach (l : List ElemR) : MarkR → Prop
  | zero : Reach l zeroM
  | step (e : ElemR) : e ∈ l → Reach l e.ref → Reach l e.m
theorem rootStep_pre (o : List MarkR) (e : ElemR) : o <+: rootStep o e := by
  unfold rootStep
  split
  · split
    · exact List.prefix_refl _
    · exact List.prefix_append _ _
  · exact List.prefix_refl _
theorem rootFold_pre : ∀ (l : List ElemR) (o : List MarkR), o <+: l.foldl rootStep o
  | [], o => List.prefix_refl _
  | e :: r, o => (rootStep_pre o e).trans (rootFold_pre r _)
structure RootInv (l : List ElemR) (o : List MarkR) : Prop where
  nd : o.Nodup
  z : zeroM ∈ o
  r : ∀ m ∈ o, Reach l m
  s : ∀ m ∈ o, m = zeroM ∨ ∃ e ∈ l, e.m = m
theorem rootStep_inv {l : List ElemR} {o : List MarkR} {e : ElemR} (h : RootInv l o) (he : e ∈ l) : RootInv l (rootStep o e) := by
  unfold rootStep
  split
  · rename_i h1
    split
    · exact h
    · rename_i h2
      refine ⟨?_, by simp [h.z], ?_, ?_⟩
      · rw [List.nodup_append]
        refine ⟨h.nd, by simp, ?_⟩
        rintro a ha b hb rfl
        simp at hb; subst hb
        exact h2 ha
      · intro m hm
        rcases List.mem_append.1 hm with hm | hm
        · exact h.r m hm
        · simp at hm; subst hm
          exact .step e he (h.r _ h1)
      · intro m hm
        rcases List.mem_append.1 hm with hm | hm
        · exact h.s m hm
        · simp at hm; subst hm
          exact .inr ⟨e, he, rfl⟩
  · exact h
theorem rootFold_inv {l : List ElemR} : ∀ {r : List ElemR} {o : List MarkR}, RootInv l o → (∀ e ∈ r, e ∈ l) → RootInv l (r.foldl rootStep o)
  | [], _, h, _ => h
  | e :: r, o, h, hs => rootFold_inv (r := r) (o := rootStep o e) (rootStep_inv h (hs e (by simp))) fun x hx => hs x (by simp [hx])
theorem rootFold_closed : ∀ {l : List ElemR} {o : List MarkR}, (l.foldl rootStep o).length = o.length → ∀ e ∈ l, e.ref ∈ o → e.m ∈ o
  | x :: r, o, h, e, he, hr => by
    have h1 := (rootStep_pre o x).length_le
    have h2 := (rootFold_pre r (rootStep o x)).length_le
    simp only [List.foldl_cons] at h
    have h3 : rootStep o x = o := ((rootStep_pre o x).eq_of_length (by omega)).symm
    rcases List.mem_cons.1 he with rfl | he
    · unfold rootStep at h3
      rw [if_pos hr] at h3
      split at h3
      · assumption
      · have := congrArg List.length h3
        simp at this
    · rw [h3] at h
      exact rootFold_closed h e he hr
theorem rootGrow_spec {l : List ElemR} : ∀ (k : Nat) {o : List MarkR}, RootInv l o → RootInv l (rootGrow l k o) ∧ ((∀ e ∈ l, e.ref ∈ rootGrow l k o → e.m ∈ rootGrow l k o) ∨ o.length + k ≤ (rootGrow l k o).length)
  | 0, o, h => ⟨h, .inr (by simp [rootGrow])⟩
  | k + 1, o, h => by
    have hi : RootInv l (rootRound l o) := rootFold_inv h fun _ hx => hx
    have hp := (rootFold_pre l o).length_le
    unfold rootGrow
    split
    · rename_i he
      refine ⟨hi, .inl ?_⟩
      have : rootRound l o = o := ((rootFold_pre l o).eq_of_length he.symm).symm
      rw [this]
      exact rootFold_closed he
    · rename_i he
      obtain ⟨h1, h2⟩ := rootGrow_spec k hi
      refine ⟨h1, h2.elim .inl fun h2 => .inr ?_⟩
      have : (rootRound l o).length = (l.foldl rootStep o).length := rfl
      omega
theorem sub_len {α : Type} [DecidableEq α] : ∀ {a b : List α}, a.Nodup → (∀ x ∈ a, x ∈ b) → a.length ≤ b.length
  | [], _, _, _ => Nat.zero_le _
  | x :: r, b, h, hs => by
    rw [List.nodup_cons] at h
    have hx : x ∈ b := hs x (by simp)
    have := sub_len (a := r) (b := b.erase x) h.2 fun y hy => (List.mem_erase_of_ne (fun e => h.1 (by rw [← e]; exact hy))).2 (hs y (by simp [hy]))
    rw [List.length_erase_of_mem hx] at this
    have h0 : 0 < b.length := List.length_pos_of_mem hx
    simp only [List.length_cons]; omega
theorem sub_all {α : Type} [DecidableEq α] {a b : List α} (h : a.Nodup) (hs : ∀ x ∈ a, x ∈ b) (hl : b.length ≤ a.length) {x : α} (hx : x ∈ b) : x ∈ a := by
  refine Classical.byContradiction fun hn => ?_
  have := sub_len (a := x :: a) (b := b) (List.nodup_cons.2 ⟨hn, h⟩) fun y hy => by
    rcases List.mem_cons.1 hy with rfl | hy
    · exact hx
    · exact hs y hy
  simp only [List.length_cons] at this; omega
theorem rooted_iff {l : List ElemR} (hn : (l.map ElemR.m).Nodup) (hz : ∀ e ∈ l, e.m ≠ zeroM) : rootedL l = true ↔ ∀ e ∈ l, Reach l e.m := by
  have h0 : RootInv l [zeroM] := ⟨by simp, by simp, by simp; exact .zero, by simp⟩
  obtain ⟨h1, h2⟩ := rootGrow_spec l.length h0
  have hall : (zeroM :: l.map ElemR.m).Nodup := by
    rw [List.nodup_cons]
    refine ⟨?_, hn⟩
    rw [List.mem_map]
    rintro ⟨e, he, e2⟩
    exact hz e he e2
  have hsub : ∀ x ∈ rootGrow l l.length [zeroM], x ∈ zeroM :: l.map ElemR.m := fun x hx => by
    rcases h1.s x hx with rfl | ⟨e, he, rfl⟩
    · simp
    · exact List.mem_cons_of_mem _ (List.mem_map.2 ⟨e, he, rfl⟩)
  have hle := sub_len h1.nd hsub
  simp only [List.length_cons, List.length_map] at hle
  simp only [rootedL, decide_eq_true_eq]
  constructor
  · intro h e he
    exact h1.r _ (sub_all h1.nd hsub (by simp [h]) (List.mem_cons_of_mem _ (List.mem_map.2 ⟨e, he, rfl⟩)))
  · intro h
    rcases h2 with h2 | h2
    · have hr : ∀ m, Reach l m → m ∈ rootGrow l l.length [zeroM] := by
        intro m hm
        induction hm with
        | zero => exact h1.z
        | step e he _ ih => exact h2 e he ih
      have := sub_len hall (b := rootGrow l l.length [zeroM]) fun x hx => by
        rcases List.mem_cons.1 hx with rfl | hx
        · exact h1.z
        · obtain ⟨e, he, rfl⟩ := List.mem_map.1 hx
          exact hr _ (h e he)
      simp only [List.length_cons, List.length_map] at this
      omega
    · simp only [List.length_singleton] at h2
      omega

def elOk (e : ElemR) : Bool := decide (1 ≤ e.m.i) && decide ((e.text.size : Int) ≤ 64) && risingM e.gone
def shapeQ (c : CellR) : Bool := decide (c.kind = 5) && decide (c.base = 0) && decide (c.am.length = 0) && decide (c.wr.length = 0) && decide (c.me.length = 0)
def checkQ (c : CellR) : Bool := shapeQ c && allG ElemR.m elOk c.el && rootedL c.el
def ElOk (e : ElemR) : Prop := 1 ≤ e.m.i ∧ (e.text.size : Int) ≤ 64 ∧ (∀ m ∈ e.gone, 1 ≤ m.i) ∧ RiseK e.gone
theorem elOk_iff (e : ElemR) : elOk e = true ↔ ElOk e := by
  simp only [elOk, ElOk, Bool.and_eq_true, decide_eq_true_eq, risingM_iff, and_assoc]
theorem checkQ_iff (c : CellR) : checkQ c = true ↔ shapeQ c = true ∧ (∀ e ∈ c.el, ElOk e) ∧ RiseG ElemR.m c.el ∧ ∀ e ∈ c.el, Reach c.el e.m := by
  simp only [checkQ, Bool.and_eq_true, allG_iff, elOk_iff]
  constructor
  · rintro ⟨⟨h1, h2, h3⟩, h4⟩
    exact ⟨h1, h2, h3, (rooted_iff (riseG_keys h3) fun e he e2 => by have := (h2 e he).1; rw [e2] at this; simp [zeroM] at this).1 h4⟩
  · rintro ⟨h1, h2, h3, h4⟩
    exact ⟨⟨h1, h2, h3⟩, (rooted_iff (riseG_keys h3) fun e he e2 => by have := (h2 e he).1; rw [e2] at this; simp [zeroM] at this).2 h4⟩
def elemOf (l : List ElemR) (m : MarkR) : Option ElemR := l.find? (sameG ElemR.m m)
/-- May something be put behind this? -/
def behindOk (l : List ElemR) (t : TxR) (i : Int) (ref : MarkR) : Bool := decide (ref = zeroM) || (match elemOf l ref with | some e => !e.gone.any (befM t i) | none => false)
abbrev newE (t : TxR) (i : Int) (ref : MarkR) (s : ByteArray) : ElemR := ⟨⟨t.peer, t.seq, i⟩, t.time, ref, s, []⟩
def insQ (c : CellR) (t : TxR) (i : Int) (ref : MarkR) (s : ByteArray) : CellR :=
  if i < 1 ∨ 64 < (s.size : Int) ∨ checkQ c = false ∨ c.el.any (sameG ElemR.m ⟨t.peer, t.seq, i⟩) = true then c
  else if behindOk c.el t i ref then { c with el := insB (goesG ElemR.m (newE t i ref s)) (newE t i ref s) c.el } else c
def takeE (p : MarkR → Bool) (m : MarkR) (e : ElemR) : ElemR := if p e.m then { e with gone := withM e.gone m } else e
def takeQ (c : CellR) (t : TxR) (i : Int) (p : MarkR → Bool) : CellR := if i < 1 ∨ checkQ c = false then c else { c with el := c.el.map (takeE p ⟨t.peer, t.seq, i⟩) }
def sameR (m x : MarkR) : Bool := decide (x = m)
def delQ (c : CellR) (t : TxR) (i : Int) (ref : MarkR) : CellR := takeQ c t i (sameR ref)
def clearQ (c : CellR) (t : TxR) (i : Int) : CellR := takeQ c t i (befM t i)
end Go.Ab
