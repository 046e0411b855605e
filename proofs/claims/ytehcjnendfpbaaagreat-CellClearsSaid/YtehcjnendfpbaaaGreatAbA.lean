/- The value-level reading of the machine's memory: shapes, data, and what it means that a world holds them. Conditions: none. -/
import Derived.Calls
import Derived.Tactics
import Derived.RowKit3
import Derived.Below
import Derived.Laws.AppendOwn
namespace Go.Ab

/-- The shape of a type: one cell, a struct's fields one behind the other, an array. -/
inductive Sh where
  | leaf | unit | pair (a b : Sh) | arr (n : Nat) (s : Sh) | obj (k : Nat)
  deriving DecidableEq

/-- May a slice be appended to in place? 'full': it has no room; 'own': the room behind it is ours. -/
inductive Tok where
  | no | full | own (id : Nat)
  deriving DecidableEq

/-- Values as data. -/
inductive D where
  | lit (v : Value)
  | agg (l : List D)
  | lst (e : TypeId) (l : List D) (t : Tok)
  | ref (s : Sh) (d : D)
  | ptr (b : Nat) (p : List Nat)
  | fn (f : Fn) (caps : List D)
  | tup (l : List D)
  | ifc (t : TypeId) (d : D)
  | mref (b : Nat)
  | mp (ks : List D) (vs : List D) (g : Nat)
  | it (m g : Nat) (seen : List D)
  | sl (e : TypeId) (b lo n c : Nat)

instance : Inhabited D := ⟨.tup []⟩

abbrev D.int (n : Int) : D := .lit (.int .i64 n)
abbrev D.bool (b : Bool) : D := .lit (.bool b)
abbrev D.str (s : ByteArray) : D := .lit (.string s)

mutual
def leaves : D → List D
  | .agg l => leavesL l
  | .lit v => [.lit v]
  | .lst e l t => [.lst e l t]
  | .ref s d => [.ref s d]
  | .ptr b p => [.ptr b p]
  | .fn f c => [.fn f c]
  | .tup l => [.tup l]
  | .ifc t d => [.ifc t d]
  | .mref b => [.mref b]
  | .mp k v g => [.mp k v g]
  | .it m g s => [.it m g s]
  | .sl e b lo n c => [.sl e b lo n c]
def leavesL : List D → List D
  | [] => []
  | d :: r => leaves d ++ leavesL r
end

theorem leavesL_append (a b : List D) : leavesL (a ++ b) = leavesL a ++ leavesL b := by
  induction a with
  | nil => simp [leavesL]
  | cons d r ih => simp [leavesL, ih]

theorem leavesL_flatMap (l : List D) : leavesL l = l.flatMap leaves := by
  induction l with
  | nil => simp [leavesL]
  | cons d r ih => simp [leavesL, ih]

def Value.cell : Value → Bool
  | .agg _ | .tuple _ => false
  | _ => true

/-- Data of which each cell is a value's. -/
def flatD (d : D) : Prop := ∀ x ∈ leaves d, ∃ v, x = .lit v
def litOf : D → Value
  | .lit v => v
  | _ => undef
/-- The value of such data. -/
def valOf : D → Value
  | .agg l => .agg ((leavesL l).map litOf).toArray
  | d => litOf d

/-- One cell's data. -/
def D.isLeaf : D → Bool
  | .lit v => v.oneCell'
  | .agg _ => false
  | .tup _ => false
  | _ => true

theorem leaves_of_isLeaf {d : D} (h : d.isLeaf = true) : leaves d = [d] := by
  cases d <;> simp [D.isLeaf, leaves] at *

def Sh.size : Sh → Nat
  | .leaf => 1
  | .unit => 0
  | .pair a b => a.size + b.size
  | .arr n s => n * s.size
  | .obj _ => 1

def Sh.isLeaf : Sh → Bool
  | .leaf => true
  | _ => false

/-- Data of a shape. -/
def hasSh : Sh → D → Prop
  | .leaf, d => d.isLeaf = true
  | .obj _, d => d.isLeaf = true
  | .unit, .agg l => l = []
  | .pair a b, .agg l => ∃ x r, l = x :: r ∧ hasSh a x ∧ hasSh b (.agg r)
  | .arr n s, .agg l => l.length = n ∧ ∀ x ∈ l, hasSh s x
  | _, _ => False

theorem leavesL_length_const {l : List D} {n : Nat} (h : ∀ x ∈ l, (leaves x).length = n) : (leavesL l).length = l.length * n := by
  induction l with
  | nil => simp [leavesL]
  | cons d r ih =>
    simp only [leavesL, List.length_append, List.length_cons, h d (by simp), ih (fun x hx => h x (by simp [hx]))]
    rw [Nat.add_mul]; omega

theorem leaves_length {s : Sh} {d : D} (h : hasSh s d) : (leaves d).length = s.size := by
  induction s generalizing d with
  | leaf => rw [leaves_of_isLeaf h]; rfl
  | obj k => rw [leaves_of_isLeaf h]; rfl
  | unit => cases d <;> simp [hasSh] at h; subst h; rfl
  | pair a b iha ihb =>
    cases d <;> simp [hasSh] at h
    obtain ⟨x, r, rfl, hx, hr⟩ := h
    have := ihb hr
    simp only [leaves] at this
    simp [leaves, leavesL, Sh.size, iha hx, this]
  | arr n s ih =>
    cases d <;> simp [hasSh] at h
    obtain ⟨rfl, h⟩ := h
    simp only [leaves, Sh.size]
    exact leavesL_length_const fun x hx => ih (h x hx)

/-- The part of a shape at one step: a field, an element. -/
def Sh.kid : Sh → Nat → Option Sh
  | .pair a _, 0 => some a
  | .pair _ b, k + 1 => b.kid k
  | .arr n s, k => if k < n then some s else none
  | _, _ => none

def Sh.kidOff : Sh → Nat → Nat
  | .pair _ _, 0 => 0
  | .pair a b, k + 1 => a.size + b.kidOff k
  | .arr _ s, k => k * s.size
  | _, _ => 0

def D.kid : D → Nat → Option D
  | .agg l, k => l[k]?
  | _, _ => none

def D.setKid : D → Nat → D → D
  | .agg l, k, x => .agg (l.set k x)
  | d, _, _ => d

/-- Pointwise. -/
def All2 {α β : Type} (R : α → β → Prop) (cs : List α) (ds : List β) : Prop :=
  cs.length = ds.length ∧ ∀ (i : Nat) (c : α) (d : β), cs[i]? = some c → ds[i]? = some d → R c d

theorem All2.nil {α β : Type} {R : α → β → Prop} : All2 R [] [] := ⟨rfl, by simp⟩

theorem All2.cons {α β : Type} {R : α → β → Prop} {c : α} {d : β} {cs : List α} {ds : List β} (h : R c d) (hs : All2 R cs ds) : All2 R (c :: cs) (d :: ds) := by
  refine ⟨by simp [hs.1], ?_⟩
  intro i c' d' hc hd
  cases i with
  | zero => simp at hc hd; subst hc; subst hd; exact h
  | succ i => simp at hc hd; exact hs.2 i c' d' hc hd

theorem All2.head {α β : Type} {R : α → β → Prop} {c : α} {d : β} {cs : List α} {ds : List β} (h : All2 R (c :: cs) (d :: ds)) : R c d ∧ All2 R cs ds := by
  refine ⟨h.2 0 c d rfl rfl, by simpa using h.1, ?_⟩
  intro i c' d' hc hd
  exact h.2 (i + 1) c' d' (by simpa using hc) (by simpa using hd)

theorem All2.append {α β : Type} {R : α → β → Prop} {a c : List α} {b d : List β} (h : All2 R a b) (k : All2 R c d) : All2 R (a ++ c) (b ++ d) := by
  induction a generalizing b with
  | nil =>
    have : b = [] := List.eq_nil_of_length_eq_zero (by simpa using h.1.symm)
    subst this; simpa using k
  | cons x a ih =>
    cases b with
    | nil => simp [All2] at h
    | cons y b => exact All2.cons h.head.1 (ih h.head.2)

theorem All2.mono {α β : Type} {R R' : α → β → Prop} {a : List α} {b : List β} (h : All2 R a b) (hr : ∀ x y, R x y → R' x y) : All2 R' a b :=
  ⟨h.1, fun i c d hc hd => hr _ _ (h.2 i c d hc hd)⟩

theorem All2.take {α β : Type} {R : α → β → Prop} {a : List α} {b : List β} (h : All2 R a b) (n : Nat) : All2 R (a.take n) (b.take n) := by
  refine ⟨by simp [h.1], ?_⟩
  intro i c d hc hd
  rw [List.getElem?_take] at hc hd
  split at hc
  · rename_i hi; rw [if_pos hi] at hd; exact h.2 i c d hc hd
  · cases hc

theorem All2.drop {α β : Type} {R : α → β → Prop} {a : List α} {b : List β} (h : All2 R a b) (n : Nat) : All2 R (a.drop n) (b.drop n) := by
  refine ⟨by simp [h.1], ?_⟩
  intro i c d hc hd
  rw [List.getElem?_drop] at hc hd
  exact h.2 _ c d hc hd

theorem All2.get {α β : Type} {R : α → β → Prop} {a : List α} {b : List β} (h : All2 R a b) {i : Nat} {d : β} (hd : b[i]? = some d) : ∃ c, a[i]? = some c ∧ R c d := by
  have hi : i < a.length := by
    rw [h.1]; rcases Nat.lt_or_ge i b.length with h' | h'
    · exact h'
    · rw [List.getElem?_eq_none h'] at hd; cases hd
  exact ⟨a[i], List.getElem?_eq_getElem hi, h.2 i _ _ (List.getElem?_eq_getElem hi) hd⟩

theorem All2.set {α β : Type} {R : α → β → Prop} {a : List α} {b : List β} (h : All2 R a b) (n : Nat) {x : α} {y : β} (hx : R x y) : All2 R (a.set n x) (b.set n y) := by
  refine ⟨by simp [h.1], ?_⟩
  intro i c d hc hd
  rw [List.getElem?_set] at hc hd
  by_cases hni : n = i
  · rw [if_pos hni] at hc hd
    split at hc
    · split at hd
      · cases hc; cases hd; exact hx
      · cases hd
    · cases hc
  · rw [if_neg hni] at hc hd
    exact h.2 i c d hc hd

/-- Where a part's cells lie. -/
theorem kid_split {s : Sh} {d : D} {k : Nat} {s' : Sh} (h : hasSh s d) (hk : s.kid k = some s') :
    ∃ x l, d = .agg l ∧ l[k]? = some x ∧ hasSh s' x ∧ leaves d = (leaves d).take (s.kidOff k) ++ leaves x ++ (leaves d).drop (s.kidOff k + s'.size) ∧
      s.kidOff k + s'.size ≤ s.size := by
  induction s generalizing d k with
  | leaf => simp [Sh.kid] at hk
  | obj j => simp [Sh.kid] at hk
  | unit => simp [Sh.kid] at hk
  | pair a b iha ihb =>
    cases d <;> simp [hasSh] at h
    rename_i l
    obtain ⟨x, r, rfl, hx, hr⟩ := h
    cases k with
    | zero =>
      simp [Sh.kid] at hk; subst hk
      refine ⟨x, _, rfl, by simp, hx, ?_, by simp [Sh.kidOff, Sh.size]⟩
      have := leaves_length hx
      simp [Sh.kidOff, leaves, leavesL, ← this]
    | succ k =>
      simp only [Sh.kid] at hk
      obtain ⟨y, l, hl, hy, hsy, hsp, hle⟩ := ihb hr hk
      cases hl
      refine ⟨y, _, rfl, by simpa using hy, hsy, ?_, by simp only [Sh.kidOff, Sh.size]; omega⟩
      have ha := leaves_length hx
      simp only [leaves] at hsp
      simp only [leaves, leavesL, Sh.kidOff]
      rw [List.take_append, List.drop_append]
      rw [List.take_of_length_le (by omega), List.drop_eq_nil_of_le (by omega)]
      rw [show a.size + Sh.kidOff b k - (leaves x).length = Sh.kidOff b k by omega, show a.size + Sh.kidOff b k + s'.size - (leaves x).length = Sh.kidOff b k + s'.size by omega]
      simp only [List.nil_append, List.append_assoc]
      congr 1
      simpa [List.append_assoc] using hsp
  | arr n s ih =>
    cases d <;> simp [hasSh] at h
    rename_i l
    obtain ⟨rfl, hl⟩ := h
    simp only [Sh.kid] at hk
    split at hk
    case isFalse => cases hk
    rename_i hkl
    have hk := Option.some.inj hk
    subst hk
    refine ⟨l[k], l, rfl, List.getElem?_eq_getElem hkl, hl _ (List.getElem_mem hkl), ?_, ?_⟩
    · have e : l = l.take k ++ l[k] :: l.drop (k + 1) := by
        rw [List.getElem_cons_drop, List.take_append_drop]
      have h1 : (leavesL (l.take k)).length = k * s.size := by
        rw [leavesL_length_const (n := s.size) fun x hx => leaves_length (hl x (List.mem_of_mem_take hx)), List.length_take, Nat.min_eq_left (by omega)]
      have h2 : (leaves l[k]).length = s.size := leaves_length (hl _ (List.getElem_mem hkl))
      have e2 : leavesL l = leavesL (l.take k) ++ (leaves l[k] ++ leavesL (l.drop (k + 1))) := by
        conv => lhs; rw [e]
        rw [leavesL_append]; simp [leavesL]
      simp only [leaves, Sh.kidOff]
      rw [e2]
      rw [← h1, ← h2]
      simp
    · simp only [Sh.kidOff, Sh.size]
      calc k * s.size + s.size = (k + 1) * s.size := by rw [Nat.add_mul]; omega
        _ ≤ l.length * s.size := Nat.mul_le_mul_right _ hkl

/-- A part is put in its place. -/
theorem kid_set {s : Sh} {d : D} {k : Nat} {s' : Sh} (h : hasSh s d) (hk : s.kid k = some s') (y : D) (hy : hasSh s' y) :
    hasSh s (d.setKid k y) ∧ leaves (d.setKid k y) = (leaves d).take (s.kidOff k) ++ leaves y ++ (leaves d).drop (s.kidOff k + s'.size) := by
  induction s generalizing d k with
  | leaf => simp [Sh.kid] at hk
  | obj j => simp [Sh.kid] at hk
  | unit => simp [Sh.kid] at hk
  | pair a b iha ihb =>
    cases d <;> simp [hasSh] at h
    rename_i l
    obtain ⟨x, r, rfl, hx, hr⟩ := h
    have ha := leaves_length hx
    cases k with
    | zero =>
      simp [Sh.kid] at hk; subst hk
      refine ⟨⟨y, r, rfl, hy, hr⟩, ?_⟩
      simp [Sh.kidOff, leaves, leavesL, ← ha, D.setKid]
    | succ k =>
      simp only [Sh.kid] at hk
      obtain ⟨h1, h2⟩ := ihb hr hk
      simp only [D.setKid] at h1 h2
      refine ⟨⟨x, r.set k y, rfl, hx, h1⟩, ?_⟩
      simp only [leaves] at h2
      simp only [leaves, leavesL, Sh.kidOff, D.setKid, List.set_cons_succ]
      rw [h2, List.take_append, List.drop_append]
      rw [List.take_of_length_le (l := leaves x) (by omega), List.drop_eq_nil_of_le (as := leaves x) (by omega)]
      rw [show a.size + Sh.kidOff b k - (leaves x).length = Sh.kidOff b k by omega, show a.size + Sh.kidOff b k + s'.size - (leaves x).length = Sh.kidOff b k + s'.size by omega]
      simp [List.append_assoc]
  | arr n s ih =>
    cases d <;> simp [hasSh] at h
    rename_i l
    obtain ⟨rfl, hl⟩ := h
    simp only [Sh.kid] at hk
    split at hk
    case isFalse => cases hk
    rename_i hkl
    have hk := Option.some.inj hk
    subst hk
    refine ⟨⟨by simp, ?_⟩, ?_⟩
    · intro x hx
      rcases List.mem_or_eq_of_mem_set hx with h' | h'
      · exact hl x h'
      · subst h'; exact hy
    · have h1 : (leavesL (l.take k)).length = k * s.size := by
        rw [leavesL_length_const (n := s.size) fun x hx => leaves_length (hl x (List.mem_of_mem_take hx)), List.length_take, Nat.min_eq_left (by omega)]
      have h2 : (leaves l[k]).length = s.size := leaves_length (hl _ (List.getElem_mem hkl))
      have e : l = l.take k ++ l[k] :: l.drop (k + 1) := by
        rw [List.getElem_cons_drop, List.take_append_drop]
      have e2 : leavesL l = leavesL (l.take k) ++ (leaves l[k] ++ leavesL (l.drop (k + 1))) := by
        conv => lhs; rw [e]
        rw [leavesL_append]; simp [leavesL]
      simp only [leaves, Sh.kidOff, D.setKid]
      rw [List.set_eq_take_append_cons_drop, if_pos hkl, leavesL_append]
      simp only [leavesL]
      rw [e2, ← h1, ← h2]
      simp

/-- Going down a way. -/
def Sh.at : Sh → List Nat → Option Sh
  | s, [] => some s
  | s, k :: p => (s.kid k).bind (Sh.at · p)

def Sh.off : Sh → List Nat → Nat
  | _, [] => 0
  | s, k :: p => s.kidOff k + ((s.kid k).map (Sh.off · p)).getD 0

def D.get : D → List Nat → Option D
  | d, [] => some d
  | d, k :: p => (d.kid k).bind (D.get · p)

def D.put : D → List Nat → D → D
  | _, [], x => x
  | d, k :: p, x => match d.kid k with
    | some y => d.setKid k (D.put y p x)
    | none => d

theorem way_get {s : Sh} {d : D} {p : List Nat} {s' : Sh} (h : hasSh s d) (hp : s.at p = some s') :
    ∃ x, d.get p = some x ∧ hasSh s' x ∧ leaves d = (leaves d).take (s.off p) ++ leaves x ++ (leaves d).drop (s.off p + s'.size) ∧ s.off p + s'.size ≤ s.size := by
  induction p generalizing s d with
  | nil =>
    simp [Sh.at] at hp; subst hp
    refine ⟨d, rfl, h, ?_, by simp [Sh.off]⟩
    have := leaves_length h
    simp [Sh.off, ← this]
  | cons k p ih =>
    simp only [Sh.at, Option.bind_eq_some_iff] at hp
    obtain ⟨s1, hk, hp⟩ := hp
    obtain ⟨x, l, rfl, hx, hsx, hsp, hle⟩ := kid_split h hk
    obtain ⟨y, hy, hsy, hsp2, hle2⟩ := ih hsx hp
    have e1 := leaves_length hsx
    have e2 := leaves_length h
    have e3 := leaves_length hsy
    refine ⟨y, by simp [D.get, D.kid, hx, hy], hsy, ?_, ?_⟩
    · simp only [Sh.off, hk, Option.map_some, Option.getD_some]
      conv => lhs; rw [hsp, hsp2]
      have t1 : (leaves (.agg l)).take (s.kidOff k + s1.off p) = (leaves (.agg l)).take (s.kidOff k) ++ (leaves x).take (s1.off p) := by
        conv => lhs; rw [hsp]
        rw [List.append_assoc, List.take_append, List.take_append]
        rw [List.take_of_length_le (by rw [List.length_take]; omega)]
        rw [List.length_take, Nat.min_eq_left (by omega), Nat.add_sub_cancel_left]
        rw [show s1.off p - (leaves x).length = 0 by omega]
        simp
      have t2 : (leaves (.agg l)).drop (s.kidOff k + s1.off p + s'.size) = (leaves x).drop (s1.off p + s'.size) ++ (leaves (.agg l)).drop (s.kidOff k + s1.size) := by
        conv => lhs; rw [hsp]
        rw [List.append_assoc, List.drop_append, List.drop_append]
        rw [List.drop_eq_nil_of_le (by rw [List.length_take]; omega)]
        rw [List.length_take, Nat.min_eq_left (by omega)]
        rw [show s.kidOff k + s1.off p + s'.size - s.kidOff k = s1.off p + s'.size by omega]
        rw [show s1.off p + s'.size - (leaves x).length = 0 by omega]
        simp
      rw [t1, t2]
      simp [List.append_assoc]
    · simp only [Sh.off, hk, Option.map_some, Option.getD_some]; omega

theorem way_put {s : Sh} {d : D} {p : List Nat} {s' : Sh} (h : hasSh s d) (hp : s.at p = some s') (z : D) (hz : hasSh s' z) :
    hasSh s (d.put p z) ∧ leaves (d.put p z) = (leaves d).take (s.off p) ++ leaves z ++ (leaves d).drop (s.off p + s'.size) := by
  induction p generalizing s d with
  | nil =>
    simp [Sh.at] at hp; subst hp
    have := leaves_length h
    simp [Sh.off, D.put, hz, ← this]
  | cons k p ih =>
    simp only [Sh.at, Option.bind_eq_some_iff] at hp
    obtain ⟨s1, hk, hp⟩ := hp
    obtain ⟨x, l, rfl, hx, hsx, hsp, hle⟩ := kid_split h hk
    obtain ⟨i1, i2⟩ := ih hsx hp
    obtain ⟨y, hy, hsy, hsp2, hle2⟩ := way_get hsx hp
    obtain ⟨j1, j2⟩ := kid_set h hk _ i1
    have e1 := leaves_length hsx
    have e2 := leaves_length h
    have hput : (D.agg l).put (k :: p) z = (D.agg l).setKid k (x.put p z) := by simp [D.put, D.kid, hx]
    rw [hput]
    refine ⟨j1, ?_⟩
    rw [j2, i2]
    simp only [Sh.off, hk, Option.map_some, Option.getD_some]
    have t1 : (leaves (.agg l)).take (s.kidOff k + s1.off p) = (leaves (.agg l)).take (s.kidOff k) ++ (leaves x).take (s1.off p) := by
      conv => lhs; rw [hsp]
      rw [List.append_assoc, List.take_append, List.take_append]
      rw [List.take_of_length_le (by rw [List.length_take]; omega)]
      rw [List.length_take, Nat.min_eq_left (by omega), Nat.add_sub_cancel_left]
      rw [show s1.off p - (leaves x).length = 0 by omega]
      simp
    have t2 : (leaves (.agg l)).drop (s.kidOff k + s1.off p + s'.size) = (leaves x).drop (s1.off p + s'.size) ++ (leaves (.agg l)).drop (s.kidOff k + s1.size) := by
      conv => lhs; rw [hsp]
      rw [List.append_assoc, List.drop_append, List.drop_append]
      rw [List.drop_eq_nil_of_le (by rw [List.length_take]; omega)]
      rw [List.length_take, Nat.min_eq_left (by omega)]
      rw [show s.kidOff k + s1.off p + s'.size - s.kidOff k = s1.off p + s'.size by omega]
      rw [show s1.off p + s'.size - (leaves x).length = 0 by omega]
      simp
    rw [t1, t2]
    simp [List.append_assoc]

theorem Sh.at_append (s : Sh) (p : List Nat) (k : Nat) : s.at (p ++ [k]) = (s.at p).bind (·.kid k) := by
  induction p generalizing s with
  | nil => simp [Sh.at]
  | cons j p ih =>
    simp only [List.cons_append, Sh.at]
    cases s.kid j with
    | none => rfl
    | some s1 => simp [ih]

theorem Sh.off_append {s s1 : Sh} {p : List Nat} (k : Nat) (h : s.at p = some s1) : s.off (p ++ [k]) = s.off p + s1.kidOff k := by
  induction p generalizing s with
  | nil =>
    simp [Sh.at] at h; subst h
    simp [Sh.off]
    cases s.kid k <;> simp
  | cons j p ih =>
    simp only [Sh.at, Option.bind_eq_some_iff] at h
    obtain ⟨s2, h1, h2⟩ := h
    simp only [List.cons_append, Sh.off, h1, Option.map_some, Option.getD_some, ih h2]
    omega

end Go.Ab
