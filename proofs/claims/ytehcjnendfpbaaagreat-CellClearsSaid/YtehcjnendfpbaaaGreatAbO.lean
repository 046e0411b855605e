/- The table, held against the program by a closed look. Conditions: none. -/
import Derived.Test.YtehcjnendfpbaaaGreatAbNm
namespace Go.Ab

/-- Surely the same value, of those that a zero value's cells are. -/
def sameV : Value → Value → Bool
  | .bool a, .bool b => a == b
  | .int k a, .int j b => k == j && a == b
  | .string a, .string b => a.size == 0 && b.size == 0
  | .pointer none, .pointer none => true
  | .map none, .map none => true
  | .chan none, .chan none => true
  | .nilFunc, .nilFunc => true
  | .nilIface, .nilIface => true
  | _, _ => false

theorem sameV_eq {a b : Value} (h : sameV a b = true) : a = b := by
  unfold sameV at h
  split at h <;> first | rfl | (simp at h; done) | skip
  · simp at h; rw [h]
  · simp at h; rw [h.1, h.2]
  · simp only [Bool.and_eq_true, beq_iff_eq] at h
    rename_i x y
    have : x = y := by
      obtain ⟨h1, h2⟩ := h
      obtain ⟨x⟩ := x
      obtain ⟨y⟩ := y
      have e1 : x = #[] := Array.eq_empty_of_size_eq_zero h1
      have e2 : y = #[] := Array.eq_empty_of_size_eq_zero h2
      rw [e1, e2]
    rw [this]

def leafZ : Value → D → Bool
  | .slice none n m, .lst _ l t => n == 0 && m == 0 && l.isEmpty && (t == .full || t == .no)
  | v, .lit x => sameV v x
  | _, _ => false

def rowZ : List Value → List D → Bool
  | [], [] => true
  | c :: cs, d :: ds => leafZ c d && rowZ cs ds
  | _, _ => false

def zeroZ : Value → D → Bool
  | .agg cs, .agg l => rowZ cs.toList (leavesL l)
  | v, d => leafZ v d

theorem leafZ_vp {T : TypeId → Sh} {S : Nat → Nat → Option Value} {v : Value} {d : D} (h : leafZ v d = true) : VP T S v d := by
  unfold leafZ at h
  split at h
  · simp only [Bool.and_eq_true, beq_iff_eq, List.isEmpty_iff, Bool.or_eq_true] at h
    obtain ⟨⟨⟨rfl, rfl⟩, rfl⟩, h⟩ := h
    refine .nil ?_
    intro i e
    subst e
    simp at h
  · rw [sameV_eq h]; exact .lit _
  · cases h

theorem rowZ_all {T : TypeId → Sh} {S : Nat → Nat → Option Value} : ∀ {cs : List Value} {ds : List D}, rowZ cs ds = true → All2 (VP T S) cs ds
  | [], [], _ => All2.nil
  | [], _ :: _, h => by simp [rowZ] at h
  | _ :: _, [], h => by simp [rowZ] at h
  | c :: cs, d :: ds, h => by
    simp only [rowZ, Bool.and_eq_true] at h
    exact All2.cons (leafZ_vp h.1) (rowZ_all h.2)

theorem zeroZ_vp {T : TypeId → Sh} {S : Nat → Nat → Option Value} {v : Value} {d : D} (h : zeroZ v d = true) : VP T S v d := by
  unfold zeroZ at h
  split at h
  · rename_i cs l
    have := rowZ_all (T := T) (S := S) h
    have h2 := VP.agg (T := T) (S := S) (cs := cs.toList) (l := l) this.1 this.2
    simpa using h2
  · exact leafZ_vp h

def hasShB : Sh → D → Bool
  | .leaf, d => d.isLeaf
  | .obj _, d => d.isLeaf
  | .unit, .agg l => l.isEmpty
  | .pair a b, .agg l => match l with | x :: r => hasShB a x && hasShB b (.agg r) | [] => false
  | .arr n s, .agg l => l.length == n && l.all (hasShB s)
  | _, _ => false

theorem hasShB_has : ∀ {s : Sh} {d : D}, hasShB s d = true → hasSh s d := by
  intro s
  induction s with
  | leaf => intro d h; exact h
  | obj k => intro d h; exact h
  | unit => intro d h; cases d <;> simp [hasShB] at h; exact h
  | pair a b iha ihb =>
    intro d h
    cases d <;> simp only [hasShB] at h <;> first | (cases h; done) | skip
    rename_i l
    cases l with
    | nil => simp at h
    | cons x r => simp only [Bool.and_eq_true] at h; exact ⟨x, r, rfl, iha h.1, ihb h.2⟩
  | arr n s ih =>
    intro d h
    cases d <;> simp only [hasShB] at h <;> first | (cases h; done) | skip
    simp only [Bool.and_eq_true, beq_iff_eq, List.all_eq_true] at h
    exact ⟨h.1, fun x hx => ih (h.2 x hx)⟩

/-- A struct's fields, one by one. -/
def fieldsB (C : Tab) (t : TypeId) : Nat → List Field → List TypeId → Bool
  | _, [], [] => true
  | k, f :: fl, u :: us => f.type == u && f.offset == (C.sh t).kidOff k && (C.sh u).size != 0 && f.name != "_" && C.ty u != .bad && decide (C.dep u < C.dep t) && fieldsB C t (k + 1) fl us
  | _, _, _ => false

def descB (P : Program) (C : Tab) (t : TypeId) : Bool :=
  match C.ty t with
  | .bool => match P.underlying t with
    | some .bool => C.sh t == .leaf
    | _ => false
  | .str => match P.underlying t with
    | some .string => C.sh t == .leaf
    | _ => false
  | .int k => match P.underlying t with
    | some (.int k') => C.sh t == .leaf && k == k'
    | _ => false
  | .cell => match P.underlying t with
    | some d => C.sh t == .leaf && (match d with | .struct _ | .array _ _ | .slice _ | .interface _ => false | _ => true)
    | none => false
  | .map k e => match P.underlying t with
    | some (.map k' e') => C.sh t == .leaf && k == k' && e == e' && C.ty k != .bad && C.ty e != .bad
    | _ => false
  | .slice e => match P.underlying t with
    | some (.slice e') => C.sh t == .leaf && e == e' && C.ty e != .bad && (C.sh e).size != 0
    | _ => false
  | .arr n e => match P.underlying t with
    | some (.array n' e') => C.sh t == .arr n (C.sh e) && n == n' && e == e' && C.ty e != .bad && decide (C.dep e < C.dep t)
    | _ => false
  | .struct fs => match P.underlying t with
    | some (.struct fl) => C.sh t == Sh.ofList (fs.map C.sh) && !P.stoodInHeld t && fieldsB C t 0 fl.toList fs
    | _ => false
  | .bad => false

def fitsB (P : Program) (C : Tab) (t : TypeId) : Bool :=
  (match P.info? t with
    | some i => i.size == (C.sh t).size && i.bytes == C.bytes t && (match i.zero with | some z => zeroZ z (C.zero t) | none => false)
    | none => false) &&
  hasShB (C.sh t) (C.zero t) && decide (C.dep t < 9000) && (!(C.ty t).isAgg || !P.eqGuardType P.depth t) && descB P C t

theorem fieldsB_all {C : Tab} {t : TypeId} : ∀ {fl : List Field} {us : List TypeId} {k : Nat}, fieldsB C t k fl us = true → fl.length = us.length ∧
    ∀ (j : Nat) f, fl[j]? = some f → us[j]? = some f.type ∧ f.offset = (C.sh t).kidOff (k + j) ∧ (C.sh f.type).size ≠ 0 ∧ f.name ≠ "_" ∧ C.ty f.type ≠ .bad ∧ C.dep f.type < C.dep t
  | [], [], _, _ => ⟨rfl, by simp⟩
  | [], _ :: _, _, h => by simp [fieldsB] at h
  | _ :: _, [], _, h => by simp [fieldsB] at h
  | f :: fl, u :: us, k, h => by
    simp only [fieldsB, Bool.and_eq_true, beq_iff_eq, bne_iff_ne, decide_eq_true_eq] at h
    obtain ⟨⟨⟨⟨⟨⟨h1, h2⟩, h3⟩, h4⟩, h5⟩, h6⟩, h7⟩ := h
    obtain ⟨i1, i2⟩ := fieldsB_all h7
    refine ⟨by simp [i1], ?_⟩
    intro j g hg
    cases j with
    | zero =>
      simp at hg; subst hg
      exact ⟨by simp [h1], h2, by rw [h1]; exact h3, h4, by rw [h1]; exact h5, by rw [h1]; exact h6⟩
    | succ j =>
      have := i2 j g (by simpa using hg)
      rw [show k + (j + 1) = k + 1 + j by omega]
      simpa using this

theorem fitsB_fits {P : Program} {C : Tab} {t : TypeId} (h : fitsB P C t = true) : Fits P C t := by
  simp only [fitsB, Bool.and_eq_true, decide_eq_true_eq] at h
  obtain ⟨⟨⟨⟨h1, h2⟩, h3⟩, h4⟩, h5⟩ := h
  refine ⟨?_, hasShB_has h2, h3, ?_, ?_⟩
  · cases hi : P.info? t with
    | none => simp [hi] at h1
    | some i =>
      rw [hi] at h1
      simp only [Bool.and_eq_true, beq_iff_eq] at h1
      obtain ⟨⟨k1, k2⟩, k3⟩ := h1
      cases hz : i.zero with
      | none => simp [hz] at k3
      | some z =>
        rw [hz] at k3
        exact ⟨i, z, rfl, k1, k2, hz, fun S => zeroZ_vp k3⟩
  · intro ha
    rw [ha] at h4
    simpa using h4
  · unfold descB at h5
    cases hty : C.ty t <;> rw [hty] at h5 <;> simp only at h5 ⊢
    · cases h5
    · split at h5 <;> first | (cases h5; done) | skip
      rename_i hu
      exact ⟨by simpa using h5, hu⟩
    · split at h5 <;> first | (cases h5; done) | skip
      rename_i hu
      exact ⟨by simpa using h5, hu⟩
    · split at h5 <;> first | (cases h5; done) | skip
      rename_i d hu
      simp only [Bool.and_eq_true, beq_iff_eq] at h5
      exact ⟨h5.1, d, hu, h5.2⟩
    · split at h5 <;> first | (cases h5; done) | skip
      rename_i k' hu
      simp only [Bool.and_eq_true, beq_iff_eq] at h5
      exact ⟨h5.1, by rw [hu, h5.2]⟩
    · split at h5 <;> first | (cases h5; done) | skip
      rename_i e' hu
      simp only [Bool.and_eq_true, beq_iff_eq, bne_iff_ne] at h5
      obtain ⟨⟨⟨k1, k2⟩, k3⟩, k4⟩ := h5
      exact ⟨k1, by rw [hu, k2], k3, k4⟩
    · split at h5 <;> first | (cases h5; done) | skip
      rename_i n' e' hu
      simp only [Bool.and_eq_true, beq_iff_eq, bne_iff_ne, decide_eq_true_eq] at h5
      obtain ⟨⟨⟨⟨k1, k2⟩, k3⟩, k4⟩, k5⟩ := h5
      exact ⟨k1, by rw [hu, k2, k3], k4, k5⟩
    · split at h5 <;> first | (cases h5; done) | skip
      rename_i fl hu
      simp only [Bool.and_eq_true, beq_iff_eq, Bool.not_eq_true'] at h5
      obtain ⟨⟨k1, k2⟩, k3⟩ := h5
      obtain ⟨i1, i2⟩ := fieldsB_all k3
      refine ⟨k1, fl, hu, by simpa using i1, k2, ?_⟩
      intro k f hf
      have := i2 k f (by simpa using hf)
      simpa using this
    · split at h5 <;> first | (cases h5; done) | skip
      rename_i k' e' hu
      simp only [Bool.and_eq_true, beq_iff_eq, bne_iff_ne] at h5
      obtain ⟨⟨⟨⟨k1, k2⟩, k3⟩, k4⟩, k5⟩ := h5
      exact ⟨k1, by rw [hu, k2, k3], k4, k5⟩

theorem tabOk_of {P : Program} {C : Tab} (l : List TypeId) (h : l.all (fitsB P C) = true) (hb : ∀ t, t ∉ l → C.ty t = .bad) : TabOk P C := by
  intro t ht
  have hm : t ∈ l := Classical.byContradiction fun hn => ht (hb t hn)
  exact fitsB_fits (List.all_eq_true.1 h t hm)

/-- A table out of rows. -/
structure Row where
  t : TypeId
  ty : Ty
  sh : Sh
  zero : D
  bytes : Nat
  dep : Nat

def Tab.of (rows : List Row) : Tab where
  ty t := ((rows.find? (·.t == t)).map (·.ty)).getD .bad
  sh t := ((rows.find? (·.t == t)).map (·.sh)).getD .leaf
  zero t := ((rows.find? (·.t == t)).map (·.zero)).getD (.lit undef)
  bytes t := ((rows.find? (·.t == t)).map (·.bytes)).getD 0
  dep t := ((rows.find? (·.t == t)).map (·.dep)).getD 0

theorem tabOk_rows {P : Program} (rows : List Row) (h : (rows.map (·.t)).all (fitsB P (Tab.of rows)) = true) : TabOk P (Tab.of rows) := by
  refine tabOk_of _ h ?_
  intro t ht
  have : rows.find? (·.t == t) = none := by
    rw [List.find?_eq_none]
    intro x hx he
    exact ht (List.mem_map.2 ⟨x, hx, by simpa using he⟩)
  simp [Tab.of, this]

end Go.Ab
