/- A table of the types' shapes, and how variables of a type are read and written. Conditions: none. -/
import Derived.Test.YtehcjnendfpbaaaGreatAbB
namespace Go.Ab

inductive Ty where
  | bad | bool | str | cell
  | int (k : IntKind)
  | slice (e : TypeId)
  | arr (n : Nat) (e : TypeId)
  | struct (fs : List TypeId)
  | map (k e : TypeId)
  deriving DecidableEq

def Ty.isAgg : Ty → Bool
  | .arr _ _ | .struct _ => true
  | _ => false

structure Tab where
  ty : TypeId → Ty
  sh : TypeId → Sh
  zero : TypeId → D
  bytes : TypeId → Nat
  dep : TypeId → Nat

def Sh.ofList : List Sh → Sh
  | [] => .unit
  | a :: r => .pair a (Sh.ofList r)

/-- The table says of a type what the program says. -/
structure Fits (P : Program) (C : Tab) (t : TypeId) : Prop where
  info : ∃ i z, P.info? t = some i ∧ i.size = (C.sh t).size ∧ i.bytes = C.bytes t ∧ i.zero = some z ∧ ∀ S, VP C.sh S z (C.zero t)
  zsh : hasSh (C.sh t) (C.zero t)
  depLt : C.dep t < 9000
  guard : (C.ty t).isAgg = true → P.eqGuardType P.depth t = false
  desc : match C.ty t with
    | .bad => False
    | .bool => C.sh t = .leaf ∧ P.underlying t = some .bool
    | .str => C.sh t = .leaf ∧ P.underlying t = some .string
    | .int k => C.sh t = .leaf ∧ P.underlying t = some (.int k)
    | .cell => C.sh t = .leaf ∧ ∃ d, P.underlying t = some d ∧ (match d with | .struct _ | .array _ _ | .slice _ | .interface _ => false | _ => true) = true
    | .slice e => C.sh t = .leaf ∧ P.underlying t = some (.slice e) ∧ C.ty e ≠ .bad ∧ (C.sh e).size ≠ 0
    | .map k e => C.sh t = .leaf ∧ P.underlying t = some (.map k e) ∧ C.ty k ≠ .bad ∧ C.ty e ≠ .bad
    | .arr n e => C.sh t = .arr n (C.sh e) ∧ P.underlying t = some (.array n e) ∧ C.ty e ≠ .bad ∧ C.dep e < C.dep t
    | .struct fs => C.sh t = Sh.ofList (fs.map C.sh) ∧ ∃ flds, P.underlying t = some (.struct flds) ∧ flds.size = fs.length ∧ P.stoodInHeld t = false ∧
        ∀ (k : Nat) f, flds[k]? = some f → fs[k]? = some f.type ∧ f.offset = (C.sh t).kidOff k ∧ (C.sh f.type).size ≠ 0 ∧ f.name ≠ "_" ∧ C.ty f.type ≠ .bad ∧ C.dep f.type < C.dep t

def TabOk (P : Program) (C : Tab) : Prop := ∀ t, C.ty t ≠ .bad → Fits P C t

section
variable {P : Program} {C : Tab} {t : TypeId} (w : World)

theorem Fits.run_sizeOf (h : Fits P C t) : (sizeOf t).run P w = .ok (C.sh t).size w := by
  obtain ⟨i, z, hi, hs, _⟩ := h.info
  simp [sizeOf, typeInfo, hi, hs]

theorem Fits.run_zeroValue (h : Fits P C t) : ∃ z, (zeroValue t).run P w = .ok z w ∧ ∀ S, VP C.sh S z (C.zero t) := by
  obtain ⟨i, z, hi, _, _, hz, hv⟩ := h.info
  exact ⟨z, by simp [zeroValue, typeInfo, hi, hz], hv⟩

theorem Fits.agg_cases (h : Fits P C t) : (((C.ty t).isAgg = true ∧ ∀ w, (isAgg t).run P w = .ok true w) ∨ ((C.ty t).isAgg = false ∧ C.sh t = .leaf ∧ ∀ w, (isAgg t).run P w = .ok false w)) := by
  have hd := h.desc
  have key : ∀ {d : TypeDesc}, P.underlying t = some d → ∀ w, (isAgg t).run P w = .ok (match d with | .struct _ | .array _ _ => true | _ => false) w := by
    intro d hu w
    unfold isAgg
    rw [Sem.run_bind, run_underlying hu w]
    cases d <;> rfl
  cases ht : C.ty t with
  | bad => rw [ht] at hd; exact hd.elim
  | bool => rw [ht] at hd; exact .inr ⟨rfl, hd.1, fun w => key hd.2 w⟩
  | str => rw [ht] at hd; exact .inr ⟨rfl, hd.1, fun w => key hd.2 w⟩
  | int k => rw [ht] at hd; exact .inr ⟨rfl, hd.1, fun w => key hd.2 w⟩
  | cell =>
    rw [ht] at hd
    obtain ⟨h1, d, hu, hn⟩ := hd
    refine .inr ⟨rfl, h1, fun w => ?_⟩
    rw [key hu w]
    cases d <;> first | rfl | simp at hn
  | slice e => rw [ht] at hd; exact .inr ⟨rfl, hd.1, fun w => key hd.2.1 w⟩
  | map k e => rw [ht] at hd; exact .inr ⟨rfl, hd.1, fun w => key hd.2.1 w⟩
  | arr n e => rw [ht] at hd; exact .inl ⟨rfl, fun w => key hd.2.1 w⟩
  | struct fs =>
    rw [ht] at hd
    obtain ⟨_, flds, hu, _⟩ := hd
    exact .inl ⟨rfl, fun w => key hu w⟩

theorem Fits.sh_agg (h : Fits P C t) (ha : (C.ty t).isAgg = true) {d : D} (hs : hasSh (C.sh t) d) : ∃ l, d = .agg l := by
  have hd := h.desc
  cases ht : C.ty t with
  | arr n e =>
    rw [ht] at hd
    rw [hd.1] at hs
    cases d <;> simp [hasSh] at hs
    exact ⟨_, rfl⟩
  | struct fs =>
    rw [ht] at hd
    obtain ⟨h1, _⟩ := hd
    rw [h1] at hs
    cases hfs : fs.map C.sh with
    | nil => rw [hfs] at hs; cases d <;> simp [hasSh, Sh.ofList] at hs; exact ⟨_, rfl⟩
    | cons a r => rw [hfs] at hs; cases d <;> simp [hasSh, Sh.ofList] at hs; exact ⟨_, rfl⟩
  | _ => rw [ht] at ha; simp [Ty.isAgg] at ha

end

/-- A type's shape is one of cells. -/
theorem Fits.cellular {P : Program} {C : Tab} {t : TypeId} (h : Fits P C t) : (C.sh t).cellular = true := by
  have hd := h.desc
  cases ht : C.ty t with
  | bad => rw [ht] at hd; exact hd.elim
  | arr n e => rw [ht] at hd; rw [hd.1]; rfl
  | struct fs => rw [ht] at hd; rw [hd.1]; cases fs.map C.sh <;> rfl
  | _ => rw [ht] at hd; rw [hd.1]; rfl
theorem Sh.at_cellular {s s' : Sh} {p : List Nat} (h : s.at p = some s') (hc : s'.cellular = true) : s.cellular = true := by
  cases s with
  | obj k =>
    cases p with
    | nil => simp [Sh.at] at h; subst h; exact hc
    | cons => simp [Sh.at, Sh.kid] at h
  | _ => rfl

/-- The cells from an address on. -/
def Rd (w : World) (a : Addr) (cs : List Value) : Prop := ∀ (j : Nat) (v : Value), cs[j]? = some v → w.cell? (a.add j) = some v

theorem addr_add (a : Addr) (j : Nat) (h : a.spot = none) : a.add j = ⟨a.block, a.off + j, none⟩ := by
  unfold Addr.add
  split
  · rename_i hj; subst hj; cases a; simp at h; simp [h]
  · rfl

theorem rd_of_row {T : TypeId → Sh} {ρ : Env} {h : Heap} {w : World} (r : Real T ρ h w) {a : Addr} {cs : List Value} (hr : RowAt ρ.S a cs) : Rd w a cs := by
  intro j v hv
  obtain ⟨hs, hS⟩ := hr j v hv
  obtain ⟨c, e, fr, hb, hc⟩ := r.st _ _ _ hS
  rw [addr_add a j hs]
  simp [World.cell?, hb, hc]

theorem rd_of_block {w : World} {B : Nat} {c : Array Value} {e : TypeId} {fr : Nat × Nat} (hb : w.heap[B]? = some (.cells c e fr)) (o n : Nat) :
    Rd w ⟨B, o, none⟩ ((c.toList.drop o).take n) := by
  intro j v hv
  rw [addr_add _ j rfl]
  rw [List.getElem?_take] at hv
  split at hv
  · rw [List.getElem?_drop] at hv
    simp only [World.cell?, hb]
    simpa using hv
  · cases hv

theorem vv_cells {T : TypeId → Sh} {ρ : Env} {v : Value} {d : D} {s : Sh} (h : VV T ρ v d) (hs : hasSh s d) : All2 (VV T ρ) v.cells.toList (leaves d) := by
  have leaf : v.cells = #[v] → leaves d = [d] → All2 (VV T ρ) v.cells.toList (leaves d) := by
    intro h1 h2
    rw [h1, h2]
    exact All2.cons h All2.nil
  have isl : d.isLeaf = true → leaves d = [d] := leaves_of_isLeaf
  have hl : (∀ l, d ≠ .agg l) → d.isLeaf = true := by
    intro hn
    cases s with
    | leaf => exact hs
    | obj k => exact hs
    | _ => cases d <;> simp [hasSh] at hs hn
  cases h with
  | pure h =>
    cases h with
    | lit v =>
      have := hl (by simp)
      refine leaf ?_ (isl this)
      cases v <;> simp [D.isLeaf, Value.oneCell'] at this <;> rfl
    | agg h1 h2 =>
      refine ⟨by simpa [Value.cells, leaves] using h1, ?_⟩
      intro i c x hc hx
      simp only [Value.cells] at hc
      exact .pure (h2 i c x hc (by simpa [leaves] using hx))
    | nil => exact leaf rfl rfl
    | lst => exact leaf rfl rfl
    | ref => exact leaf rfl rfl
    | ifc => exact leaf rfl rfl
  | agg h1 h2 =>
    refine ⟨by simpa [Value.cells, leaves] using h1, ?_⟩
    intro i c x hc hx
    simp only [Value.cells] at hc
    exact h2 i c x hc (by simpa [leaves] using hx)
  | ownNil => exact leaf rfl rfl
  | own => exact leaf rfl rfl
  | ptr => exact leaf rfl rfl
  | fn => exact leaf rfl rfl
  | bnd => exact leaf rfl rfl
  | tup => exact absurd (hl (by simp)) (by simp [D.isLeaf])
  | mref => exact leaf rfl rfl
  | sl => exact leaf rfl rfl

theorem leaf_one {T : TypeId → Sh} {ρ : Env} {v : Value} {d : D} (h : VV T ρ v d) (hd : d.isLeaf = true) : v.oneCell' = true := by
  cases h with
  | pure h => cases h <;> first | rfl | exact hd | (simp [D.isLeaf] at hd)
  | _ => first | rfl | simp [D.isLeaf] at hd

theorem leaves_isLeaf {s : Sh} {d : D} (h : hasSh s d) : ∀ x ∈ leaves d, x.isLeaf = true := by
  induction s generalizing d with
  | leaf => intro x hx; rw [leaves_of_isLeaf h] at hx; simp at hx; subst hx; exact h
  | obj k => intro x hx; rw [leaves_of_isLeaf h] at hx; simp at hx; subst hx; exact h
  | unit => cases d <;> simp [hasSh] at h; subst h; simp [leaves, leavesL]
  | pair a b iha ihb =>
    cases d <;> simp [hasSh] at h
    obtain ⟨x, r, rfl, hx, hr⟩ := h
    intro y hy
    simp only [leaves, leavesL, List.mem_append] at hy
    rcases hy with hy | hy
    · exact iha hx y hy
    · exact ihb hr y (by simpa [leaves] using hy)
  | arr n s ih =>
    cases d <;> simp [hasSh] at h
    obtain ⟨_, h⟩ := h
    intro y hy
    simp only [leaves, leavesL_flatMap, List.mem_flatMap] at hy
    obtain ⟨x, hx, hy⟩ := hy
    exact ih (h x hx) y hy

theorem cells_one {T : TypeId → Sh} {ρ : Env} {s : Sh} {d : D} {cs : List Value} (hs : hasSh s d) (h : All2 (VV T ρ) cs (leaves d)) : ∀ v ∈ cs, v.oneCell' = true := by
  intro v hv
  obtain ⟨i, hi, rfl⟩ := List.getElem_of_mem hv
  have hi' : i < (leaves d).length := by rw [← h.1]; exact hi
  exact leaf_one (h.2 i _ _ (List.getElem?_eq_getElem hi) (List.getElem?_eq_getElem hi')) (leaves_isLeaf hs _ (List.getElem_mem hi'))

/-- A variable is read. -/
theorem run_loadVar {P : Program} {C : Tab} {t : TypeId} {ρ : Env} {w : World} (hf : Fits P C t) {a : Addr} {cs : List Value} {d : D} (hs : hasSh (C.sh t) d) (hr : Rd w a cs)
    (ha : All2 (VV C.sh ρ) cs (leaves d)) : ∃ v, (loadVar t a).run P w = .ok v w ∧ VV C.sh ρ v d := by
  have hlen : cs.length = (C.sh t).size := by rw [ha.1]; exact leaves_length hs
  rcases hf.agg_cases with ⟨h1, h2⟩ | ⟨h1, h2, h3⟩
  · obtain ⟨l, rfl⟩ := hf.sh_agg h1 hs
    refine ⟨.agg cs.toArray, ?_, .agg (by simpa [leaves] using ha.1) (fun i c d hc hd => ha.2 i c d hc (by simpa [leaves] using hd))⟩
    have := run_loadCells_list (P := P) w a cs hr
    rw [hlen] at this
    simp [loadVar, h2, hf.run_sizeOf, this]
  · rw [h2] at hlen hs
    have hl := leaves_of_isLeaf hs
    rw [hl] at ha
    cases cs with
    | nil => simp [Sh.size] at hlen
    | cons c r =>
      have hc := hr 0 c rfl
      have he : a.add 0 = a := by simp [Addr.add]
      rw [he] at hc
      exact ⟨c, by simp [loadVar, h3, hc], ha.head.1⟩

/-- A variable is written: the cells of a block that is not frozen. -/
theorem run_storeVar {P : Program} {C : Tab} {t : TypeId} {T : TypeId → Sh} {ρ : Env} {w : World} (hf : Fits P C t) {B o : Nat} {c : Array Value} {e : TypeId} {v : Value} {d : D} (hs : hasSh (C.sh t) d)
    (hv : VV T ρ v d) (hb : w.heap[B]? = some (.cells c e (0, 0))) (hfit : o + (C.sh t).size ≤ c.size) :
    (storeVar t ⟨B, o, none⟩ v).run P w = .ok () (w.setRow B (c.toList.take o ++ v.cells.toList ++ c.toList.drop (o + (C.sh t).size)).toArray) := by
  have ha := vv_cells hv hs
  have hlen : v.cells.size = (C.sh t).size := by rw [← Array.length_toList, ha.1]; exact leaves_length hs
  have hst := run_storeCells_at P B o e v.cells.toList 0 c w hb (by rw [Array.length_toList, hlen]; omega) (cells_one hs ha)
  simp only [Nat.add_zero, Array.length_toList, hlen] at hst
  simp [storeVar, hf.run_sizeOf, hlen, hst]

end Go.Ab
