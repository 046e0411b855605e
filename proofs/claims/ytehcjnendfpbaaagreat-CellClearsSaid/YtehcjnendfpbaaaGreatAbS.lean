/- Steps: each operation, where its state is at hand. Conditions: none. -/
import Derived.Test.YtehcjnendfpbaaaGreatAbQ
namespace Go.Ab
section
variable {P : Program} {C : Tab}

/-- An operation that gives one datum. -/
def next1 (x : Option D) (K : St → Prop) (dst : Option Tmp) (ts : List D) (h : Heap) : Prop :=
  match x with
  | some d => K (St.put ⟨ts, h⟩ dst d)
  | none => False

theorem next1_some (d : D) (K : St → Prop) (t : Tmp) (ts : List D) (h : Heap) : next1 (some d) K (some t) ts h = K ⟨ts.set t d, h⟩ := Eq.trans rfl rfl

theorem put_some (ts : List D) (h : Heap) (t : Tmp) (d : D) : St.put ⟨ts, h⟩ (some t) d = ⟨ts.set t d, h⟩ := Eq.trans rfl rfl
theorem put_none (ts : List D) (h : Heap) (d : D) : St.put ⟨ts, h⟩ none d = ⟨ts, h⟩ := Eq.trans rfl rfl

theorem ev_tmp (ts : List D) (h : Heap) (t : Tmp) : St.ev ⟨ts, h⟩ (.tmp t) = ts.getD t (.lit undef) := Eq.trans rfl rfl
theorem ev_const (ts : List D) (h : Heap) (v : Value) : St.ev ⟨ts, h⟩ (.const v) = .lit v := Eq.trans rfl rfl
theorem ev_func (ts : List D) (h : Heap) (f : FuncId) : St.ev ⟨ts, h⟩ (.func f) = .lit (.func (.func f) #[] #[]) := Eq.trans rfl rfl

/-- A call, its contract to be shown. -/
structure callK (P : Program) (C : Tab) (g : FuncId) (args : List D) (K : St → Prop) (dst : Option Tmp) (ts : List D) (h : Heap) : Prop where
  is : (∃ R, ASpec P C g args h R ∧ ∀ r h', R r h' → K (St.put ⟨ts, h'⟩ dst r)) ∨ ∃ R, XSpec P C g args h R ∧ ∀ r h', R r h' → K (St.put ⟨ts, h'⟩ dst r)
theorem callK_a {g : FuncId} {args : List D} {K : St → Prop} {dst : Option Tmp} {ts : List D} {h : Heap} {R : D → Heap → Prop} (hs : ASpec P C g args h R) (hk : ∀ r h', R r h' → K (St.put ⟨ts, h'⟩ dst r)) : callK P C g args K dst ts h := ⟨.inl ⟨R, hs, hk⟩⟩
theorem callK_x {g : FuncId} {args : List D} {K : St → Prop} {dst : Option Tmp} {ts : List D} {h : Heap} {R : D → Heap → Prop} (hs : XSpec P C g args h R) (hk : ∀ r h', R r h' → K (St.put ⟨ts, h'⟩ dst r)) : callK P C g args K dst ts h := ⟨.inr ⟨R, hs, hk⟩⟩
theorem callK_eq (P : Program) (C : Tab) (g : FuncId) (args : List D) (K : St → Prop) (dst : Option Tmp) (ts : List D) (h : Heap) : callK P C g args K dst ts h =
    ((∃ R, ASpec P C g args h R ∧ ∀ r h', R r h' → K (St.put ⟨ts, h'⟩ dst r)) ∨ ∃ R, XSpec P C g args h R ∧ ∀ r h', R r h' → K (St.put ⟨ts, h'⟩ dst r)) := propext ⟨fun x => x.is, fun x => ⟨x⟩⟩

/-- A call where the order is open: its answer must be one. -/
def callD (P : Program) (C : Tab) (g : FuncId) (args : List D) (K : St → Prop) (dst : Option Tmp) (ts : List D) (h : Heap) : Prop :=
  ∃ c, MSpec P C g args h c ∧ K (St.put ⟨ts, h⟩ dst c)

theorem callK_pure {g : FuncId} {args args' : List D} {K : St → Prop} {dst : Option Tmp} {ts : List D} {h : Heap} {c : D} (hs : PSpec P C g args' (· = c)) (ha : args.map erase = args') (hp : pureL args')
    (hk : K (St.put ⟨ts, h⟩ dst c)) : callK P C g args K dst ts h :=
  callK_a (hs.call h ha hp) (by rintro r h' ⟨rfl, rfl⟩; exact hk)


theorem callD_pure {g : FuncId} {args args' : List D} {K : St → Prop} {dst : Option Tmp} {ts : List D} {h : Heap} {c : D} (hs : PSpec P C g args' (· = c)) (ha : args.map erase = args') (hp : pureL args')
    (hk : K (St.put ⟨ts, h⟩ dst c)) : callD P C g args K dst ts h := ⟨c, fun h' _ => hs.call h' ha hp, hk⟩

/-- A guarded operation. -/
def guardK (y : Option Bool) (w : Bool) (A B : St → Prop) (s : St) : Prop := if y = some w then A s else B s

theorem guardK_tt (A B : St → Prop) (s : St) : guardK (some true) true A B s = A s := by simp [guardK]
theorem guardK_tf (A B : St → Prop) (s : St) : guardK (some true) false A B s = B s := by simp [guardK]
theorem guardK_ft (A B : St → Prop) (s : St) : guardK (some false) true A B s = B s := by simp [guardK]
theorem guardK_ff (A B : St → Prop) (s : St) : guardK (some false) false A B s = A s := by simp [guardK]
theorem guardK_no (w : Bool) (A B : St → Prop) (s : St) : guardK none w A B s = B s := by simp [guardK]
theorem guardK_split {b w : Bool} {A B : St → Prop} {s : St} (h1 : b = true → guardK (some true) w A B s) (h2 : b = false → guardK (some false) w A B s) : guardK (some b) w A B s := by
  cases b
  · exact h2 rfl
  · exact h1 rfl

def skipTo (P : Program) (C : Tab) (ops : Array Oper) (Q : St → Prop) (r : List Oper) (dst : Option Tmp) (s : St) : Prop := aops P C ops Q r (s.put dst (.lit undef))
def skipToD (P : Program) (C : Tab) (ops : Array Oper) (Q : St → Prop) (r : List Oper) (dst : Option Tmp) (s : St) : Prop := aopsD P C ops Q r (s.put dst (.lit undef))

theorem skipTo_at (ops : Array Oper) (Q : St → Prop) (r : List Oper) (t : Tmp) (ts : List D) (h : Heap) : skipTo P C ops Q r (some t) ⟨ts, h⟩ = aops P C ops Q r ⟨ts.set t (.lit undef), h⟩ := Eq.trans rfl rfl
theorem skipToD_at (ops : Array Oper) (Q : St → Prop) (r : List Oper) (t : Tmp) (ts : List D) (h : Heap) : skipToD P C ops Q r (some t) ⟨ts, h⟩ = aopsD P C ops Q r ⟨ts.set t (.lit undef), h⟩ := Eq.trans rfl rfl

theorem aops_nil (ops : Array Oper) (Q : St → Prop) (ts : List D) (h : Heap) : aops P C ops Q [] ⟨ts, h⟩ = Q ⟨ts, h⟩ := Eq.trans rfl rfl
theorem aopsD_nil (ops : Array Oper) (Q : St → Prop) (ts : List D) (h : Heap) : aopsD P C ops Q [] ⟨ts, h⟩ = Q ⟨ts, h⟩ := Eq.trans rfl rfl

theorem aops_cons (ops : Array Oper) (Q : St → Prop) (dst : Option Tmp) (op : Op) (ty : TypeId) (pos : String) (after : Array Edge) (r : List Oper) (ts : List D) (h : Heap) :
    aops P C ops Q (⟨dst, op, ty, pos, after, none⟩ :: r) ⟨ts, h⟩ = aop P C ⟨dst, op, ty, pos, after, none⟩ (aops P C ops Q r) ⟨ts, h⟩ := by simp [aops, Region.wanted]
theorem aopsD_cons (ops : Array Oper) (Q : St → Prop) (dst : Option Tmp) (op : Op) (ty : TypeId) (pos : String) (after : Array Edge) (r : List Oper) (ts : List D) (h : Heap) :
    aopsD P C ops Q (⟨dst, op, ty, pos, after, none⟩ :: r) ⟨ts, h⟩ = aopD P C ⟨dst, op, ty, pos, after, none⟩ (aopsD P C ops Q r) ⟨ts, h⟩ := by simp [aopsD, Region.wanted]
theorem aops_guard (ops : Array Oper) (Q : St → Prop) (dst : Option Tmp) (op : Op) (ty : TypeId) (pos : String) (after : Array Edge) (j : Nat) (w : Bool) (r : List Oper) (ts : List D) (h : Heap) :
    aops P C ops Q (⟨dst, op, ty, pos, after, some (j, w)⟩ :: r) ⟨ts, h⟩ = guardK (yieldedD ops ts j) w (aop P C ⟨dst, op, ty, pos, after, some (j, w)⟩ (aops P C ops Q r)) (skipTo P C ops Q r dst) ⟨ts, h⟩ := by
  simp only [aops, Region.wanted, guardK, skipTo]
  by_cases hy : yieldedD ops ts j = some w <;> simp [hy]
theorem aopsD_guard (ops : Array Oper) (Q : St → Prop) (dst : Option Tmp) (op : Op) (ty : TypeId) (pos : String) (after : Array Edge) (j : Nat) (w : Bool) (r : List Oper) (ts : List D) (h : Heap) :
    aopsD P C ops Q (⟨dst, op, ty, pos, after, some (j, w)⟩ :: r) ⟨ts, h⟩ = guardK (yieldedD ops ts j) w (aopD P C ⟨dst, op, ty, pos, after, some (j, w)⟩ (aopsD P C ops Q r)) (skipToD P C ops Q r dst) ⟨ts, h⟩ := by
  simp only [aopsD, Region.wanted, guardK, skipToD]
  by_cases hy : yieldedD ops ts j = some w <;> simp [hy]

/-- What a slot yields for a guard. -/
def yieldB : Option D → Option Bool
  | some (.lit (.bool b)) => some b
  | _ => none
theorem yieldB_bool (b : Bool) : yieldB (some (.lit (.bool b))) = some b := Eq.trans rfl rfl
theorem yieldB_undef : yieldB (some (.lit undef)) = none := Eq.trans rfl rfl
def yieldAt (dst : Option Tmp) (ts : List D) : Option Bool :=
  match dst with
  | some t => yieldB ts[t]?
  | none => none
theorem yieldAt_some (t : Tmp) (ts : List D) : yieldAt (some t) ts = yieldB ts[t]? := Eq.trans rfl rfl
def dstO : Option Oper → Option Tmp
  | some o => o.dst
  | none => none
theorem yieldedD_at (l : List Oper) (ts : List D) (j : Nat) : yieldedD l.toArray ts j = yieldAt (dstO l[j]?) ts := by
  unfold yieldedD yieldAt
  cases h : l[j]? with
  | none => simp [h, dstO]
  | some o =>
    simp only [List.getElem?_toArray, h, Option.bind_some, dstO]
    cases o.dst with
    | none => rfl
    | some t =>
      simp only [Option.bind_some]
      cases ts[t]? with
      | none => rfl
      | some d =>
        unfold yieldB
        cases d with
        | lit v => cases v <;> rfl
        | _ => rfl

section ops
variable (K : St → Prop) (dst : Option Tmp) (ty : TypeId) (pos : String) (after : Array Edge) (g : Option (Nat × Bool)) (ts : List D) (h : Heap)

theorem aop_aeval {o : Oper} (hc : calleeOf P C o ⟨ts, h⟩ = none) (he : ∀ r h', eff C o (St.ev ⟨ts, h⟩) h r h' ↔ aeval C o (St.ev ⟨ts, h⟩) h = some r ∧ h' = h) (hN : ∀ R, effN C o (St.ev ⟨ts, h⟩) h R = False := by intro R; rfl) :
    aop P C o K ⟨ts, h⟩ = next1 (aeval C o (St.ev ⟨ts, h⟩) h) K o.dst ts h ∧ aopD P C o K ⟨ts, h⟩ = next1 (aeval C o (St.ev ⟨ts, h⟩) h) K o.dst ts h := by
  have main : (∃ r h', eff C o (St.ev ⟨ts, h⟩) h r h' ∧ K (St.put ⟨ts, h'⟩ o.dst r)) = next1 (aeval C o (St.ev ⟨ts, h⟩) h) K o.dst ts h := by
    apply propext
    constructor
    · rintro ⟨r, h', h1, h2⟩
      obtain ⟨h3, rfl⟩ := (he r h').1 h1
      rw [h3]; exact h2
    · intro h1
      cases ha : aeval C o (St.ev ⟨ts, h⟩) h with
      | none => rw [ha] at h1; exact h1.elim
      | some r => rw [ha] at h1; exact ⟨r, h, (he r h).2 ⟨ha, rfl⟩, h1⟩
  refine ⟨?_, ?_⟩
  · unfold aop; rw [hc]; simp only [hN, or_false]; exact main
  · unfold aopD; rw [hc]; exact main

theorem aop_move (x : Operand) : aop P C ⟨dst, .move x, ty, pos, after, g⟩ K ⟨ts, h⟩ = next1 (some (nrm C ty (St.ev ⟨ts, h⟩ x))) K dst ts h := (aop_aeval K ts h rfl (fun _ _ => Iff.rfl)).1
theorem aopD_move (x : Operand) : aopD P C ⟨dst, .move x, ty, pos, after, g⟩ K ⟨ts, h⟩ = next1 (some (nrm C ty (St.ev ⟨ts, h⟩ x))) K dst ts h := (aop_aeval K ts h rfl (fun _ _ => Iff.rfl)).2
theorem aop_assign (x : Operand) : aop P C ⟨dst, .assign x, ty, pos, after, g⟩ K ⟨ts, h⟩ = next1 (some (nrm C ty (St.ev ⟨ts, h⟩ x))) K dst ts h := (aop_aeval K ts h rfl (fun _ _ => Iff.rfl)).1
theorem aopD_assign (x : Operand) : aopD P C ⟨dst, .assign x, ty, pos, after, g⟩ K ⟨ts, h⟩ = next1 (some (nrm C ty (St.ev ⟨ts, h⟩ x))) K dst ts h := (aop_aeval K ts h rfl (fun _ _ => Iff.rfl)).2

def pickD (c a b : D) : Option D :=
  match c with
  | .lit (.bool t) => some (if t then a else b)
  | _ => none
theorem pickD_b (t : Bool) (a b : Value) : pickD (.lit (.bool t)) (.lit a) (.lit b) = some (.lit (if t then a else b)) := by cases t <;> rfl
theorem aop_pick (c a b : Operand) : aop P C ⟨dst, .pick c a b, ty, pos, after, g⟩ K ⟨ts, h⟩ = next1 (pickD (St.ev ⟨ts, h⟩ c) (St.ev ⟨ts, h⟩ a) (St.ev ⟨ts, h⟩ b)) K dst ts h :=
  (aop_aeval K ts h rfl (fun _ _ => Iff.rfl)).1
theorem aopD_pick (c a b : Operand) : aopD P C ⟨dst, .pick c a b, ty, pos, after, g⟩ K ⟨ts, h⟩ = next1 (pickD (St.ev ⟨ts, h⟩ c) (St.ev ⟨ts, h⟩ a) (St.ev ⟨ts, h⟩ b)) K dst ts h :=
  (aop_aeval K ts h rfl (fun _ _ => Iff.rfl)).2

theorem aop_load (t : TypeId) (x : Operand) : aop P C ⟨dst, .load t x, ty, pos, after, g⟩ K ⟨ts, h⟩ = next1 (loadD C h t (St.ev ⟨ts, h⟩ x)) K dst ts h := (aop_aeval K ts h rfl (fun _ _ => Iff.rfl)).1
theorem aopD_load (t : TypeId) (x : Operand) : aopD P C ⟨dst, .load t x, ty, pos, after, g⟩ K ⟨ts, h⟩ = next1 (loadD C h t (St.ev ⟨ts, h⟩ x)) K dst ts h := (aop_aeval K ts h rfl (fun _ _ => Iff.rfl)).2

def nilD : D → Option D
  | .ptr b p => some (.ptr b p)
  | .ref s d => some (.ref s d)
  | .fn (.func f) l => some (.fn (.func f) l)
  | _ => none
theorem aop_nilCheck (x : Operand) : aop P C ⟨dst, .nilCheck x, ty, pos, after, g⟩ K ⟨ts, h⟩ = next1 (nilD (St.ev ⟨ts, h⟩ x)) K dst ts h := (aop_aeval K ts h rfl (fun _ _ => Iff.rfl)).1
theorem aopD_nilCheck (x : Operand) : aopD P C ⟨dst, .nilCheck x, ty, pos, after, g⟩ K ⟨ts, h⟩ = next1 (nilD (St.ev ⟨ts, h⟩ x)) K dst ts h := (aop_aeval K ts h rfl (fun _ _ => Iff.rfl)).2

theorem aop_binOp_t (op : BinOp) (t t' : TypeId) (x : Operand) (j : Tmp) : aop P C ⟨dst, .binOp op t x (.tmp j) t', ty, pos, after, g⟩ K ⟨ts, h⟩ = next1 (binD C op t (St.ev ⟨ts, h⟩ x) (St.ev ⟨ts, h⟩ (.tmp j))) K dst ts h := (aop_aeval K ts h rfl (fun _ _ => Iff.rfl)).1
theorem aopD_binOp_t (op : BinOp) (t t' : TypeId) (x : Operand) (j : Tmp) : aopD P C ⟨dst, .binOp op t x (.tmp j) t', ty, pos, after, g⟩ K ⟨ts, h⟩ = next1 (binD C op t (St.ev ⟨ts, h⟩ x) (St.ev ⟨ts, h⟩ (.tmp j))) K dst ts h := (aop_aeval K ts h rfl (fun _ _ => Iff.rfl)).2
theorem aop_binOp_i (op : BinOp) (t t' : TypeId) (x : Operand) (k : IntKind) (n : Int) : aop P C ⟨dst, .binOp op t x (.const (.int k n)) t', ty, pos, after, g⟩ K ⟨ts, h⟩ = next1 (binD C op t (St.ev ⟨ts, h⟩ x) (St.ev ⟨ts, h⟩ (.const (.int k n)))) K dst ts h := (aop_aeval K ts h rfl (fun _ _ => Iff.rfl)).1
theorem aopD_binOp_i (op : BinOp) (t t' : TypeId) (x : Operand) (k : IntKind) (n : Int) : aopD P C ⟨dst, .binOp op t x (.const (.int k n)) t', ty, pos, after, g⟩ K ⟨ts, h⟩ = next1 (binD C op t (St.ev ⟨ts, h⟩ x) (St.ev ⟨ts, h⟩ (.const (.int k n)))) K dst ts h := (aop_aeval K ts h rfl (fun _ _ => Iff.rfl)).2
theorem aop_nilcmp (op : BinOp) (t t' : TypeId) (x : Operand) (hk : nilN C op t h (nrm C t (St.ev ⟨ts, h⟩ x)) fun r h' => K (St.put ⟨ts, h'⟩ dst r)) : aop P C ⟨dst, .binOp op t x (.const (.slice none 0 0)) t', ty, pos, after, g⟩ K ⟨ts, h⟩ :=
  Or.inr hk
theorem aop_unOp (op : UnOp) (t : TypeId) (x : Operand) : aop P C ⟨dst, .unOp op t x, ty, pos, after, g⟩ K ⟨ts, h⟩ = next1 (unD op (St.ev ⟨ts, h⟩ x)) K dst ts h := (aop_aeval K ts h rfl (fun _ _ => Iff.rfl)).1
theorem aopD_unOp (op : UnOp) (t : TypeId) (x : Operand) : aopD P C ⟨dst, .unOp op t x, ty, pos, after, g⟩ K ⟨ts, h⟩ = next1 (unD op (St.ev ⟨ts, h⟩ x)) K dst ts h := (aop_aeval K ts h rfl (fun _ _ => Iff.rfl)).2


theorem aop_makeFunc (f : Fn) (caps : Array Operand) : aop P C ⟨dst, .makeFunc f #[] caps, ty, pos, after, g⟩ K ⟨ts, h⟩ = next1 (some (.fn f (caps.toList.map (St.ev ⟨ts, h⟩)))) K dst ts h := by
  have := (aop_aeval (P := P) (C := C) (o := ⟨dst, .makeFunc f #[] caps, ty, pos, after, g⟩) K ts h rfl (fun _ _ => Iff.rfl)).1
  rw [this]; simp [aeval]


theorem aop_assert (x : Operand) (t' t : TypeId) (ok : Bool) : aop P C ⟨dst, .typeAssert x t' t ok, ty, pos, after, g⟩ K ⟨ts, h⟩ = next1 (assertD C t ok (St.ev ⟨ts, h⟩ x)) K dst ts h := (aop_aeval K ts h rfl (fun _ _ => Iff.rfl)).1
theorem assert_ifc (u t : TypeId) (ok : Bool) (d : D) (ht : (C.ty t ≠ .bad) = True) : assertD C t ok (.ifc u d) = if u = t then some (if ok then .tup [d, .bool true] else d) else if ok then some (.tup [C.zero t, .bool false]) else none := by
  simp only [assertD, if_pos (of_eq_true ht)]
open Classical in
noncomputable def ifaceK (C : Tab) (t : TypeId) (x : D) : Option D := if C.ty t ≠ .bad ∧ pureD (nrm C t x) then some (.ifc t (nrm C t x)) else none
theorem aop_iface (t : TypeId) (x : Operand) : aop P C ⟨dst, .makeInterface t x, ty, pos, after, g⟩ K ⟨ts, h⟩ = next1 (ifaceK C t (St.ev ⟨ts, h⟩ x)) K dst ts h := (aop_aeval K ts h rfl (fun _ _ => Iff.rfl)).1

open Classical in
noncomputable def buildK (C : Tab) (t : TypeId) (e : Operand → D) (l : List (Nat × Operand)) : Option D := if C.ty t ≠ .bad ∧ (C.ty t).isAgg = true ∧ partsOk C t e l then some (partsIn C t e l (C.zero t)) else none
theorem aop_build (t : TypeId) (parts : Array (Nat × Operand)) : aop P C ⟨dst, .build t parts, ty, pos, after, g⟩ K ⟨ts, h⟩ = next1 (buildK C t (St.ev ⟨ts, h⟩) parts.toList) K dst ts h := (aop_aeval K ts h rfl (fun _ _ => Iff.rfl)).1
theorem aopD_build (t : TypeId) (parts : Array (Nat × Operand)) : aopD P C ⟨dst, .build t parts, ty, pos, after, g⟩ K ⟨ts, h⟩ = next1 (buildK C t (St.ev ⟨ts, h⟩) parts.toList) K dst ts h := (aop_aeval K ts h rfl (fun _ _ => Iff.rfl)).2

open Classical in
noncomputable def bsliceK (C : Tab) (u : Ty) (n : Nat) (e : Operand → D) (l : List (Nat × Operand)) : Option D :=
  match u with
  | .slice u => if n * (C.sh u).size ≤ 16777216 ∧ pureD (C.zero u) ∧ elemsOk C u n e l then some (.lst u (elemsIn C u e l (List.replicate n (C.zero u))) .full) else none
  | _ => none
open Classical in
theorem bsliceK_slice (u : TypeId) (n : Nat) (e : Operand → D) (l : List (Nat × Operand)) : bsliceK C (.slice u) n e l =
    if n * (C.sh u).size ≤ 16777216 ∧ pureD (C.zero u) ∧ elemsOk C u n e l then some (.lst u (elemsIn C u e l (List.replicate n (C.zero u))) .full) else none := Eq.trans rfl rfl
theorem aop_buildSlice (t : TypeId) (n : Nat) (parts : Array (Nat × Operand)) : aop P C ⟨dst, .buildSlice t n parts, ty, pos, after, g⟩ K ⟨ts, h⟩ = next1 (bsliceK C (C.ty t) n (St.ev ⟨ts, h⟩) parts.toList) K dst ts h :=
  (aop_aeval K ts h rfl (fun _ _ => Iff.rfl)).1
theorem aopD_buildSlice (t : TypeId) (n : Nat) (parts : Array (Nat × Operand)) : aopD P C ⟨dst, .buildSlice t n parts, ty, pos, after, g⟩ K ⟨ts, h⟩ = next1 (bsliceK C (C.ty t) n (St.ev ⟨ts, h⟩) parts.toList) K dst ts h :=
  (aop_aeval K ts h rfl (fun _ _ => Iff.rfl)).2

def ifStruct (u : Ty) (x : Option D) : Option D :=
  match u with
  | .struct _ => x
  | _ => none
theorem ifStruct_struct (fs : List TypeId) (x : Option D) : ifStruct (.struct fs) x = x := Eq.trans rfl rfl
theorem aop_fieldAddr (t : TypeId) (x : Operand) (k : Nat) : aop P C ⟨dst, .fieldAddr t x k, ty, pos, after, g⟩ K ⟨ts, h⟩ = next1 (ifStruct (C.ty t) (stepD C h t k (St.ev ⟨ts, h⟩ x))) K dst ts h := (aop_aeval K ts h rfl (fun _ _ => Iff.rfl)).1
theorem aopD_fieldAddr (t : TypeId) (x : Operand) (k : Nat) : aopD P C ⟨dst, .fieldAddr t x k, ty, pos, after, g⟩ K ⟨ts, h⟩ = next1 (ifStruct (C.ty t) (stepD C h t k (St.ev ⟨ts, h⟩ x))) K dst ts h := (aop_aeval K ts h rfl (fun _ _ => Iff.rfl)).2
theorem aop_field (t : TypeId) (x : Operand) (k : Nat) : aop P C ⟨dst, .field t x k, ty, pos, after, g⟩ K ⟨ts, h⟩ = next1 (ifStruct (C.ty t) (fieldD C t k (St.ev ⟨ts, h⟩ x))) K dst ts h := (aop_aeval K ts h rfl (fun _ _ => Iff.rfl)).1
theorem aop_indexAddr (t : TypeId) (x i : Operand) : aop P C ⟨dst, .indexAddr t x i, ty, pos, after, g⟩ K ⟨ts, h⟩ = next1 (indexAddrD C h t (nrm C t (St.ev ⟨ts, h⟩ x)) (St.ev ⟨ts, h⟩ i)) K dst ts h := (aop_aeval K ts h rfl (fun _ _ => Iff.rfl)).1
theorem aopD_indexAddr (t : TypeId) (x i : Operand) : aopD P C ⟨dst, .indexAddr t x i, ty, pos, after, g⟩ K ⟨ts, h⟩ = next1 (indexAddrD C h t (nrm C t (St.ev ⟨ts, h⟩ x)) (St.ev ⟨ts, h⟩ i)) K dst ts h := (aop_aeval K ts h rfl (fun _ _ => Iff.rfl)).2
theorem aop_slice (t : TypeId) (x : Operand) (lo hi mx : Option Operand) : aop P C ⟨dst, .slice t x lo hi mx, ty, pos, after, g⟩ K ⟨ts, h⟩ = next1 (sliceD C t (nrm C t (St.ev ⟨ts, h⟩ x)) (lo.map (St.ev ⟨ts, h⟩)) (hi.map (St.ev ⟨ts, h⟩)) (mx.map (St.ev ⟨ts, h⟩))) K dst ts h := (aop_aeval K ts h rfl (fun _ _ => Iff.rfl)).1
theorem aopD_slice (t : TypeId) (x : Operand) (lo hi mx : Option Operand) : aopD P C ⟨dst, .slice t x lo hi mx, ty, pos, after, g⟩ K ⟨ts, h⟩ = next1 (sliceD C t (nrm C t (St.ev ⟨ts, h⟩ x)) (lo.map (St.ev ⟨ts, h⟩)) (hi.map (St.ev ⟨ts, h⟩)) (mx.map (St.ev ⟨ts, h⟩))) K dst ts h := (aop_aeval K ts h rfl (fun _ _ => Iff.rfl)).2

def extrD (x : D) (i : Nat) : Option D :=
  match x with
  | .tup l => l[i]?
  | _ => none
theorem extrD_tup (l : List D) (i : Nat) : extrD (.tup l) i = l[i]? := Eq.trans rfl rfl
theorem aop_extract (x : Operand) (i : Nat) : aop P C ⟨dst, .extract x i, ty, pos, after, g⟩ K ⟨ts, h⟩ = next1 (extrD (St.ev ⟨ts, h⟩ x) i) K dst ts h := (aop_aeval K ts h rfl (fun _ _ => Iff.rfl)).1

theorem aop_len (args : Array Operand) (at_ : Array TypeId) : aop P C ⟨dst, .call { callee := .builtin .len, args := args, argTypes := at_ }, ty, pos, after, g⟩ K ⟨ts, h⟩ = next1 (builtinD C h .len at_.toList (args.toList.map (St.ev ⟨ts, h⟩))) K dst ts h :=
  (aop_aeval K ts h rfl (fun _ _ => Iff.rfl)).1
theorem aopD_len (args : Array Operand) (at_ : Array TypeId) : aopD P C ⟨dst, .call { callee := .builtin .len, args := args, argTypes := at_ }, ty, pos, after, g⟩ K ⟨ts, h⟩ = next1 (builtinD C h .len at_.toList (args.toList.map (St.ev ⟨ts, h⟩))) K dst ts h :=
  (aop_aeval K ts h rfl (fun _ _ => Iff.rfl)).2

/-- Operations on own memory. -/
theorem aop_eff {o : Oper} (hc : calleeOf P C o ⟨ts, h⟩ = none) {A : Prop} {r0 : D} {h0 : Heap} (he : ∀ r h', eff C o (St.ev ⟨ts, h⟩) h r h' ↔ A ∧ r = r0 ∧ h' = h0) (hN : ∀ R, effN C o (St.ev ⟨ts, h⟩) h R = False := by intro R; rfl) :
    aop P C o K ⟨ts, h⟩ = (A ∧ K (St.put ⟨ts, h0⟩ o.dst r0)) ∧ aopD P C o K ⟨ts, h⟩ = (A ∧ K (St.put ⟨ts, h0⟩ o.dst r0)) := by
  have main : (∃ r h', eff C o (St.ev ⟨ts, h⟩) h r h' ∧ K (St.put ⟨ts, h'⟩ o.dst r)) = (A ∧ K (St.put ⟨ts, h0⟩ o.dst r0)) := by
    apply propext
    constructor
    · rintro ⟨r, h', h1, h2⟩
      obtain ⟨h3, rfl, rfl⟩ := (he r h').1 h1
      exact ⟨h3, h2⟩
    · rintro ⟨h1, h2⟩
      exact ⟨r0, h0, (he r0 h0).2 ⟨h1, rfl, rfl⟩, h2⟩
  refine ⟨?_, ?_⟩
  · unfold aop; rw [hc]; simp only [hN, or_false]; exact main
  · unfold aopD; rw [hc]; exact main

theorem aop_alloc (t : TypeId) (bs : List (Sh × D)) (tk : List Bool) : aop P C ⟨dst, .alloc t, ty, pos, after, g⟩ K ⟨ts, ⟨bs, tk⟩⟩ = (C.ty t ≠ .bad ∧ K (St.put ⟨ts, ⟨bs ++ [(C.sh t, C.zero t)], tk⟩⟩ dst (.ptr bs.length []))) :=
  (aop_eff (o := ⟨dst, .alloc t, ty, pos, after, g⟩) K ts ⟨bs, tk⟩ rfl (fun _ _ => Iff.rfl)).1
theorem aop_box (t : TypeId) (x : Operand) (bs : List (Sh × D)) (tk : List Bool) : aop P C ⟨dst, .box t x, ty, pos, after, g⟩ K ⟨ts, ⟨bs, tk⟩⟩ =
    ((C.ty t ≠ .bad ∧ hasSh (C.sh t) (nrm C t (St.ev ⟨ts, ⟨bs, tk⟩⟩ x))) ∧ K (St.put ⟨ts, ⟨bs ++ [(C.sh t, nrm C t (St.ev ⟨ts, ⟨bs, tk⟩⟩ x))], tk⟩⟩ dst (.ptr bs.length []))) :=
  (aop_eff (P := P) (C := C) (o := ⟨dst, .box t x, ty, pos, after, g⟩) K ts ⟨bs, tk⟩ rfl (A := C.ty t ≠ .bad ∧ hasSh (C.sh t) (nrm C t (St.ev ⟨ts, ⟨bs, tk⟩⟩ x))) (r0 := .ptr bs.length []) (h0 := ⟨bs ++ [(C.sh t, nrm C t (St.ev ⟨ts, ⟨bs, tk⟩⟩ x))], tk⟩)
    (fun _ _ => ⟨fun h => ⟨⟨h.1, h.2.1⟩, h.2.2⟩, fun h => ⟨h.1.1, h.1.2, h.2⟩⟩)).1

/-- A store, its place at hand. -/
def storeK (C : Tab) (K : St → Prop) (dst : Option Tmp) (ts : List D) (h : Heap) (t : TypeId) (a x : D) : Prop :=
  match a with
  | .ptr b p => match h.boxes[b]? with
    | some (sh, d) => (C.ty t ≠ .bad ∧ sh.at p = some (C.sh t) ∧ hasSh (C.sh t) x) ∧ K (St.put ⟨ts, { h with boxes := h.boxes.set b (sh, d.put p x) }⟩ dst (.lit undef))
    | none => False
  | _ => False
def storeB (C : Tab) (K : St → Prop) (dst : Option Tmp) (ts : List D) (bs : List (Sh × D)) (tk : List Bool) (t : TypeId) (b : Nat) (p : List Nat) (x : D) (y : Option (Sh × D)) : Prop :=
  match y with
  | some (sh, d) => (C.ty t ≠ .bad ∧ sh.at p = some (C.sh t) ∧ hasSh (C.sh t) x) ∧ K (St.put ⟨ts, ⟨bs.set b (sh, d.put p x), tk⟩⟩ dst (.lit undef))
  | none => False
theorem storeK_ptr (t : TypeId) (b : Nat) (p : List Nat) (x : D) (bs : List (Sh × D)) (tk : List Bool) : storeK C K dst ts ⟨bs, tk⟩ t (.ptr b p) x = storeB C K dst ts bs tk t b p x bs[b]? := by
  simp only [storeK, storeB]
theorem storeB_some (t : TypeId) (b : Nat) (p : List Nat) (x : D) (bs : List (Sh × D)) (tk : List Bool) (sh : Sh) (d : D) : storeB C K dst ts bs tk t b p x (some (sh, d)) =
    ((C.ty t ≠ .bad ∧ sh.at p = some (C.sh t) ∧ hasSh (C.sh t) x) ∧ K (St.put ⟨ts, ⟨bs.set b (sh, d.put p x), tk⟩⟩ dst (.lit undef))) := Eq.trans rfl rfl

theorem aop_store' (t : TypeId) (a x : Operand) : aop P C ⟨dst, .store t a x, ty, pos, after, g⟩ K ⟨ts, h⟩ = storeK C K dst ts h t (St.ev ⟨ts, h⟩ a) (nrm C t (St.ev ⟨ts, h⟩ x)) ∧
    aopD P C ⟨dst, .store t a x, ty, pos, after, g⟩ K ⟨ts, h⟩ = storeK C K dst ts h t (St.ev ⟨ts, h⟩ a) (nrm C t (St.ev ⟨ts, h⟩ x)) := by
  have main : (∃ r h', eff C ⟨dst, .store t a x, ty, pos, after, g⟩ (St.ev ⟨ts, h⟩) h r h' ∧ K (St.put ⟨ts, h'⟩ dst r)) = storeK C K dst ts h t (St.ev ⟨ts, h⟩ a) (nrm C t (St.ev ⟨ts, h⟩ x)) := by
    simp only [eff, storeK]
    generalize St.ev ⟨ts, h⟩ a = A
    cases A with
    | ptr b p =>
      simp only
      cases h.boxes[b]? with
      | none => simp
      | some y =>
        obtain ⟨sh, d⟩ := y
        simp only
        apply propext
        constructor
        · rintro ⟨r, h', ⟨h1, h2, h3, rfl, rfl⟩, h4⟩; exact ⟨⟨h1, h2, h3⟩, h4⟩
        · rintro ⟨⟨h1, h2, h3⟩, h4⟩; exact ⟨_, _, ⟨h1, h2, h3, rfl, rfl⟩, h4⟩
    | _ => simp
  refine ⟨?_, main⟩
  have : effN C ⟨dst, .store t a x, ty, pos, after, g⟩ (St.ev ⟨ts, h⟩) h (fun r h' => K (St.put ⟨ts, h'⟩ dst r)) = False := Eq.trans rfl rfl
  show (_ ∨ effN C ⟨dst, .store t a x, ty, pos, after, g⟩ (St.ev ⟨ts, h⟩) h (fun r h' => K (St.put ⟨ts, h'⟩ dst r))) = _
  rw [this, or_false]; exact main
theorem aop_store (t : TypeId) (a x : Operand) : aop P C ⟨dst, .store t a x, ty, pos, after, g⟩ K ⟨ts, h⟩ = storeK C K dst ts h t (St.ev ⟨ts, h⟩ a) (nrm C t (St.ev ⟨ts, h⟩ x)) := (aop_store' K dst ty pos after g ts h t a x).1
theorem aopD_store (t : TypeId) (a x : Operand) : aopD P C ⟨dst, .store t a x, ty, pos, after, g⟩ K ⟨ts, h⟩ = storeK C K dst ts h t (St.ev ⟨ts, h⟩ a) (nrm C t (St.ev ⟨ts, h⟩ x)) := (aop_store' K dst ty pos after g ts h t a x).2

/-- An append, what is appended not being nothing. -/
def appK (C : Tab) (mu : Bool) (K : St → Prop) (dst : Option Tmp) (ts : List D) (bs : List (Sh × D)) (tk : List Bool) (u : Ty) (x y : D) : Prop :=
  (∃ e, u = .slice e ∧ ∃ r h', appendD C e ⟨bs, tk⟩ x y r h' ∧ K (St.put ⟨ts, h'⟩ dst r)) ∨ (mu = true ∧ ∃ e, u = .slice e ∧ appendN C e ⟨bs, tk⟩ x y fun r h' => K (St.put ⟨ts, h'⟩ dst r))
theorem appK_full {mu : Bool} (e : TypeId) (l m : List D) (t' : Tok) (bs : List (Sh × D)) (tk : List Bool) (hm : m ≠ []) (hb : 0 < C.bytes e) (hl : (l.length + m.length) * C.bytes e ≤ 140737488355328)
    (hk : K (St.put ⟨ts, ⟨bs, tk ++ [true]⟩⟩ dst (.lst e (l ++ m) (.own tk.length)))) : appK C mu K dst ts bs tk (.slice e) (.lst e l .full) (.lst e m t') :=
  .inl ⟨e, rfl, _, _, ⟨l, m, _, _, rfl, rfl, hb, hl, trivial, .inl ⟨hm, rfl, rfl⟩⟩, hk⟩
theorem appK_own {mu : Bool} (e : TypeId) (l m : List D) (t' : Tok) (id : Nat) (bs : List (Sh × D)) (tk : List Bool) (hm : m ≠ []) (hb : 0 < C.bytes e) (hl : (l.length + m.length) * C.bytes e ≤ 140737488355328) (hid : tk[id]? = some true)
    (hk : K (St.put ⟨ts, ⟨bs, tk.set id false ++ [true]⟩⟩ dst (.lst e (l ++ m) (.own tk.length)))) : appK C mu K dst ts bs tk (.slice e) (.lst e l (.own id)) (.lst e m t') :=
  .inl ⟨e, rfl, _, _, ⟨l, m, _, _, rfl, rfl, hb, hl, hid, .inl ⟨hm, rfl, rfl⟩⟩, hk⟩
/-- A slice that may be appended to. -/
def live (t : Tok) (tk : List Bool) : Prop := match t with | .no => False | .full => True | .own id => tk[id]? = some true
theorem appK_live {mu : Bool} (e : TypeId) (l m : List D) (t t' : Tok) (bs : List (Sh × D)) (tk : List Bool) (ha : live t tk) (hm : m ≠ []) (hb : 0 < C.bytes e) (hl : (l.length + m.length) * C.bytes e ≤ 140737488355328)
    (hk : ∀ u tk', live u tk' → K (St.put ⟨ts, ⟨bs, tk'⟩⟩ dst (.lst e (l ++ m) u))) : appK C mu K dst ts bs tk (.slice e) (.lst e l t) (.lst e m t') := by
  cases t with
  | no => exact ha.elim
  | full => exact appK_full _ _ _ _ _ _ _ _ _ hm hb hl (hk _ _ (by simp [live]))
  | own id => exact appK_own _ _ _ _ _ _ _ _ _ _ hm hb hl ha (hk _ _ (by simp [live]))
theorem appK_mut (e : TypeId) (bs : List (Sh × D)) (tk : List Bool) (x y : D) (h : appendN C e ⟨bs, tk⟩ x y fun r h' => K (St.put ⟨ts, h'⟩ dst r)) : appK C true K dst ts bs tk (.slice e) x y := .inr ⟨rfl, e, rfl, h⟩



theorem overL_take {L m : List D} {n : Nat} (h : n + m.length ≤ L.length) : (overL L n m).take (n + m.length) = L.take n ++ m := by
  unfold overL
  have h1 : (L.take n ++ m).length = n + m.length := by simp; omega
  rw [List.take_append_of_le_length (by omega), List.take_of_length_le (by omega)]


theorem aop_append (t : TypeId) (x y : Operand) (bs : List (Sh × D)) (tk : List Bool) : aop P C ⟨dst, .call { callee := .builtin .append, args := #[x, y], argTypes := #[t, t] }, ty, pos, after, g⟩ K ⟨ts, ⟨bs, tk⟩⟩ =
    appK C true K dst ts bs tk (C.ty t) (nrm C t (St.ev ⟨ts, ⟨bs, tk⟩⟩ x)) (nrm C t (St.ev ⟨ts, ⟨bs, tk⟩⟩ y)) := by
  show ((∃ r h', eff C ⟨dst, .call { callee := .builtin .append, args := #[x, y], argTypes := #[t, t] }, ty, pos, after, g⟩ (St.ev ⟨ts, ⟨bs, tk⟩⟩) ⟨bs, tk⟩ r h' ∧ K (St.put ⟨ts, h'⟩ dst r)) ∨
    effN C ⟨dst, .call { callee := .builtin .append, args := #[x, y], argTypes := #[t, t] }, ty, pos, after, g⟩ (St.ev ⟨ts, ⟨bs, tk⟩⟩) ⟨bs, tk⟩ (fun r h' => K (St.put ⟨ts, h'⟩ dst r))) = _
  simp only [eff, effN, appK, true_and]
  apply propext
  constructor
  · rintro (⟨r, h', h1, h2⟩ | h1 | ⟨u, k, g1, g2, _⟩)
    · left
      split at h1
      · rename_i u hu; exact ⟨u, hu, r, h', h1, h2⟩
      · exact h1.elim
    rotate_left
    · rw [g1] at g2; cases g2
    · right
      split at h1
      · rename_i u hu; exact ⟨u, hu, h1⟩
      · exact h1.elim
  · rintro (⟨u, hu, r, h', h1, h2⟩ | ⟨u, hu, h1⟩)
    · left
      refine ⟨r, h', ?_, h2⟩
      rw [hu]; exact h1
    · right; left
      rw [hu]; exact h1
/-- A copy into a slice whose cells may be written. -/
def copyN (C : Tab) (K : St → Prop) (dst : Option Tmp) (ts : List D) (h : Heap) (t : TypeId) (x y : D) : Prop :=
  ∃ u b lo n c N s L m, C.ty t = .slice u ∧ x = .sl u b lo n c ∧ h.boxes[b]? = some (.arr N s, .agg L) ∧ rowOf h y = some (u, m) ∧ K (St.put ⟨ts, { h with boxes := h.boxes.set b (.arr N s, .agg (overL L lo (m.take n))) }⟩ dst (.int (min m.length n : Nat)))
theorem aop_copy (t : TypeId) (x y : Operand) (hk : copyN C K dst ts h t (nrm C t (St.ev ⟨ts, h⟩ x)) (nrm C t (St.ev ⟨ts, h⟩ y))) : aop P C ⟨dst, .call { callee := .builtin .copy, args := #[x, y], argTypes := #[t, t] }, ty, pos, after, g⟩ K ⟨ts, h⟩ := by
  obtain ⟨u, b, lo, n, c, N, s, L, m, h1, h2, h3, h4, h5⟩ := hk
  refine Or.inl ⟨_, _, ⟨rfl, ?_⟩, h5⟩
  rw [h1]
  exact ⟨b, lo, n, c, N, s, L, m, h2, h3, h4, rfl, rfl⟩
theorem aopD_copy (t : TypeId) (x y : Operand) (hk : copyN C K dst ts h t (nrm C t (St.ev ⟨ts, h⟩ x)) (nrm C t (St.ev ⟨ts, h⟩ y))) : aopD P C ⟨dst, .call { callee := .builtin .copy, args := #[x, y], argTypes := #[t, t] }, ty, pos, after, g⟩ K ⟨ts, h⟩ := by
  obtain ⟨u, b, lo, n, c, N, s, L, m, h1, h2, h3, h4, h5⟩ := hk
  refine ⟨_, _, ⟨rfl, ?_⟩, h5⟩
  rw [h1]
  exact ⟨b, lo, n, c, N, s, L, m, h2, h3, h4, rfl, rfl⟩
def clearN (C : Tab) (K : St → Prop) (dst : Option Tmp) (ts : List D) (h : Heap) (t : TypeId) (x : D) : Prop :=
  ∃ u b lo n c N s L, C.ty t = .slice u ∧ x = .sl u b lo n c ∧ h.boxes[b]? = some (.arr N s, .agg L) ∧ K (St.put ⟨ts, { h with boxes := h.boxes.set b (.arr N s, .agg (overL L lo (List.replicate n (C.zero u)))) }⟩ dst (.tup []))
theorem aop_clear (t : TypeId) (x : Operand) (hk : clearN C K dst ts h t (nrm C t (St.ev ⟨ts, h⟩ x))) : aop P C ⟨dst, .call { callee := .builtin .clear, args := #[x], argTypes := #[t] }, ty, pos, after, g⟩ K ⟨ts, h⟩ := by
  obtain ⟨u, b, lo, n, c, N, s, L, h1, h2, h3, h5⟩ := hk
  refine Or.inr ?_
  show (match C.ty t with | .slice u => _ | _ => False)
  rw [h1]
  exact ⟨b, lo, n, c, N, s, L, h2, h3, h5⟩
/-- An append of so many zeros. -/
def growK (C : Tab) (K : St → Prop) (dst : Option Tmp) (ts : List D) (h : Heap) (t t' : TypeId) (x y : D) : Prop := ∃ u k, C.ty t = .slice u ∧ C.ty t' = .int k ∧ (growN C u h x y (fun r h' => K (St.put ⟨ts, h'⟩ dst r)) ∨ growS C u h x y fun r h' => K (St.put ⟨ts, h'⟩ dst r))
theorem aop_growth (t t' : TypeId) (x y : Operand) (hk : growK C K dst ts h t t' (nrm C t (St.ev ⟨ts, h⟩ x)) (St.ev ⟨ts, h⟩ y)) : aop P C ⟨dst, .call { callee := .builtin .append, args := #[x, y], argTypes := #[t, t'] }, ty, pos, after, g⟩ K ⟨ts, h⟩ :=
  Or.inr (Or.inr hk)

-- MAPS
theorem aop_lookup (t : TypeId) (x i : Operand) (ok : Bool) : aop P C ⟨dst, .lookup t x i ok, ty, pos, after, g⟩ K ⟨ts, h⟩ = next1 (lookupD C h t ok (St.ev ⟨ts, h⟩ x) (St.ev ⟨ts, h⟩ i)) K dst ts h := (aop_aeval K ts h rfl (fun _ _ => Iff.rfl)).1
theorem aop_entry (x : Operand) : aop P C ⟨dst, .entry x, ty, pos, after, g⟩ K ⟨ts, h⟩ = next1 (entryD h (St.ev ⟨ts, h⟩ x)) K dst ts h := (aop_aeval K ts h rfl (fun _ _ => Iff.rfl)).1
theorem aop_cap (args : Array Operand) (at_ : Array TypeId) : aop P C ⟨dst, .call { callee := .builtin .cap, args := args, argTypes := at_ }, ty, pos, after, g⟩ K ⟨ts, h⟩ = next1 (builtinD C h .cap at_.toList (args.toList.map (St.ev ⟨ts, h⟩))) K dst ts h :=
  (aop_aeval K ts h rfl (fun _ _ => Iff.rfl)).1
def isMap (C : Tab) (t : TypeId) : Prop := match C.ty t with | .map _ _ => True | _ => False
theorem aop_makeMap (t : TypeId) (bs : List (Sh × D)) (tk : List Bool) : aop P C ⟨dst, .makeMap t none, ty, pos, after, g⟩ K ⟨ts, ⟨bs, tk⟩⟩ = (isMap C t ∧ K (St.put ⟨ts, ⟨bs ++ [(.obj 1, .mp [] [] 0)], tk⟩⟩ dst (.mref bs.length))) :=
  (aop_eff (P := P) (C := C) (o := ⟨dst, .makeMap t none, ty, pos, after, g⟩) K ts ⟨bs, tk⟩ rfl (A := isMap C t) (r0 := .mref bs.length) (h0 := ⟨bs ++ [(.obj 1, .mp [] [] 0)], tk⟩) (fun _ _ => ⟨fun h => ⟨h.1, h.2.2⟩, fun h => ⟨h.1, trivial, h.2⟩⟩)).1

/-- What a key's type lets be a key. -/
def mapKey (C : Tab) (t : TypeId) (v : D) : Prop := match C.ty t with | .map k _ => keyOk C k v | _ => False
def mapUpdK (C : Tab) (K : St → Prop) (dst : Option Tmp) (ts : List D) (bs : List (Sh × D)) (tk : List Bool) (t : TypeId) (x i y : D) : Prop :=
  mapD C ⟨bs, tk⟩ t x fun u b ks vs g => mapKey C t i ∧ K (St.put ⟨ts, ⟨bs.set b (.obj 1, updD ks vs g i (nrm C u y)), tk⟩⟩ dst (.lit undef))
theorem mapD_iff {h : Heap} {t : TypeId} {x : D} {R : TypeId → Nat → List D → List D → Nat → Prop} : mapD C h t x R ↔ ∃ k e b ks vs g, C.ty t = .map k e ∧ x = .mref b ∧ h.boxes[b]? = some (.obj 1, .mp ks vs g) ∧ (∀ q ∈ ks, keyOk C k q) ∧ R e b ks vs g := by
  unfold mapD
  constructor
  · intro hm
    split at hm
    case h_2 => exact hm.elim
    rename_i k e b hty
    split at hm
    case h_2 => exact hm.elim
    rename_i ks vs g hb
    exact ⟨k, e, b, ks, vs, g, hty, rfl, hb, hm.1, hm.2⟩
  · rintro ⟨k, e, b, ks, vs, g, h1, rfl, h3, h4, h5⟩
    rw [h1]
    simp only [h3]
    exact ⟨h4, h5⟩
def mapEntK (C : Tab) (K : St → Prop) (dst : Option Tmp) (ts : List D) (bs : List (Sh × D)) (tk : List Bool) (t : TypeId) (x i : D) : Prop :=
  mapD C ⟨bs, tk⟩ t x fun u b ks vs g => mapKey C t i ∧ ks.length = g ∧ (∀ (j : Nat) (y : D), ks[j]? = some i → vs[j]? = some y → K (St.put ⟨ts, ⟨bs, tk⟩⟩ dst (.tup [y, .int j]))) ∧
    (i ∉ ks → K (St.put ⟨ts, ⟨bs.set b (.obj 1, .mp (ks ++ [i]) (vs ++ [C.zero u]) (g + 1)), tk⟩⟩ dst (.tup [C.zero u, .int g])))
def entStK (C : Tab) (K : St → Prop) (dst : Option Tmp) (ts : List D) (bs : List (Sh × D)) (tk : List Bool) (t : TypeId) (x s y : D) : Prop :=
  mapD C ⟨bs, tk⟩ t x fun u b ks vs g => ks.length = g ∧ ∃ n : Nat, s = .int n ∧ n < g ∧ K (St.put ⟨ts, ⟨bs.set b (.obj 1, .mp ks (vs.set n (nrm C u y)) g), tk⟩⟩ dst (.lit undef))
theorem aop_mapEntry (t : TypeId) (x i : Operand) (bs : List (Sh × D)) (tk : List Bool) : aop P C ⟨dst, .mapEntry t x i, ty, pos, after, g⟩ K ⟨ts, ⟨bs, tk⟩⟩ = mapEntK C K dst ts bs tk t (St.ev ⟨ts, ⟨bs, tk⟩⟩ x) (St.ev ⟨ts, ⟨bs, tk⟩⟩ i) := by
  show ((∃ r h', eff C ⟨dst, .mapEntry t x i, ty, pos, after, g⟩ (St.ev ⟨ts, ⟨bs, tk⟩⟩) ⟨bs, tk⟩ r h' ∧ K (St.put ⟨ts, h'⟩ dst r)) ∨ effN C ⟨dst, .mapEntry t x i, ty, pos, after, g⟩ (St.ev ⟨ts, ⟨bs, tk⟩⟩) ⟨bs, tk⟩ (fun r h' => K (St.put ⟨ts, h'⟩ dst r))) = _
  have h1 : (∃ r h', eff C ⟨dst, .mapEntry t x i, ty, pos, after, g⟩ (St.ev ⟨ts, ⟨bs, tk⟩⟩) ⟨bs, tk⟩ r h' ∧ K (St.put ⟨ts, h'⟩ dst r)) = False := by simp [eff, aeval]
  rw [h1, false_or]; rfl
theorem aop_entryStore (t : TypeId) (x s y : Operand) (bs : List (Sh × D)) (tk : List Bool) : aop P C ⟨dst, .entryStore t x s y, ty, pos, after, g⟩ K ⟨ts, ⟨bs, tk⟩⟩ = entStK C K dst ts bs tk t (St.ev ⟨ts, ⟨bs, tk⟩⟩ x) (St.ev ⟨ts, ⟨bs, tk⟩⟩ s) (St.ev ⟨ts, ⟨bs, tk⟩⟩ y) := by
  show ((∃ r h', eff C ⟨dst, .entryStore t x s y, ty, pos, after, g⟩ (St.ev ⟨ts, ⟨bs, tk⟩⟩) ⟨bs, tk⟩ r h' ∧ K (St.put ⟨ts, h'⟩ dst r)) ∨ effN C ⟨dst, .entryStore t x s y, ty, pos, after, g⟩ (St.ev ⟨ts, ⟨bs, tk⟩⟩) ⟨bs, tk⟩ (fun r h' => K (St.put ⟨ts, h'⟩ dst r))) = _
  have h1 : (∃ r h', eff C ⟨dst, .entryStore t x s y, ty, pos, after, g⟩ (St.ev ⟨ts, ⟨bs, tk⟩⟩) ⟨bs, tk⟩ r h' ∧ K (St.put ⟨ts, h'⟩ dst r)) = False := by simp [eff, aeval]
  rw [h1, false_or]; rfl
theorem aop_mapUpdate (t : TypeId) (x i y : Operand) (bs : List (Sh × D)) (tk : List Bool) : aop P C ⟨dst, .mapUpdate t x i y, ty, pos, after, g⟩ K ⟨ts, ⟨bs, tk⟩⟩ = mapUpdK C K dst ts bs tk t (St.ev ⟨ts, ⟨bs, tk⟩⟩ x) (St.ev ⟨ts, ⟨bs, tk⟩⟩ i) (St.ev ⟨ts, ⟨bs, tk⟩⟩ y) := by
  show ((∃ r h', eff C ⟨dst, .mapUpdate t x i y, ty, pos, after, g⟩ (St.ev ⟨ts, ⟨bs, tk⟩⟩) ⟨bs, tk⟩ r h' ∧ K (St.put ⟨ts, h'⟩ dst r)) ∨ effN C ⟨dst, .mapUpdate t x i y, ty, pos, after, g⟩ (St.ev ⟨ts, ⟨bs, tk⟩⟩) ⟨bs, tk⟩ (fun r h' => K (St.put ⟨ts, h'⟩ dst r))) = _
  have : effN C ⟨dst, .mapUpdate t x i y, ty, pos, after, g⟩ (St.ev ⟨ts, ⟨bs, tk⟩⟩) ⟨bs, tk⟩ (fun r h' => K (St.put ⟨ts, h'⟩ dst r)) = False := Eq.trans rfl rfl
  rw [this, or_false]
  apply propext
  simp only [eff, mapUpdK, mapD_iff]
  constructor
  · rintro ⟨r, h', ⟨rfl, k, e, b, ks, vs, g, h1, h2, h3, h4, h6, rfl⟩, h7⟩
    exact ⟨k, e, b, ks, vs, g, h1, h2, h3, h4, h6, h7⟩
  · rintro ⟨k, e, b, ks, vs, g, h1, h2, h3, h4, h6, h7⟩
    exact ⟨_, _, ⟨rfl, k, e, b, ks, vs, g, h1, h2, h3, h4, h6, rfl⟩, h7⟩
def mapDelK (C : Tab) (K : St → Prop) (dst : Option Tmp) (ts : List D) (bs : List (Sh × D)) (tk : List Bool) (t : TypeId) (x i : D) : Prop :=
  mapD C ⟨bs, tk⟩ t x fun _ b ks vs g => mapKey C t i ∧ K (St.put ⟨ts, ⟨bs.set b (.obj 1, deleteD ks vs g i), tk⟩⟩ dst (.tup []))
theorem aop_insert (t : TypeId) (x i y : Operand) (bs : List (Sh × D)) (tk : List Bool) : aop P C ⟨dst, .insert t x i y, ty, pos, after, g⟩ K ⟨ts, ⟨bs, tk⟩⟩ = mapUpdK C K dst ts bs tk t (St.ev ⟨ts, ⟨bs, tk⟩⟩ x) (St.ev ⟨ts, ⟨bs, tk⟩⟩ i) (St.ev ⟨ts, ⟨bs, tk⟩⟩ y) := by
  show ((∃ r h', eff C ⟨dst, .insert t x i y, ty, pos, after, g⟩ (St.ev ⟨ts, ⟨bs, tk⟩⟩) ⟨bs, tk⟩ r h' ∧ K (St.put ⟨ts, h'⟩ dst r)) ∨ effN C ⟨dst, .insert t x i y, ty, pos, after, g⟩ (St.ev ⟨ts, ⟨bs, tk⟩⟩) ⟨bs, tk⟩ (fun r h' => K (St.put ⟨ts, h'⟩ dst r))) = _
  have : effN C ⟨dst, .insert t x i y, ty, pos, after, g⟩ (St.ev ⟨ts, ⟨bs, tk⟩⟩) ⟨bs, tk⟩ (fun r h' => K (St.put ⟨ts, h'⟩ dst r)) = False := Eq.trans rfl rfl
  rw [this, or_false]
  apply propext
  simp only [eff, mapUpdK, mapD_iff]
  constructor
  · rintro ⟨r, h', ⟨rfl, k, e, b, ks, vs, g, h1, h2, h3, h4, h6, rfl⟩, h7⟩
    exact ⟨k, e, b, ks, vs, g, h1, h2, h3, h4, h6, h7⟩
  · rintro ⟨k, e, b, ks, vs, g, h1, h2, h3, h4, h6, h7⟩
    exact ⟨_, _, ⟨rfl, k, e, b, ks, vs, g, h1, h2, h3, h4, h6, rfl⟩, h7⟩
theorem aop_delete (t t' : TypeId) (x i : Operand) (bs : List (Sh × D)) (tk : List Bool) : aop P C ⟨dst, .call { callee := .builtin .delete, args := #[x, i], argTypes := #[t, t'] }, ty, pos, after, g⟩ K ⟨ts, ⟨bs, tk⟩⟩ = mapDelK C K dst ts bs tk t (St.ev ⟨ts, ⟨bs, tk⟩⟩ x) (St.ev ⟨ts, ⟨bs, tk⟩⟩ i) := by
  show ((∃ r h', eff C ⟨dst, .call { callee := .builtin .delete, args := #[x, i], argTypes := #[t, t'] }, ty, pos, after, g⟩ (St.ev ⟨ts, ⟨bs, tk⟩⟩) ⟨bs, tk⟩ r h' ∧ K (St.put ⟨ts, h'⟩ dst r)) ∨ effN C ⟨dst, .call { callee := .builtin .delete, args := #[x, i], argTypes := #[t, t'] }, ty, pos, after, g⟩ (St.ev ⟨ts, ⟨bs, tk⟩⟩) ⟨bs, tk⟩ (fun r h' => K (St.put ⟨ts, h'⟩ dst r))) = _
  have : effN C ⟨dst, .call { callee := .builtin .delete, args := #[x, i], argTypes := #[t, t'] }, ty, pos, after, g⟩ (St.ev ⟨ts, ⟨bs, tk⟩⟩) ⟨bs, tk⟩ (fun r h' => K (St.put ⟨ts, h'⟩ dst r)) = False := Eq.trans rfl rfl
  rw [this, or_false]
  apply propext
  simp only [eff, mapDelK, mapD_iff]
  constructor
  · rintro ⟨r, h', ⟨rfl, k, e, b, ks, vs, g, h1, h2, h3, h4, h6, rfl⟩, h7⟩
    exact ⟨k, e, b, ks, vs, g, h1, h2, h3, h4, h6, h7⟩
  · rintro ⟨k, e, b, ks, vs, g, h1, h2, h3, h4, h6, h7⟩
    exact ⟨_, _, ⟨rfl, k, e, b, ks, vs, g, h1, h2, h3, h4, h6, rfl⟩, h7⟩
def mapRangeK (C : Tab) (K : St → Prop) (dst : Option Tmp) (ts : List D) (bs : List (Sh × D)) (tk : List Bool) (t : TypeId) (x : D) : Prop :=
  mapD C ⟨bs, tk⟩ t x fun _ b _ _ g => K (St.put ⟨ts, ⟨bs ++ [(.obj 2, .it b g [])], tk⟩⟩ dst (.ptr bs.length []))
theorem aop_range (t : TypeId) (x : Operand) (bs : List (Sh × D)) (tk : List Bool) : aop P C ⟨dst, .range t x, ty, pos, after, g⟩ K ⟨ts, ⟨bs, tk⟩⟩ = mapRangeK C K dst ts bs tk t (St.ev ⟨ts, ⟨bs, tk⟩⟩ x) := by
  show ((∃ r h', eff C ⟨dst, .range t x, ty, pos, after, g⟩ (St.ev ⟨ts, ⟨bs, tk⟩⟩) ⟨bs, tk⟩ r h' ∧ K (St.put ⟨ts, h'⟩ dst r)) ∨ effN C ⟨dst, .range t x, ty, pos, after, g⟩ (St.ev ⟨ts, ⟨bs, tk⟩⟩) ⟨bs, tk⟩ (fun r h' => K (St.put ⟨ts, h'⟩ dst r))) = _
  have : effN C ⟨dst, .range t x, ty, pos, after, g⟩ (St.ev ⟨ts, ⟨bs, tk⟩⟩) ⟨bs, tk⟩ (fun r h' => K (St.put ⟨ts, h'⟩ dst r)) = False := Eq.trans rfl rfl
  rw [this, or_false]
  apply propext
  simp only [eff, mapRangeK, mapD_iff]
  constructor
  · rintro ⟨r, h', ⟨k, e, b, ks, vs, g, h1, h2, h3, h4, rfl, rfl⟩, h7⟩
    exact ⟨k, e, b, ks, vs, g, h1, h2, h3, h4, h7⟩
  · rintro ⟨k, e, b, ks, vs, g, h1, h2, h3, h4, h7⟩
    exact ⟨_, _, ⟨k, e, b, ks, vs, g, h1, h2, h3, h4, rfl, rfl⟩, h7⟩
def nextK (K : St → Prop) (dst : Option Tmp) (ts : List D) (bs : List (Sh × D)) (tk : List Bool) (x : D) : Prop :=
  ∃ i m g seen ks vs, x = .ptr i [] ∧ bs[i]? = some (.obj 2, .it m g seen) ∧ bs[m]? = some (.obj 1, .mp ks vs g) ∧
    (∀ (j : Nat) (k : D) (y : D), ks[j]? = some k → vs[j]? = some y → k ∉ seen → K (St.put ⟨ts, ⟨bs.set i (.obj 2, .it m g (seen ++ [k])), tk⟩⟩ dst (.tup [.bool true, k, y]))) ∧
    ((∀ k ∈ ks, k ∈ seen) → K (St.put ⟨ts, ⟨bs, tk⟩⟩ dst (.tup [.bool false])))
theorem aop_next (x : Operand) (bs : List (Sh × D)) (tk : List Bool) : aop P C ⟨dst, .next x false, ty, pos, after, g⟩ K ⟨ts, ⟨bs, tk⟩⟩ = nextK K dst ts bs tk (St.ev ⟨ts, ⟨bs, tk⟩⟩ x) := by
  show ((∃ r h', eff C ⟨dst, .next x false, ty, pos, after, g⟩ (St.ev ⟨ts, ⟨bs, tk⟩⟩) ⟨bs, tk⟩ r h' ∧ K (St.put ⟨ts, h'⟩ dst r)) ∨ effN C ⟨dst, .next x false, ty, pos, after, g⟩ (St.ev ⟨ts, ⟨bs, tk⟩⟩) ⟨bs, tk⟩ (fun r h' => K (St.put ⟨ts, h'⟩ dst r))) = _
  have : (∃ r h', eff C ⟨dst, .next x false, ty, pos, after, g⟩ (St.ev ⟨ts, ⟨bs, tk⟩⟩) ⟨bs, tk⟩ r h' ∧ K (St.put ⟨ts, h'⟩ dst r)) = False := by
    apply propext
    constructor
    · rintro ⟨r, h', ⟨h1, _⟩, _⟩; cases h1
    · exact False.elim
  rw [this, false_or]
  apply propext
  simp only [effN, nextK]
  constructor
  · intro h1
    split at h1
    case h_2 => exact h1.elim
    rename_i i hx
    split at h1
    case h_2 => exact h1.elim
    rename_i m g seen hi
    split at h1
    case h_2 => exact h1.elim
    rename_i ks vs g' hm
    obtain ⟨rfl, h2, h3⟩ := h1
    exact ⟨i, m, _, seen, ks, vs, hx, hi, hm, h2, h3⟩
  · rintro ⟨i, m, g, seen, ks, vs, h1, h2, h3, h4, h5⟩
    rw [h1]
    simp only [h2, h3]
    exact ⟨trivial, h4, h5⟩

theorem aop_call (f : FuncId) (args : Array Operand) (at_ : Array TypeId) : aop P C ⟨dst, .call { callee := .value (.func f), args := args, argTypes := at_ }, ty, pos, after, g⟩ K ⟨ts, h⟩ =
    callK P C f (argsD C (St.ev ⟨ts, h⟩) args.toList at_.toList) K dst ts h := by rw [callK_eq]; rfl
theorem aopD_call (f : FuncId) (args : Array Operand) (at_ : Array TypeId) : aopD P C ⟨dst, .call { callee := .value (.func f), args := args, argTypes := at_ }, ty, pos, after, g⟩ K ⟨ts, h⟩ =
    callD P C f (argsD C (St.ev ⟨ts, h⟩) args.toList at_.toList) K dst ts h := Eq.trans rfl rfl

/-- A method of an interface's value is called. -/
def methK (P : Program) (C : Tab) (m : Option FuncId) (args : List D) (alt : Prop) (K : St → Prop) (dst : Option Tmp) (ts : List D) (h : Heap) : Prop :=
  match m with
  | some f => callK P C f args K dst ts h
  | none => alt
def invK (P : Program) (C : Tab) (x : D) (name : String) (args : List D) (alt : Prop) (K : St → Prop) (dst : Option Tmp) (ts : List D) (h : Heap) : Prop :=
  match x with
  | .ifc t d => methK P C (methodOf P t name) (d :: args) alt K dst ts h
  | _ => alt
theorem methK_some (f : FuncId) (args : List D) (alt : Prop) : methK P C (some f) args alt K dst ts h = callK P C f args K dst ts h := Eq.trans rfl rfl
theorem invK_ifc (t : TypeId) (d : D) (name : String) (args : List D) (alt : Prop) : invK P C (.ifc t d) name args alt K dst ts h = methK P C (methodOf P t name) (d :: args) alt K dst ts h := Eq.trans rfl rfl
theorem aop_invoke (x : Operand) (name : String) (args : Array Operand) (at_ : Array TypeId) : aop P C ⟨dst, .call { callee := .invoke x name, args := args, argTypes := at_ }, ty, pos, after, g⟩ K ⟨ts, h⟩ =
    invK P C (St.ev ⟨ts, h⟩ x) name (argsD C (St.ev ⟨ts, h⟩) args.toList at_.toList) ((∃ r h', eff C ⟨dst, .call { callee := .invoke x name, args := args, argTypes := at_ }, ty, pos, after, g⟩ (St.ev ⟨ts, h⟩) h r h' ∧ K (St.put ⟨ts, h'⟩ dst r)) ∨ effN C ⟨dst, .call { callee := .invoke x name, args := args, argTypes := at_ }, ty, pos, after, g⟩ (St.ev ⟨ts, h⟩) h fun r h' => K (St.put ⟨ts, h'⟩ dst r)) K dst ts h := by
  unfold aop calleeOf invK methK
  simp only
  cases St.ev ⟨ts, h⟩ x with
  | ifc t d =>
    simp only
    cases methodOf P t name with
    | none => rfl
    | some f => simp only [Option.map_some, callK_eq]
  | _ => rfl
def methD (P : Program) (C : Tab) (m : Option FuncId) (args : List D) (alt : Prop) (K : St → Prop) (dst : Option Tmp) (ts : List D) (h : Heap) : Prop :=
  match m with
  | some f => callD P C f args K dst ts h
  | none => alt
def invD (P : Program) (C : Tab) (x : D) (name : String) (args : List D) (alt : Prop) (K : St → Prop) (dst : Option Tmp) (ts : List D) (h : Heap) : Prop :=
  match x with
  | .ifc t d => methD P C (methodOf P t name) (d :: args) alt K dst ts h
  | _ => alt
theorem methD_some (f : FuncId) (args : List D) (alt : Prop) : methD P C (some f) args alt K dst ts h = callD P C f args K dst ts h := Eq.trans rfl rfl
theorem invD_ifc (t : TypeId) (d : D) (name : String) (args : List D) (alt : Prop) : invD P C (.ifc t d) name args alt K dst ts h = methD P C (methodOf P t name) (d :: args) alt K dst ts h := Eq.trans rfl rfl
theorem aopD_invoke (x : Operand) (name : String) (args : Array Operand) (at_ : Array TypeId) : aopD P C ⟨dst, .call { callee := .invoke x name, args := args, argTypes := at_ }, ty, pos, after, g⟩ K ⟨ts, h⟩ =
    invD P C (St.ev ⟨ts, h⟩ x) name (argsD C (St.ev ⟨ts, h⟩) args.toList at_.toList) (∃ r h', eff C ⟨dst, .call { callee := .invoke x name, args := args, argTypes := at_ }, ty, pos, after, g⟩ (St.ev ⟨ts, h⟩) h r h' ∧ K (St.put ⟨ts, h'⟩ dst r)) K dst ts h := by
  unfold aopD calleeOf invD methD
  simp only
  cases St.ev ⟨ts, h⟩ x with
  | ifc t d =>
    simp only
    cases methodOf P t name with
    | none => rfl
    | some f => rfl
  | _ => rfl

end ops

section code
variable (Q : AExit → St → Prop) (ts : List D) (h : Heap)
theorem awp_skip : awp P C .skip Q ⟨ts, h⟩ = Q .normal ⟨ts, h⟩ := Eq.trans rfl rfl
theorem awp_region (id : Nat) (l : List Oper) : awp P C (.region id l.toArray false) Q ⟨ts, h⟩ = aops P C l.toArray (Q .normal) l ⟨ts, h⟩ := by simp [awp]
theorem awp_draw (id : Nat) (l : List Oper) : awp P C (.region id l.toArray true) Q ⟨ts, h⟩ = ((okDraw l.toArray = true ∧ aopsD P C l.toArray (Q .normal) l ⟨ts, h⟩) ∨ drawN P C l.toArray (Q .normal) ⟨ts, h⟩) := by simp [awp]
/-- What comes behind a code: another one. -/
def thenC (P : Program) (C : Tab) (b : Code) (Q : AExit → St → Prop) : AExit → St → Prop := AExit.then (awp P C b Q) Q
theorem awp_seq (a b : Code) : awp P C (.seq a b) Q ⟨ts, h⟩ = awp P C a (thenC P C b Q) ⟨ts, h⟩ := Eq.trans rfl rfl
theorem thenC_normal (b : Code) : thenC P C b Q .normal ⟨ts, h⟩ = awp P C b Q ⟨ts, h⟩ := Eq.trans rfl rfl
theorem thenC_exit (b : Code) (i : Nat) : thenC P C b Q (.exit i) ⟨ts, h⟩ = Q (.exit i) ⟨ts, h⟩ := Eq.trans rfl rfl
theorem thenC_ret (b : Code) : thenC P C b Q .ret ⟨ts, h⟩ = Q .ret ⟨ts, h⟩ := Eq.trans rfl rfl
def condK (d : D) (A B : St → Prop) (s : St) : Prop :=
  match d with
  | .lit (.bool t) => (t = true → A s) ∧ (t = false → B s)
  | _ => False
theorem condK_tt (A B : St → Prop) (s : St) : condK (.lit (.bool true)) A B s = A s := by simp [condK]
theorem condK_ff (A B : St → Prop) (s : St) : condK (.lit (.bool false)) A B s = B s := by simp [condK]
theorem condK_split {b : Bool} {A B : St → Prop} {s : St} (h1 : b = true → A s) (h2 : b = false → B s) : condK (.lit (.bool b)) A B s := ⟨h1, h2⟩
theorem awp_cond (c : Operand) (a b : Code) : awp P C (.cond c a b) Q ⟨ts, h⟩ = condK (St.ev ⟨ts, h⟩ c) (awp P C a Q) (awp P C b Q) ⟨ts, h⟩ := Eq.trans rfl rfl
theorem awp_block (id : Nat) (c : Code) : awp P C (.block id c) Q ⟨ts, h⟩ = awp P C c (AExit.inBlock id Q) ⟨ts, h⟩ := Eq.trans rfl rfl
theorem awp_scope (c : Code) : awp P C (.scope c) Q ⟨ts, h⟩ = awp P C c Q ⟨ts, h⟩ := Eq.trans rfl rfl
theorem awp_label (l : Nat) : awp P C (.label l) Q ⟨ts, h⟩ = Q .normal ⟨ts, h⟩ := Eq.trans rfl rfl
theorem awp_exit (id : Nat) : awp P C (.exit id) Q ⟨ts, h⟩ = Q (.exit id) ⟨ts, h⟩ := Eq.trans rfl rfl
theorem awp_ret : awp P C .ret Q ⟨ts, h⟩ = Q .ret ⟨ts, h⟩ := Eq.trans rfl rfl
theorem then_normal (K : St → Prop) : AExit.then K Q .normal ⟨ts, h⟩ = K ⟨ts, h⟩ := Eq.trans rfl rfl
theorem then_exit (K : St → Prop) (i : Nat) : AExit.then K Q (.exit i) ⟨ts, h⟩ = Q (.exit i) ⟨ts, h⟩ := Eq.trans rfl rfl
theorem then_ret (K : St → Prop) : AExit.then K Q .ret ⟨ts, h⟩ = Q .ret ⟨ts, h⟩ := Eq.trans rfl rfl
theorem block_normal (id : Nat) : AExit.inBlock id Q .normal ⟨ts, h⟩ = Q .normal ⟨ts, h⟩ := Eq.trans rfl rfl
theorem block_ret (id : Nat) : AExit.inBlock id Q .ret ⟨ts, h⟩ = Q .ret ⟨ts, h⟩ := Eq.trans rfl rfl

/-- A function's end. -/
def endK (C : Tab) (rs : List ResultVar) (R : D → Prop) : AExit → St → Prop := fun e s => match e with
  | .exit _ => False
  | _ => ∃ r, resultsD C s rs = some r ∧ pureR (erase r) ∧ R (erase r)
def endR (x : Option D) (R : D → Prop) : Prop := ∃ r, x = some r ∧ pureR (erase r) ∧ R (erase r)
theorem endR_some (d : D) (R : D → Prop) : endR (some d) R = (pureR (erase d) ∧ R (erase d)) := by simp [endR]
theorem endK_ret (rs : List ResultVar) (R : D → Prop) : endK C rs R .ret ⟨ts, h⟩ = endR (resultsD C ⟨ts, h⟩ rs) R := Eq.trans rfl rfl
theorem res_tmp (t : Tmp) : resultsD C ⟨ts, h⟩ [.tmp t] = some (ts.getD t (.lit undef)) := Eq.trans rfl rfl
theorem res_cell (a : Tmp) (t : TypeId) : resultsD C ⟨ts, h⟩ [.cell a t] = loadD C h t (ts.getD a (.lit undef)) := Eq.trans rfl rfl
def tup2 : Option D → Option D → Option D
  | some a, some b => some (.tup [a, b])
  | _, _ => none
theorem tup2_some (a b : D) : tup2 (some a) (some b) = some (.tup [a, b]) := Eq.trans rfl rfl
theorem res_two (x y : ResultVar) : resultsD C ⟨ts, h⟩ [x, y] = tup2 (resD C ⟨ts, h⟩ x) (resD C ⟨ts, h⟩ y) := by
  simp only [resultsD, List.mapM_cons, List.mapM_nil]
  cases resD C ⟨ts, h⟩ x <;> cases resD C ⟨ts, h⟩ y <;> rfl
theorem resD_tmp (t : Tmp) : resD C ⟨ts, h⟩ (.tmp t) = some (ts.getD t (.lit undef)) := Eq.trans rfl rfl
theorem resD_cell (a : Tmp) (t : TypeId) : resD C ⟨ts, h⟩ (.cell a t) = loadD C h t (ts.getD a (.lit undef)) := Eq.trans rfl rfl
theorem res_none : resultsD C ⟨ts, h⟩ [] = some (.tup []) := Eq.trans rfl rfl
end code

/-- A state at a loop's head, its other slots whatever they are. -/
theorem reg_intro {ts : List D} {h h' : Heap} {F : (Nat → D) → List D} {c : Prop} (e : ts = F fun k => ts.getD k (.lit undef)) (e2 : h = h') (hc : c) : ∃ g : Nat → D, (⟨ts, h⟩ : St) = ⟨F g, h'⟩ ∧ c :=
  ⟨fun k => ts.getD k (.lit undef), by rw [← e, e2], hc⟩

/-- Operations at places. -/
def pickL (l : List Oper) : List Nat → List Oper
  | [] => []
  | i :: r => match l[i]? with | some o => o :: pickL l r | none => pickL l r
def consO (o : Option Oper) (r : List Oper) : List Oper := match o with | some o => o :: r | none => r
theorem consO_some (o : Oper) (r : List Oper) : consO (some o) r = o :: r := Eq.trans rfl rfl
theorem pickL_nil (l : List Oper) : pickL l [] = [] := Eq.trans rfl rfl
theorem pickL_cons (l : List Oper) (i : Nat) (r : List Nat) : pickL l (i :: r) = consO l[i]? (pickL l r) := by
  simp only [pickL, consO]
theorem pickL_eq (l : List Oper) (ord : List Nat) : (ord.filterMap fun i => l.toArray[i]?) = pickL l ord := by
  induction ord with
  | nil => rfl
  | cons i r ih =>
    rw [List.filterMap_cons, ih, pickL_cons]
    simp only [List.getElem?_toArray, consO]
    cases l[i]? <;> rfl


theorem drawN_calls {l : List Oper} {Q : St → Prop} {ts : List D} {h : Heap} (pre calls post : List Nat) (hok : okCalls l.toArray pre calls post = true) (h1 : aopsD P C l.toArray (fun s1 => callsD P C l.toArray h (aopsN P C l.toArray Q post) calls s1) (pickL l pre) ⟨ts, h⟩) : drawN P C l.toArray Q ⟨ts, h⟩ := by
  refine .inr (.inl ⟨pre, calls, post, hok, ?_⟩)
  rw [pickL_eq]; exact h1
theorem callsD_call {l : List Oper} {Q : St → Prop} {ts : List D} {h h0 : Heap} {i : Nat} {r : List Nat} {dst : Option Tmp} {f : FuncId} {args : Array Operand} {at_ : Array TypeId} {ty : TypeId} {pos : String} {after : Array Edge} {R : D → Heap → Prop} {args' : List D}
    (ho : l[i]? = some ⟨dst, .call { callee := .value (.func f), args := args, argTypes := at_ }, ty, pos, after, none⟩) (ha : argsD C (St.ev ⟨ts, h⟩) args.toList at_.toList = args') (hs : ASpec P C f args' h R)
    (hk : ∀ r' h', R r' h' → Hle h0 h' ∧ callsD P C l.toArray h0 Q r (St.put ⟨ts, h'⟩ dst r')) : callsD P C l.toArray h0 Q (i :: r) ⟨ts, h⟩ :=
  ⟨_, f, args', R, by simpa using ho, rfl, by rw [← ha]; rfl, hs, hk⟩
theorem aopsN_nil (ops : Array Oper) (Q : St → Prop) (s : St) : aopsN P C ops Q [] s = Q s := Eq.trans rfl rfl
theorem aopsN_at {l : List Oper} {Q : St → Prop} {ts : List D} {h : Heap} {i : Nat} {r : List Nat} {o : Oper} (ho : l[i]? = some o) (hg : o.guard = none) (hk : aop P C o (aopsN P C l.toArray Q r) ⟨ts, h⟩) : aopsN P C l.toArray Q (i :: r) ⟨ts, h⟩ := by
  have ho' : l.toArray[i]? = some o := by simpa using ho
  simp only [aopsN, ho']
  rw [if_pos (by simp [Region.wanted, hg])]; exact hk

/-- A function's contract, out of its body, its end in words. -/
theorem PSpec.of (hT : TabOk P C) {f : FuncId} {fn : Func} {c : Code} {args : List D} {R : D → Prop} (hf : P.funcs[f]? = some fn) (hb : fn.body = some c) (hn : (fn.name == "runtime.NumGoroutine") = false) {rs : List ResultVar} (hrs : fn.results.toList = rs) {n : Nat}
    (hnt : fn.ntmps - args.length = n) (hw : awp P C c (endK C rs R) ⟨args ++ List.replicate n (.lit undef), ⟨[], []⟩⟩) : PSpec P C f args R := by
  subst hrs; subst hnt
  exact PSpec.of_body hT hf hb hn hw

/-- A loop: what holds at its head, and how far it has to go. -/
theorem awp_loop {c : Code} {Q : AExit → St → Prop} {s : St} (I : Nat → St → Prop) (n : Nat) (h0 : I n s) (hr : ∀ n s, I n s → awp P C c (AExit.then (fun s' => ∃ m, m < n ∧ I m s') Q) s) : awp P C (.loop c) Q s := ⟨I, n, h0, hr⟩

/-- A slot that a guard looks at. -/
def dstN (l : List Oper) (j : Nat) : Option Tmp := dstO l[j]?
theorem dstN_zero (o : Oper) (r : List Oper) : dstN (o :: r) 0 = o.dst := Eq.trans rfl rfl
theorem dstN_succ (o : Oper) (r : List Oper) (n : Nat) : dstN (o :: r) (n + 1) = dstN r n := Eq.trans rfl rfl
theorem yieldedD_N (l : List Oper) (ts : List D) (j : Nat) : yieldedD l.toArray ts j = yieldAt (dstN l j) ts := yieldedD_at l ts j

-- WHERE simp HAS NO BUSINESS: what comes later, and the text of operations
theorem awp_congr (c : Code) (Q : AExit → St → Prop) {s s' : St} (h : s = s') : awp P C c Q s = awp P C c Q s' := by rw [h]
theorem aops_congr (ops : Array Oper) (Q : St → Prop) (r : List Oper) {s s' : St} (h : s = s') : aops P C ops Q r s = aops P C ops Q r s' := by rw [h]
theorem aopsD_congr (ops : Array Oper) (Q : St → Prop) (r : List Oper) {s s' : St} (h : s = s') : aopsD P C ops Q r s = aopsD P C ops Q r s' := by rw [h]
theorem next1_congr {x x' : Option D} (K : St → Prop) (dst : Option Tmp) {ts ts' : List D} {h h' : Heap} (h1 : x = x') (h2 : ts = ts') (h3 : h = h') : next1 x K dst ts h = next1 x' K dst ts' h' := by rw [h1, h2, h3]
theorem methK_congr {m m' : Option FuncId} {args args' : List D} (alt : Prop) (K : St → Prop) (dst : Option Tmp) {ts ts' : List D} {h h' : Heap} (h0 : m = m') (h1 : args = args') (h2 : ts = ts') (h3 : h = h') : methK P C m args alt K dst ts h = methK P C m' args' alt K dst ts' h' := by rw [h0, h1, h2, h3]
theorem invK_congr {x x' : D} (name : String) {args args' : List D} (alt : Prop) (K : St → Prop) (dst : Option Tmp) {ts ts' : List D} {h h' : Heap} (h0 : x = x') (h1 : args = args') (h2 : ts = ts') (h3 : h = h') : invK P C x name args alt K dst ts h = invK P C x' name args' alt K dst ts' h' := by rw [h0, h1, h2, h3]
theorem methD_congr {m m' : Option FuncId} {args args' : List D} (alt : Prop) (K : St → Prop) (dst : Option Tmp) {ts ts' : List D} {h h' : Heap} (h0 : m = m') (h1 : args = args') (h2 : ts = ts') (h3 : h = h') : methD P C m args alt K dst ts h = methD P C m' args' alt K dst ts' h' := by rw [h0, h1, h2, h3]
theorem invD_congr {x x' : D} (name : String) {args args' : List D} (alt : Prop) (K : St → Prop) (dst : Option Tmp) {ts ts' : List D} {h h' : Heap} (h0 : x = x') (h1 : args = args') (h2 : ts = ts') (h3 : h = h') : invD P C x name args alt K dst ts h = invD P C x' name args' alt K dst ts' h' := by rw [h0, h1, h2, h3]
theorem callK_congr (g : FuncId) {args args' : List D} (K : St → Prop) (dst : Option Tmp) {ts ts' : List D} {h h' : Heap} (h1 : args = args') (h2 : ts = ts') (h3 : h = h') : callK P C g args K dst ts h = callK P C g args' K dst ts' h' := by rw [h1, h2, h3]
theorem callD_congr (g : FuncId) {args args' : List D} (K : St → Prop) (dst : Option Tmp) {ts ts' : List D} {h h' : Heap} (h1 : args = args') (h2 : ts = ts') (h3 : h = h') : callD P C g args K dst ts h = callD P C g args' K dst ts' h' := by rw [h1, h2, h3]
theorem guardK_congr {y y' : Option Bool} (w : Bool) (A B : St → Prop) {s s' : St} (h1 : y = y') (h2 : s = s') : guardK y w A B s = guardK y' w A B s' := by rw [h1, h2]
theorem condK_congr {d d' : D} (A B : St → Prop) {s s' : St} (h1 : d = d') (h2 : s = s') : condK d A B s = condK d' A B s' := by rw [h1, h2]
theorem storeK_congr (K : St → Prop) (dst : Option Tmp) {ts ts' : List D} {h h' : Heap} (t : TypeId) {a a' x x' : D} (h1 : ts = ts') (h2 : h = h') (h3 : a = a') (h4 : x = x') : storeK C K dst ts h t a x = storeK C K dst ts' h' t a' x' := by rw [h1, h2, h3, h4]
theorem storeB_congr (K : St → Prop) (dst : Option Tmp) {ts ts' : List D} {bs bs' : List (Sh × D)} {tk tk' : List Bool} (t : TypeId) (b : Nat) (p : List Nat) {x x' : D} {y y' : Option (Sh × D)} (h1 : ts = ts') (h2 : bs = bs') (h3 : tk = tk') (h4 : x = x') (h5 : y = y') :
    storeB C K dst ts bs tk t b p x y = storeB C K dst ts' bs' tk' t b p x' y' := by rw [h1, h2, h3, h4, h5]
theorem appK_congr (mu : Bool) (K : St → Prop) (dst : Option Tmp) {ts ts' : List D} {bs bs' : List (Sh × D)} {tk tk' : List Bool} {u u' : Ty} {x x' y y' : D} (h1 : ts = ts') (h2 : bs = bs') (h3 : tk = tk') (h4 : u = u') (h5 : x = x') (h6 : y = y') :
    appK C mu K dst ts bs tk u x y = appK C mu K dst ts' bs' tk' u' x' y' := by rw [h1, h2, h3, h4, h5, h6]
theorem mapUpdK_congr (K : St → Prop) (dst : Option Tmp) {ts ts' : List D} {bs bs' : List (Sh × D)} (tk : List Bool) (t : TypeId) {x x' i i' y y' : D} (h1 : ts = ts') (h2 : bs = bs') (h3 : x = x') (h4 : i = i') (h5 : y = y') : mapUpdK C K dst ts bs tk t x i y = mapUpdK C K dst ts' bs' tk t x' i' y' := by rw [h1, h2, h3, h4, h5]
theorem mapEntK_congr (K : St → Prop) (dst : Option Tmp) {ts ts' : List D} {bs bs' : List (Sh × D)} (tk : List Bool) (t : TypeId) {x x' i i' : D} (h1 : ts = ts') (h2 : bs = bs') (h3 : x = x') (h4 : i = i') : mapEntK C K dst ts bs tk t x i = mapEntK C K dst ts' bs' tk t x' i' := by rw [h1, h2, h3, h4]
theorem entStK_congr (K : St → Prop) (dst : Option Tmp) {ts ts' : List D} {bs bs' : List (Sh × D)} (tk : List Bool) (t : TypeId) {x x' i i' y y' : D} (h1 : ts = ts') (h2 : bs = bs') (h3 : x = x') (h4 : i = i') (h5 : y = y') : entStK C K dst ts bs tk t x i y = entStK C K dst ts' bs' tk t x' i' y' := by rw [h1, h2, h3, h4, h5]
theorem mapDelK_congr (K : St → Prop) (dst : Option Tmp) {ts ts' : List D} {bs bs' : List (Sh × D)} (tk : List Bool) (t : TypeId) {x x' i i' : D} (h1 : ts = ts') (h2 : bs = bs') (h3 : x = x') (h4 : i = i') : mapDelK C K dst ts bs tk t x i = mapDelK C K dst ts' bs' tk t x' i' := by rw [h1, h2, h3, h4]
theorem mapRangeK_congr (K : St → Prop) (dst : Option Tmp) {ts ts' : List D} {bs bs' : List (Sh × D)} (tk : List Bool) (t : TypeId) {x x' : D} (h1 : ts = ts') (h2 : bs = bs') (h3 : x = x') : mapRangeK C K dst ts bs tk t x = mapRangeK C K dst ts' bs' tk t x' := by rw [h1, h2, h3]
theorem nextK_congr (K : St → Prop) (dst : Option Tmp) {ts ts' : List D} {bs bs' : List (Sh × D)} (tk : List Bool) {x x' : D} (h1 : ts = ts') (h2 : bs = bs') (h3 : x = x') : nextK K dst ts bs tk x = nextK K dst ts' bs' tk x' := by rw [h1, h2, h3]

end
attribute [congr] mapEntK_congr entStK_congr awp_congr aops_congr aopsD_congr next1_congr callK_congr callD_congr guardK_congr condK_congr storeK_congr storeB_congr appK_congr mapUpdK_congr mapDelK_congr mapRangeK_congr nextK_congr methK_congr invK_congr methD_congr invD_congr
end Go.Ab
