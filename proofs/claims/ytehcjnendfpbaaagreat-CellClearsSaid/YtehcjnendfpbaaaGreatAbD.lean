/- What each operation does, at the level of values. Conditions: none. -/
import Derived.Test.YtehcjnendfpbaaaGreatAbC
import Derived.Laws.StructEq
namespace Go.Ab

/-- Are two data the same? -/
noncomputable def eqB (x y : D) : Bool := @decide (x = y) (Classical.propDecidable _)

theorem eqB_true (x y : D) : (eqB x y = true) = (x = y) := by simp [eqB]
theorem eqB_false (x y : D) : (eqB x y = false) = (¬ x = y) := by simp [eqB]
theorem eqB_eq {x y : D} {p : Prop} [Decidable p] (h : x = y ↔ p) : eqB x y = decide p := by
  rw [Bool.eq_iff_iff]; simp [eqB, h]

mutual
/-- Data of a type that can be compared. -/
def plain (C : Tab) : TypeId → D → Prop
  | t, .lit v => match v with
    | .int k _ => C.ty t = .int k
    | .bool _ => C.ty t = .bool
    | .string _ => C.ty t = .str
    | _ => False
  | t, .agg l => match C.ty t with
    | .arr n e => l.length = n ∧ plainAll C e l
    | .struct fs => plainEach C fs l
    | _ => False
  | _, .lst _ _ _ => False
  | _, .ref _ _ => False
  | _, .ptr _ _ => False
  | _, .fn _ _ => False
  | _, .tup _ => False
  | _, .ifc _ _ => False
  | _, .mref _ => False
  | _, .mp _ _ _ => False
  | _, .it _ _ _ => False
  | _, .sl _ _ _ _ _ => False
def plainAll (C : Tab) (e : TypeId) : List D → Prop
  | [] => True
  | d :: r => plain C e d ∧ plainAll C e r
def plainEach (C : Tab) : List TypeId → List D → Prop
  | fs, [] => fs = []
  | fs, d :: r => match fs with
    | f :: gs => plain C f d ∧ plainEach C gs r
    | [] => False
end

mutual
/-- Data that leads to no own variable and no own slice. -/
def pureD : D → Prop
  | .lit _ => True
  | .agg l => pureL l
  | .lst _ _ t => match t with | .own _ => False | _ => True
  | .ref _ _ => True
  | .ptr _ _ => False
  | .fn _ _ => False
  | .tup _ => False
  | .ifc _ _ => True
  | .mref _ => False
  | .mp _ _ _ => False
  | .it _ _ _ => False
  | .sl _ _ _ _ _ => False
def pureL : List D → Prop
  | [] => True
  | d :: r => pureD d ∧ pureL r
end

/-- nil, as a slice's data. -/
def nrm (C : Tab) (t : TypeId) : D → D
  | .lit v => match v with
    | .slice none 0 0 => match C.ty t with | .slice e => .lst e [] .full | _ => .lit (.slice none 0 0)
    | v => .lit v
  | d => d

def intOp (op : BinOp) (k : IntKind) (a b : Int) : Option D :=
  match op with
  | .add => some (.lit (.int k (k.wrap (a + b))))
  | .sub => some (.lit (.int k (k.wrap (a - b))))
  | .mul => some (.lit (.int k (k.wrap (a * b))))
  | .quo => if b = 0 then none else some (.lit (.int k (k.wrap (a.tdiv b))))
  | .rem => if b = 0 then none else some (.lit (.int k (a.tmod b)))
  | .eql => some (.bool (decide (a = b)))
  | .neq => some (.bool (!decide (a = b)))
  | .lss => some (.bool (decide (a < b)))
  | .leq => some (.bool (decide (a ≤ b)))
  | .gtr => some (.bool (decide (b < a)))
  | .geq => some (.bool (decide (b ≤ a)))
  | .shr => if 0 ≤ b then some (.lit (.int k (a.fdiv (2 ^ min b.toNat k.bits)))) else none
  | _ => none

def strOp (op : BinOp) (a b : ByteArray) : Option D :=
  match op with
  | .eql => some (.bool (decide (a = b)))
  | .neq => some (.bool (!decide (a = b)))
  | .lss => some (.bool (Op.bytesLess a.toList b.toList))
  | .leq => some (.bool (Op.bytesLess a.toList b.toList || decide (a = b)))
  | .gtr => some (.bool (!(Op.bytesLess a.toList b.toList || decide (a = b))))
  | .geq => some (.bool (!Op.bytesLess a.toList b.toList))
  | .add => if a.size + b.size ≤ 9223372036854775807 then some (.str (a ++ b)) else none
  | _ => none

open Classical in
noncomputable def binD (C : Tab) (op : BinOp) (t : TypeId) : D → D → Option D
  | .lit (.int k a), .lit (.int k' b) => if k = k' then intOp op k a b else none
  | .lit (.string a), .lit (.string b) => strOp op a b
  | x, y => match op with
    | .eql => if plain C t x ∧ plain C t y then some (.bool (eqB x y)) else none
    | .neq => if plain C t x ∧ plain C t y then some (.bool (!eqB x y)) else none
    | _ => none

def unD (op : UnOp) : D → Option D
  | .lit (.bool b) => match op with | .not => some (.bool !b) | _ => none
  | .lit (.int k n) => match op with | .neg => some (.lit (.int k (k.wrap (0 - n)))) | _ => none
  | _ => none

def convD (C : Tab) (s d : TypeId) : D → Option D
  | .lit (.int _ n) => match C.ty d with | .int k => some (.lit (.int k (k.wrap n))) | _ => none
  | .lit (.string b) => match C.ty s, C.ty d with | .str, .str => some (.lit (.string b)) | _, _ => none
  | _ => none

/-- Bytes, as data. -/
def bytesOfL : List D → Option (List Int)
  | [] => some []
  | d :: r => match d with
    | .lit (.int .u8 n) => (bytesOfL r).map (n :: ·)
    | _ => none
open Classical in
noncomputable def strD (C : Tab) (s d : TypeId) (l : List D) : Option D := match C.ty s, C.ty d with
  | .slice e, .str => if C.ty e = .int .u8 then (bytesOfL l).map fun ns => .lit (.string (ns.foldl (fun r n => r.push (UInt8.ofNat n.toNat)) ByteArray.empty)) else none
  | _, _ => none
noncomputable def convA (C : Tab) (s d : TypeId) (x : D) : Option D := match x with
  | .lst _ l _ => strD C s d l
  | y => convD C s d y

def Tab.kidTy (C : Tab) (t : TypeId) (k : Nat) : Option TypeId :=
  match C.ty t with
  | .struct fs => fs[k]?
  | .arr n e => if k < n then some e else none
  | _ => none

/-- Down to a field, or an element, at an address. -/
def stepD (C : Tab) (h : Heap) (t : TypeId) (k : Nat) : D → Option D
  | .ptr b p => match h.boxes[b]? with
    | some (sh, _) => if sh.at p = some (C.sh t) then (C.kidTy t k).map fun _ => .ptr b (p ++ [k]) else none
    | none => none
  | .ref s d => if s = C.sh t then (C.kidTy t k).bind fun u => (d.kid k).map (.ref (C.sh u)) else none
  | _ => none

def indexAddrD (C : Tab) (h : Heap) (t : TypeId) (x : D) : D → Option D
  | .lit (.int _ i) => match x with
    | .lst e l _ => if C.ty t = .slice e then (if 0 ≤ i ∧ i < l.length then (l[i.toNat]?).map (.ref (C.sh e)) else none) else none
    | .sl e b lo n _ => if C.ty t = .slice e then (if 0 ≤ i ∧ i < n then some (.ptr b [lo + i.toNat]) else none) else none
    | x => match C.ty t with
      | .arr n _ => if 0 ≤ i ∧ i < n then stepD C h t i.toNat x else none
      | _ => none
  | _ => none

def loadD (C : Tab) (h : Heap) (t : TypeId) : D → Option D
  | .ptr b p => match h.boxes[b]? with
    | some (sh, d) => if sh.at p = some (C.sh t) ∧ C.ty t ≠ .bad then d.get p else none
    | none => none
  | .ref s d => if s = C.sh t ∧ C.ty t ≠ .bad then some d else none
  | _ => none

open Classical in
noncomputable def fieldD (C : Tab) (t : TypeId) (k : Nat) (x : D) : Option D :=
  if hasSh (C.sh t) x then (C.kidTy t k).bind fun _ => x.kid k else none

open Classical in
noncomputable def indexD (C : Tab) (t : TypeId) (x : D) : D → Option D
  | .lit (.int _ i) => match x with
    | .lit (.string s) => if C.ty t = .str then (if 0 ≤ i then (s[i.toNat]?).map fun b => .lit (.int .u8 b.toNat) else none) else none
    | x => match C.ty t with
      | .arr n _ => if 0 ≤ i ∧ i < n then fieldD C t i.toNat x else none
      | _ => none
  | _ => none

def natOf : D → Option Nat
  | .lit (.int _ i) => if 0 ≤ i then some i.toNat else none
  | _ => none

def boundD (d : Option D) (z : Nat) : Option Nat :=
  match d with
  | none => some z
  | some d => natOf d

def sliceD (C : Tab) (t : TypeId) (x : D) (lo hi mx : Option D) : Option D :=
  match x with
  | .lst e l tk => if C.ty t = .slice e then
      (boundD lo 0).bind fun a => (boundD hi l.length).bind fun b => (boundD mx b).bind fun m =>
        if a ≤ b ∧ b ≤ m ∧ m ≤ l.length ∧ (mx.isSome → hi.isSome) then
          some (.lst e ((l.take b).drop a) (if mx.isSome then (if m = b then .full else .no) else if b = l.length then tk else .no)) else none
    else none
  | .sl e b l n c => if C.ty t = .slice e then
      (boundD lo 0).bind fun x => (boundD hi n).bind fun y => (boundD mx c).bind fun m =>
        if x ≤ y ∧ y ≤ m ∧ m ≤ c ∧ (mx.isSome → hi.isSome) then some (.sl e b (l + x) (y - x) (m - x)) else none
    else none
  | .lit (.string s) => if C.ty t = .str ∧ mx = none then
      (boundD lo 0).bind fun a => (boundD hi s.size).bind fun b => if a ≤ b ∧ b ≤ s.size then some (.str (s.extract a b)) else none
    else none
  | _ => none

def partsOk (C : Tab) (t : TypeId) (e : Operand → D) : List (Nat × Operand) → Prop
  | [] => True
  | (i, x) :: r => (match C.kidTy t i with | some u => hasSh (C.sh u) (nrm C u (e x)) | none => False) ∧ partsOk C t e r

def partsIn (C : Tab) (t : TypeId) (e : Operand → D) : List (Nat × Operand) → D → D
  | [], d => d
  | (i, x) :: r, d => partsIn C t e r (d.setKid i (nrm C ((C.kidTy t i).getD 0) (e x)))

def elemsOk (C : Tab) (u : TypeId) (n : Nat) (e : Operand → D) : List (Nat × Operand) → Prop
  | [] => True
  | (i, x) :: r => i < n ∧ hasSh (C.sh u) (nrm C u (e x)) ∧ pureD (nrm C u (e x)) ∧ elemsOk C u n e r

def elemsIn (C : Tab) (u : TypeId) (e : Operand → D) : List (Nat × Operand) → List D → List D
  | [], l => l
  | (i, x) :: r, l => elemsIn C u e r (l.set i (nrm C u (e x)))

def maxD : D → D → Option D
  | .lit (.int k a), .lit (.int k' b) => if k = k' then some (.lit (.int k (max a b))) else none
  | _, _ => none
def minD : D → D → Option D
  | .lit (.int k a), .lit (.int k' b) => if k = k' then some (.lit (.int k (min a b))) else none
  | _, _ => none

def foldD (f : D → D → Option D) : List D → Option D
  | [] => none
  | x :: r => r.foldlM f x

/-- How many a map has. -/
def lenM (h : Heap) (x : D) : Option D :=
  match x with
  | .lit (.map none) => some (.int 0)
  | .mref b => match h.boxes[b]? with
    | some (.obj 1, .mp ks _ _) => some (.int ks.length)
    | _ => none
  | _ => none

def lenD (C : Tab) (h : Heap) (t : TypeId) (x : D) : Option D :=
  match C.ty t, x with
  | .map _ _, x => lenM h x
  | .str, .lit (.string s) => some (.int s.size)
  | .slice _, .lst _ l _ => some (.int l.length)
  | .slice _, .sl _ _ _ n _ => some (.int n)
  | .arr n _, _ => some (.int n)
  | _, _ => none

def capD (C : Tab) (t : TypeId) (x : D) : Option D :=
  match C.ty t, x with
  | .slice _, .sl _ _ _ _ c => some (.int c)
  | .slice _, .lst _ l .full => some (.int l.length)
  | .arr n _, _ => some (.int n)
  | _, _ => none

def builtinD (C : Tab) (h : Heap) (b : Builtin) (ts : List TypeId) (xs : List D) : Option D :=
  match b with
  | .len => match ts, xs with
    | t :: _, x :: _ => lenD C h t (nrm C t x)
    | _, _ => none
  | .cap => match ts, xs with
    | t :: _, x :: _ => capD C t (nrm C t x)
    | _, _ => none
  | .max => foldD maxD xs
  | .min => foldD minD xs
  | _ => none

/-- May data be a key? -/
def keyOk (C : Tab) (k : TypeId) (d : D) : Prop := plain C k d

open Classical in
noncomputable def lookK : List D → List D → D → Option D
  | k :: ks, y :: vs, v => if k = v then some y else lookK ks vs v
  | _, _, _ => none
open Classical in
noncomputable def updK : List D → List D → D → D → Option (List D)
  | k :: ks, x :: vs, v, y => if k = v then some (y :: vs) else (updK ks vs v y).map (x :: ·)
  | _, _, _, _ => none
open Classical in
noncomputable def delK : List D → List D → D → Option (List D × List D)
  | k :: ks, x :: vs, v => if k = v then some (ks, vs) else (delK ks vs v).map fun p => (k :: p.1, x :: p.2)
  | _, _, _ => none

def packD (ok : Bool) (d : D) (b : Bool) : D := if ok then .tup [d, .bool b] else d

/-- A map that may be looked into. -/
def mapD (C : Tab) (h : Heap) (t : TypeId) (x : D) (R : TypeId → Nat → List D → List D → Nat → Prop) : Prop :=
  match C.ty t, x with
  | .map k e, .mref b => match h.boxes[b]? with
    | some (.obj 1, .mp ks vs g) => (∀ q ∈ ks, keyOk C k q) ∧ R e b ks vs g
    | _ => False
  | _, _ => False

open Classical in
noncomputable def lookupD (C : Tab) (h : Heap) (t : TypeId) (ok : Bool) (x v : D) : Option D :=
  match C.ty t with
  | .map k e => if keyOk C k v then
      (match x with
        | .lit (.map none) => some (packD ok (C.zero e) false)
        | .mref b => match h.boxes[b]? with
          | some (.obj 1, .mp ks vs _) => if ∀ q ∈ ks, keyOk C k q then some (match lookK ks vs v with | some y => packD ok y true | none => packD ok (C.zero e) false) else none
          | _ => none
        | _ => none)
    else none
  | _ => none

noncomputable def updD (ks : List D) (vs : List D) (g : Nat) (v : D) (y : D) : D :=
  match updK ks vs v y with
  | some vs' => .mp ks vs' g
  | none => .mp (ks ++ [v]) (vs ++ [y]) (g + 1)
noncomputable def deleteD (ks : List D) (vs : List D) (g : Nat) (v : D) : D :=
  match delK ks vs v with
  | some p => .mp p.1 p.2 g
  | none => .mp ks vs g

/-- What an iterator has handed out last. -/
noncomputable def entryD (h : Heap) (x : D) : Option D :=
  match x with
  | .ptr i [] => match h.boxes[i]? with
    | some (.obj 2, .it m g seen) => match h.boxes[m]? with
      | some (.obj 1, .mp ks vs g') => if g' = g then seen.getLast?.bind fun k => (lookK ks vs k).map fun y => .tup [k, y] else none
      | _ => none
    | _ => none
  | _ => none

/-- What an interface's value holds, if it is of that type. -/
def assertD (C : Tab) (t : TypeId) (ok : Bool) (x : D) : Option D :=
  match x with
  | .ifc u d => if C.ty t ≠ .bad then (if u = t then some (if ok then .tup [d, .bool true] else d) else if ok then some (.tup [C.zero t, .bool false]) else none) else none
  | _ => none

open Classical in
/-- The operations that change nothing. -/
noncomputable def aeval (C : Tab) (o : Oper) (e : Operand → D) (h : Heap) : Option D :=
  match o.op with
  | .move x | .assign x => some (nrm C o.type (e x))
  | .pick c a b => match e c with
    | .lit (.bool t) => some (if t then e a else e b)
    | _ => none
  | .load t x => loadD C h t (e x)
  | .nilCheck x => match e x with
    | .ptr b p => some (.ptr b p)
    | .ref s d => some (.ref s d)
    | .fn (.func f) l => some (.fn (.func f) l)
    | _ => none
  | .binOp op t x y _ => binD C op t (e x) (e y)
  | .unOp op _ x => unD op (e x)
  | .convert s d x => if C.ty s ≠ .bad ∧ C.ty d ≠ .bad then convA C s d (e x) else none
  | .makeInterface t x => if C.ty t ≠ .bad ∧ pureD (nrm C t (e x)) then some (.ifc t (nrm C t (e x))) else none
  | .typeAssert x _ t ok => assertD C t ok (e x)
  | .makeFunc f first caps => if first = #[] then some (.fn f (caps.toList.map e)) else if caps = #[] then (match f with | .func g => some (.mp [] (first.toList.map e) g) | _ => none) else none
  | .build t parts => if C.ty t ≠ .bad ∧ (C.ty t).isAgg = true ∧ partsOk C t e parts.toList then some (partsIn C t e parts.toList (C.zero t)) else none
  | .buildSlice t n parts => match C.ty t with
    | .slice u => if n * (C.sh u).size ≤ 16777216 ∧ pureD (C.zero u) ∧ elemsOk C u n e parts.toList then
        some (.lst u (elemsIn C u e parts.toList (List.replicate n (C.zero u))) .full) else none
    | _ => none
  | .fieldAddr s x k => match C.ty s with
    | .struct _ => stepD C h s k (e x)
    | _ => none
  | .field t x k => match C.ty t with
    | .struct _ => fieldD C t k (e x)
    | _ => none
  | .indexAddr t x i => indexAddrD C h t (nrm C t (e x)) (e i)
  | .index t x i => indexD C t (e x) (e i)
  | .slice t x lo hi mx => sliceD C t (nrm C t (e x)) (lo.map e) (hi.map e) (mx.map e)
  | .extract x i => match e x with
    | .tup l => l[i]?
    | _ => none
  | .lookup t x i ok => lookupD C h t ok (e x) (e i)
  | .entry x => entryD h (e x)
  | .call c => match c.callee with
    | .builtin b => builtinD C h b c.argTypes.toList (c.args.toList.map e)
    | _ => none
  | _ => none

/-- The end of an append. -/
def appendD (C : Tab) (u : TypeId) (h : Heap) (x y r : D) (h' : Heap) : Prop :=
  ∃ l m t t', x = .lst u l t ∧ y = .lst u m t' ∧ 0 < C.bytes u ∧ (l.length + m.length) * C.bytes u ≤ 140737488355328 ∧
    (match t with | .no => False | .full => True | .own id => h.toks[id]? = some true) ∧
    ((m ≠ [] ∧ r = .lst u (l ++ m) (.own h.toks.length) ∧ h' = { h with toks := (match t with | .own id => h.toks.set id false | _ => h.toks) ++ [true] }) ∨
     (m = [] ∧ r = x ∧ h' = h))

def argsD (C : Tab) (e : Operand → D) : List Operand → List TypeId → List D
  | [], _ => []
  | x :: xs, t :: ts => nrm C t (e x) :: argsD C e xs ts
  | x :: xs, [] => e x :: argsD C e xs []

/-- What a slice's data hold now. -/
def rowOf (h : Heap) : D → Option (TypeId × List D)
  | .lst u l _ => some (u, l)
  | .sl u b lo n _ => match h.boxes[b]? with
    | some (.arr _ _, .agg L) => some (u, (L.drop lo).take n)
    | _ => none
  | _ => none

/-- Data of a slice's elements from a place on are these. -/
def overL (L : List D) (o : Nat) (m : List D) : List D := L.take o ++ m ++ L.drop (o + m.length)

/-- The operations that do not call: what comes, and what becomes of own memory. -/
def eff (C : Tab) (o : Oper) (e : Operand → D) (h : Heap) (r : D) (h' : Heap) : Prop :=
  match o.op with
  | .alloc t => C.ty t ≠ .bad ∧ r = .ptr h.boxes.length [] ∧ h' = h.var (C.sh t) (C.zero t)
  | .box t x => C.ty t ≠ .bad ∧ hasSh (C.sh t) (nrm C t (e x)) ∧ r = .ptr h.boxes.length [] ∧ h' = h.var (C.sh t) (nrm C t (e x))
  | .store t a x => match e a with
    | .ptr b p => match h.boxes[b]? with
      | some (sh, d) => C.ty t ≠ .bad ∧ sh.at p = some (C.sh t) ∧ hasSh (C.sh t) (nrm C t (e x)) ∧ r = .lit undef ∧
          h' = { h with boxes := h.boxes.set b (sh, d.put p (nrm C t (e x))) }
      | none => False
    | _ => False
  | .call { callee := .builtin .append, args, argTypes } => match argTypes.toList, args.toList with
    | [t, t'], [x, y] => t' = t ∧ (match C.ty t with | .slice u => appendD C u h (nrm C t (e x)) (nrm C t (e y)) r h' | _ => False)
    | _, _ => False
  | .makeMap t n => (match C.ty t with | .map _ _ => True | _ => False) ∧ (match n with | none => True | some x => ∃ q i, e x = .lit (.int q i)) ∧ r = .mref h.boxes.length ∧ h' = h.var (.obj 1) (.mp [] [] 0)
  | .mapUpdate t x i y => r = .lit undef ∧ mapD C h t (e x) fun u b ks vs g => (match C.ty t with | .map k _ => keyOk C k (e i) | _ => False) ∧ h' = { h with boxes := h.boxes.set b (.obj 1, updD ks vs g (e i) (nrm C u (e y))) }
  | .insert t x i y => r = .lit undef ∧ mapD C h t (e x) fun u b ks vs g => (match C.ty t with | .map k _ => keyOk C k (e i) | _ => False) ∧ h' = { h with boxes := h.boxes.set b (.obj 1, updD ks vs g (e i) (nrm C u (e y))) }
  | .call { callee := .builtin .delete, args, argTypes } => match argTypes.toList, args.toList with
    | [t, _], [x, i] => r = .tup [] ∧ mapD C h t (e x) fun _ b ks vs g => (match C.ty t with | .map k _ => keyOk C k (e i) | _ => False) ∧ h' = { h with boxes := h.boxes.set b (.obj 1, deleteD ks vs g (e i)) }
    | _, _ => False
  | .range t x => mapD C h t (e x) fun _ b _ _ g => r = .ptr h.boxes.length [] ∧ h' = h.var (.obj 2) (.it b g [])
  | .call { callee := .builtin .copy, args, argTypes } => match argTypes.toList, args.toList with
    | [t, t'], [x, y] => t' = t ∧ (match C.ty t with
      | .slice u => ∃ b lo n c N s L m, nrm C t (e x) = .sl u b lo n c ∧ h.boxes[b]? = some (.arr N s, .agg L) ∧ rowOf h (nrm C t (e y)) = some (u, m) ∧
          r = .int (min m.length n : Nat) ∧ h' = { h with boxes := h.boxes.set b (.arr N s, .agg (overL L lo (m.take n))) }
      | _ => False)
    | _, _ => False
  | _ => aeval C o e h = some r ∧ h' = h

/-- An append to a slice whose cells may be written: in place where there is room, else in a new variable, whose room may be any. -/
def appendN (C : Tab) (u : TypeId) (h : Heap) (x y : D) (R : D → Heap → Prop) : Prop :=
  ∃ l m, rowOf h x = some (u, l) ∧ rowOf h y = some (u, m) ∧ 0 < C.bytes u ∧ (l.length + m.length) * C.bytes u ≤ 140737488355328 ∧
    (match x with | .lst _ _ .full => True | .sl _ _ _ _ _ => True | _ => False) ∧
    (m = [] → R x h) ∧
    (∀ b lo n c N s L, x = .sl u b lo n c → m ≠ [] → n + m.length ≤ c → h.boxes[b]? = some (.arr N s, .agg L) → R (.sl u b lo (n + m.length) c) { h with boxes := h.boxes.set b (.arr N s, .agg (overL L (lo + n) m)) }) ∧
    ((∀ b lo n c, x = .sl u b lo n c → c < n + m.length) → m ≠ [] → ∀ N, l.length + m.length ≤ N → N ≤ maxLen → R (.sl u h.boxes.length 0 (l.length + m.length) N) (h.var (.arr N (C.sh u)) (.agg (l ++ m ++ List.replicate (N - (l.length + m.length)) (C.zero u)))))

/-- An append of so many zeros to nothing. -/
def growN (C : Tab) (u : TypeId) (h : Heap) (x y : D) (R : D → Heap → Prop) : Prop :=
  ∃ (k : IntKind) (n : Nat), x = .lst u [] .full ∧ y = .lit (.int k n) ∧ 0 < n ∧ n * C.bytes u ≤ 140737488355328 ∧ 0 < C.bytes u ∧
    ∀ N, n ≤ N → N ≤ maxLen → R (.sl u h.boxes.length 0 n N) (h.var (.arr N (C.sh u)) (.agg (List.replicate N (C.zero u))))

/-- An append of so many zeros to a slice whose cells may be written, where there is no room. -/
def growS (C : Tab) (u : TypeId) (h : Heap) (x y : D) (R : D → Heap → Prop) : Prop :=
  ∃ (k : IntKind) (n b lo i c N0 : Nat) (s : Sh) (L : List D), x = .sl u b lo i c ∧ y = .lit (.int k n) ∧ h.boxes[b]? = some (.arr N0 s, .agg L) ∧ 0 < n ∧ c < i + n ∧ (i + n) * C.bytes u ≤ 140737488355328 ∧ 0 < C.bytes u ∧
    ∀ N, i + n ≤ N → N ≤ maxLen → R (.sl u h.boxes.length 0 (i + n) N) (h.var (.arr N (C.sh u)) (.agg ((L.drop lo).take i ++ List.replicate (N - i) (C.zero u))))

/-- Is this nil? -/
def isNilC : Operand → Bool
  | .const (.slice none 0 0) => true
  | _ => false
/-- May a slice be nil? -/
def nilOk : D → Bool → Prop
  | .lst _ l _, b => b = true → l = []
  | .sl _ _ _ _ _, b => b = false
  | _, _ => False
def isSl : D → Bool
  | .lst _ _ _ => true
  | .sl _ _ _ _ _ => true
  | _ => false
/-- A slice against nil. -/
def nilN (C : Tab) (op : BinOp) (t : TypeId) (h : Heap) (x : D) (R : D → Heap → Prop) : Prop :=
  (∃ u, C.ty t = .slice u) ∧ (op = .eql ∨ op = .neq) ∧ isSl x = true ∧ ∀ b : Bool, nilOk x b → R (.bool (if op = .eql then b else !b)) h

/-- Where the machine may do one thing or another one: all that may come. -/
def effN (C : Tab) (o : Oper) (e : Operand → D) (h : Heap) (R : D → Heap → Prop) : Prop :=
  match o.op with
  | .next x false => match e x with
    | .ptr i [] => match h.boxes[i]? with
      | some (.obj 2, .it m g seen) => match h.boxes[m]? with
        | some (.obj 1, .mp ks vs g') => g' = g ∧
          (∀ (j : Nat) (k : D) (y : D), ks[j]? = some k → vs[j]? = some y → k ∉ seen → R (.tup [.bool true, k, y]) { h with boxes := h.boxes.set i (.obj 2, .it m g (seen ++ [k])) }) ∧
          ((∀ k ∈ ks, k ∈ seen) → R (.tup [.bool false]) h)
        | _ => False
      | _ => False
    | _ => False
  | .call { callee := .builtin .append, args, argTypes } => match argTypes.toList, args.toList with
    | [t, t'], [x, y] => (t' = t ∧ (match C.ty t with | .slice u => appendN C u h (nrm C t (e x)) (nrm C t (e y)) R | _ => False)) ∨
        ∃ u k, C.ty t = .slice u ∧ C.ty t' = .int k ∧ (growN C u h (nrm C t (e x)) (e y) R ∨ growS C u h (nrm C t (e x)) (e y) R)
    | _, _ => False
  | .call { callee := .builtin .clear, args, argTypes } => match argTypes.toList, args.toList with
    | [t], [x] => (match C.ty t with
      | .slice u => ∃ b lo n c N s L, nrm C t (e x) = .sl u b lo n c ∧ h.boxes[b]? = some (.arr N s, .agg L) ∧ R (.tup []) { h with boxes := h.boxes.set b (.arr N s, .agg (overL L lo (List.replicate n (C.zero u)))) }
      | _ => False)
    | _, _ => False
  | .makeSlice t x y => (match C.ty t with
      | .slice u => ∃ n c : Nat, e x = .int n ∧ e y = .int c ∧ n ≤ c ∧ c ≤ 9223372036854775807 ∧ c * C.bytes u ≤ 281474976710656 ∧ R (.sl u h.boxes.length 0 n c) (h.var (.arr c (C.sh u)) (.agg (List.replicate c (C.zero u))))
      | _ => False)
  | .binOp op t x y _ => match isNilC y with
    | true => nilN C op t h (nrm C t (e x)) R
    | false => False
  | .mapEntry t x i => mapD C h t (e x) fun u b ks vs g => (match C.ty t with | .map k _ => keyOk C k (e i) | _ => False) ∧ ks.length = g ∧
      (∀ (j : Nat) (y : D), ks[j]? = some (e i) → vs[j]? = some y → R (.tup [y, .int j]) h) ∧
      (e i ∉ ks → R (.tup [C.zero u, .int g]) { h with boxes := h.boxes.set b (.obj 1, .mp (ks ++ [e i]) (vs ++ [C.zero u]) (g + 1)) })
  | .entryStore t x s y => mapD C h t (e x) fun u b ks vs g => ks.length = g ∧ ∃ n : Nat, e s = .int n ∧ n < g ∧ R (.lit undef) { h with boxes := h.boxes.set b (.obj 1, .mp ks (vs.set n (nrm C u (e y))) g) }
  | _ => False


end Go.Ab
