/- What data of a type look like. Conditions: none. -/
import Derived.Test.YtehcjnendfpbaaaGreatAbQ
import Derived.Test.YtehcjnendfpbaaaGreatAbS
set_option linter.unusedSimpArgs false
namespace Go.Ab

abbrev ints (l : List Int) : D := .agg (l.map fun n => .lit (.int .i64 n))
def i64ok (n : Int) : Prop := -9223372036854775808 ≤ n ∧ n ≤ 9223372036854775807

section
variable {C : Tab} {t : TypeId} {d : D}
theorem HasTy.inv_int {k : IntKind} (h : HasTy C t d) (ht : C.ty t = .int k) : ∃ n, d = .lit (.int k n) ∧ k.min ≤ n ∧ n ≤ k.max := by
  cases h with
  | int n h h1 h2 => rw [ht] at h; cases h; exact ⟨n, rfl, h1, h2⟩
  | bool b h => rw [ht] at h; cases h
  | str s h h1 => rw [ht] at h; cases h
  | slice l h h1 h2 => rw [ht] at h; cases h
  | arr l h h1 h2 => rw [ht] at h; cases h
  | struct l h h1 h2 => rw [ht] at h; cases h
theorem HasTy.inv_bool (h : HasTy C t d) (ht : C.ty t = .bool) : ∃ b, d = .lit (.bool b) := by
  cases h with
  | int n h h1 h2 => rw [ht] at h; cases h
  | bool b h => exact ⟨b, rfl⟩
  | str s h h1 => rw [ht] at h; cases h
  | slice l h h1 h2 => rw [ht] at h; cases h
  | arr l h h1 h2 => rw [ht] at h; cases h
  | struct l h h1 h2 => rw [ht] at h; cases h
theorem HasTy.inv_str (h : HasTy C t d) (ht : C.ty t = .str) : ∃ s, d = .lit (.string s) ∧ s.size ≤ maxLen := by
  cases h with
  | int n h h1 h2 => rw [ht] at h; cases h
  | bool b h => rw [ht] at h; cases h
  | str s h h1 => exact ⟨s, rfl, h1⟩
  | slice l h h1 h2 => rw [ht] at h; cases h
  | arr l h h1 h2 => rw [ht] at h; cases h
  | struct l h h1 h2 => rw [ht] at h; cases h
theorem HasTy.inv_slice {e : TypeId} (h : HasTy C t d) (ht : C.ty t = .slice e) : ∃ l, d = .lst e l .no ∧ l.length ≤ maxLen ∧ ∀ x ∈ l, HasTy C e x := by
  cases h with
  | int n h h1 h2 => rw [ht] at h; cases h
  | bool b h => rw [ht] at h; cases h
  | str s h h1 => rw [ht] at h; cases h
  | slice l h h1 h2 => rw [ht] at h; cases h; exact ⟨l, rfl, h1, h2⟩
  | arr l h h1 h2 => rw [ht] at h; cases h
  | struct l h h1 h2 => rw [ht] at h; cases h
theorem HasTy.inv_sliceB {e : TypeId} (h : HasTy C t d) (ht : C.ty t = .slice e) : ∃ l, d = .lst e l .no ∧ l.length * C.bytes e ≤ 140737488351232 ∧ ∀ x ∈ l, HasTy C e x := by
  cases h with
  | int n h h1 h2 => rw [ht] at h; cases h
  | bool b h => rw [ht] at h; cases h
  | str s h h1 => rw [ht] at h; cases h
  | slice l h h1 h2 h3 => rw [ht] at h; cases h; exact ⟨l, rfl, Nat.le_trans h3 (by decide), h2⟩
  | arr l h h1 h2 => rw [ht] at h; cases h
  | struct l h h1 h2 => rw [ht] at h; cases h
theorem HasTy.inv_arr {n : Nat} {e : TypeId} (h : HasTy C t d) (ht : C.ty t = .arr n e) : ∃ l, d = .agg l ∧ l.length = n ∧ ∀ x ∈ l, HasTy C e x := by
  cases h with
  | int n h h1 h2 => rw [ht] at h; cases h
  | bool b h => rw [ht] at h; cases h
  | str s h h1 => rw [ht] at h; cases h
  | slice l h h1 h2 => rw [ht] at h; cases h
  | arr l h h1 h2 => rw [ht] at h; cases h; exact ⟨l, rfl, h1, h2⟩
  | struct l h h1 h2 => rw [ht] at h; cases h
theorem HasTy.inv_struct {fs : List TypeId} (h : HasTy C t d) (ht : C.ty t = .struct fs) : ∃ l, d = .agg l ∧ All2 (HasTy C) fs l := by
  cases h with
  | int n h h1 h2 => rw [ht] at h; cases h
  | bool b h => rw [ht] at h; cases h
  | str s h h1 => rw [ht] at h; cases h
  | slice l h h1 h2 => rw [ht] at h; cases h
  | arr l h h1 h2 => rw [ht] at h; cases h
  | struct l h h1 h2 =>
    rw [ht] at h; cases h
    refine ⟨l, rfl, ?_⟩
    clear ht
    induction fs generalizing l with
    | nil => cases l with
      | nil => exact .nil
      | cons x r => simp at h1
    | cons f fs ih =>
      cases l with
      | nil => simp at h1
      | cons x r =>
        exact .cons (h2 0 f x rfl rfl) (ih r (by simpa using h1) fun i g y hg hy => h2 (i + 1) g y (by simpa using hg) (by simpa using hy))
/-- A list of data, each of which comes out of a plain one. -/
theorem all_of {α : Type} {enc : α → D} {Q : α → Prop} : ∀ {l : List D}, (∀ x ∈ l, ∃ y, x = enc y ∧ Q y) → ∃ m : List α, l = m.map enc ∧ ∀ y ∈ m, Q y
  | [], _ => ⟨[], rfl, by simp⟩
  | x :: r, h => by
    obtain ⟨y, rfl, hy⟩ := h x (by simp)
    obtain ⟨m, rfl, hm⟩ := all_of (l := r) (enc := enc) (Q := Q) fun z hz => h z (by simp [hz])
    exact ⟨y :: m, rfl, by simpa using ⟨hy, hm⟩⟩
theorem HasTy.inv_i64 (h : HasTy C t d) (ht : C.ty t = .int .i64) : ∃ n, d = .lit (.int .i64 n) ∧ i64ok n := by
  obtain ⟨n, h1, h2, h3⟩ := h.inv_int ht
  exact ⟨n, h1, h2, h3⟩
theorem HasTy.inv_ints {n : Nat} {e : TypeId} (h : HasTy C t d) (ht : C.ty t = .arr n e) (he : C.ty e = .int .i64) : ∃ l : List Int, d = ints l ∧ l.length = n ∧ ∀ x ∈ l, i64ok x := by
  obtain ⟨l, rfl, h1, h2⟩ := h.inv_arr ht
  obtain ⟨m, rfl, hm⟩ := all_of (enc := fun n : Int => D.lit (.int .i64 n)) (Q := i64ok) fun x hx => (h2 x hx).inv_i64 he
  exact ⟨m, rfl, by simpa using h1, hm⟩
end
end Go.Ab
namespace Go.Ab
section
variable {P : Program} {C : Tab}

def zeros (n : Nat) : List Int := List.replicate n 0
theorem zeros_len (n : Nat) : (zeros n).length = n := by simp [zeros]
theorem nrm_agg (t : TypeId) (l : List D) : nrm C t (.agg l) = .agg l := Eq.trans rfl rfl
theorem nrm_lst (t e : TypeId) (l : List D) (tk : Tok) : nrm C t (.lst e l tk) = .lst e l tk := Eq.trans rfl rfl
theorem nrm_ptr (t : TypeId) (b : Nat) (p : List Nat) : nrm C t (.ptr b p) = .ptr b p := Eq.trans rfl rfl
theorem nrm_fn (t : TypeId) (f : Fn) (l : List D) : nrm C t (.fn f l) = .fn f l := Eq.trans rfl rfl
theorem nrm_tup (t : TypeId) (l : List D) : nrm C t (.tup l) = .tup l := Eq.trans rfl rfl
theorem nrm_ifc (t u : TypeId) (d : D) : nrm C t (.ifc u d) = .ifc u d := Eq.trans rfl rfl
theorem nrm_int (t : TypeId) (k : IntKind) (n : Int) : nrm C t (.lit (.int k n)) = .lit (.int k n) := Eq.trans rfl rfl
theorem nrm_bool (t : TypeId) (b : Bool) : nrm C t (.lit (.bool b)) = .lit (.bool b) := Eq.trans rfl rfl
theorem nrm_str (t : TypeId) (s : ByteArray) : nrm C t (.lit (.string s)) = .lit (.string s) := Eq.trans rfl rfl
theorem nrm_func (t : TypeId) (f : Fn) (a b : Array Value) : nrm C t (.lit (.func f a b)) = .lit (.func f a b) := Eq.trans rfl rfl
def nilOf : Ty → D
  | .slice e => .lst e [] .full
  | _ => .lit (.slice none 0 0)
theorem nilOf_slice (e : TypeId) : nilOf (.slice e) = .lst e [] .full := Eq.trans rfl rfl
theorem nrm_nil (t : TypeId) : nrm C t (.lit (.slice none 0 0)) = nilOf (C.ty t) := by
  simp only [nrm, nilOf]
  cases C.ty t <;> rfl

theorem argsD_nil (e : Operand → D) (ts : List TypeId) : argsD C e [] ts = [] := by cases ts <;> rfl
theorem argsD_cons (e : Operand → D) (x : Operand) (xs : List Operand) (t : TypeId) (ts : List TypeId) : argsD C e (x :: xs) (t :: ts) = nrm C t (e x) :: argsD C e xs ts := Eq.trans rfl rfl

theorem binD_int (op : BinOp) (t : TypeId) (k : IntKind) (a b : Int) : binD C op t (.lit (.int k a)) (.lit (.int k b)) = intOp op k a b := by simp [binD]
theorem binD_str (op : BinOp) (t : TypeId) (a b : ByteArray) : binD C op t (.lit (.string a)) (.lit (.string b)) = strOp op a b := by simp [binD]
theorem binD_agg_eql (t : TypeId) (l m : List D) (h1 : plain C t (.agg l)) (h2 : plain C t (.agg m)) : binD C .eql t (.agg l) (.agg m) = some (.bool (eqB (.agg l) (.agg m))) := by simp [binD, h1, h2]
theorem binD_agg_neq (t : TypeId) (l m : List D) (h1 : plain C t (.agg l)) (h2 : plain C t (.agg m)) : binD C .neq t (.agg l) (.agg m) = some (.bool (!eqB (.agg l) (.agg m))) := by simp [binD, h1, h2]

theorem int_add (k : IntKind) (a b : Int) : intOp .add k a b = some (.lit (.int k (k.wrap (a + b)))) := Eq.trans rfl rfl
theorem int_sub (k : IntKind) (a b : Int) : intOp .sub k a b = some (.lit (.int k (k.wrap (a - b)))) := Eq.trans rfl rfl
theorem int_eql (k : IntKind) (a b : Int) : intOp .eql k a b = some (.bool (decide (a = b))) := Eq.trans rfl rfl
theorem int_neq (k : IntKind) (a b : Int) : intOp .neq k a b = some (.bool (!decide (a = b))) := Eq.trans rfl rfl
theorem int_lss (k : IntKind) (a b : Int) : intOp .lss k a b = some (.bool (decide (a < b))) := Eq.trans rfl rfl
theorem int_leq (k : IntKind) (a b : Int) : intOp .leq k a b = some (.bool (decide (a ≤ b))) := Eq.trans rfl rfl
theorem int_gtr (k : IntKind) (a b : Int) : intOp .gtr k a b = some (.bool (decide (b < a))) := Eq.trans rfl rfl
theorem int_geq (k : IntKind) (a b : Int) : intOp .geq k a b = some (.bool (decide (b ≤ a))) := Eq.trans rfl rfl
theorem str_neq (a b : ByteArray) : strOp .neq a b = some (.bool (!decide (a = b))) := Eq.trans rfl rfl
theorem un_not (b : Bool) : unD .not (.lit (.bool b)) = some (.bool !b) := Eq.trans rfl rfl
theorem un_neg (k : IntKind) (n : Int) : unD .neg (.lit (.int k n)) = some (.lit (.int k (k.wrap (0 - n)))) := Eq.trans rfl rfl

theorem wrap64 (n : Int) (h1 : -9223372036854775808 ≤ n) (h2 : n ≤ 9223372036854775807) : IntKind.i64.wrap n = n := by
  unfold IntKind.wrap IntKind.bits IntKind.signed
  simp only [Bool.true_and, decide_eq_true_eq]
  split <;> omega

def plainA (C : Tab) : Ty → List D → Prop
  | .arr n e, l => l.length = n ∧ plainAll C e l
  | .struct fs, l => plainEach C fs l
  | _, _ => False
theorem plainA_struct (fs : List TypeId) (l : List D) : plainA C (.struct fs) l = plainEach C fs l := Eq.trans rfl rfl
theorem plain_agg (t : TypeId) (l : List D) : plain C t (.agg l) = plainA C (C.ty t) l := by
  unfold plain plainA
  cases C.ty t <;> rfl
theorem plainEach_nil : plainEach C [] [] = True := by simp [plainEach]
theorem plainEach_cons (f : TypeId) (fs : List TypeId) (d : D) (r : List D) : plainEach C (f :: fs) (d :: r) = (plain C f d ∧ plainEach C fs r) := by simp [plainEach]
theorem plain_int (t : TypeId) (k : IntKind) (n : Int) : plain C t (.lit (.int k n)) = (C.ty t = .int k) := by simp [plain]



/-- A load, its variable at hand. -/
def loadB (C : Tab) (t : TypeId) (p : List Nat) (y : Option (Sh × D)) : Option D :=
  match y with
  | some (sh, d) => if sh.at p = some (C.sh t) ∧ C.ty t ≠ .bad then d.get p else none
  | none => none
theorem loadD_ptr (bs : List (Sh × D)) (tk : List Bool) (t : TypeId) (b : Nat) (p : List Nat) : loadD C ⟨bs, tk⟩ t (.ptr b p) = loadB C t p bs[b]? := by
  simp only [loadD, loadB]
  cases bs[b]? <;> rfl
theorem loadB_some (t : TypeId) (p : List Nat) (sh : Sh) (d : D) (h1 : sh.at p = some (C.sh t)) (h2 : C.ty t ≠ .bad) : loadB C t p (some (sh, d)) = d.get p := by simp [loadB, h1, h2]
theorem loadD_ref (h : Heap) (t : TypeId) (s : Sh) (d : D) (h1 : s = C.sh t) (h2 : C.ty t ≠ .bad) : loadD C h t (.ref s d) = some d := by simp [loadD, h1, h2]

theorem at_nil (s : Sh) : s.at [] = some s := Eq.trans rfl rfl
def atO (s : Option Sh) (p : List Nat) : Option Sh := match s with | some s => s.at p | none => none
theorem atO_some (s : Sh) (p : List Nat) : atO (some s) p = s.at p := Eq.trans rfl rfl
theorem at_cons (s : Sh) (k : Nat) (p : List Nat) : s.at (k :: p) = atO (s.kid k) p := by
  simp only [Sh.at, atO]
  cases s.kid k <;> rfl
theorem kid_pair_zero (a b : Sh) : (Sh.pair a b).kid 0 = some a := Eq.trans rfl rfl
theorem kid_pair_succ (a b : Sh) (k : Nat) : (Sh.pair a b).kid (k + 1) = b.kid k := Eq.trans rfl rfl
theorem kid_arr (n k : Nat) (s : Sh) (h : k < n) : (Sh.arr n s).kid k = some s := by simp [Sh.kid, h]

theorem get_nil (d : D) : d.get [] = some d := Eq.trans rfl rfl
def getO (d : Option D) (p : List Nat) : Option D := match d with | some d => d.get p | none => none
theorem getO_some (d : D) (p : List Nat) : getO (some d) p = d.get p := Eq.trans rfl rfl
theorem get_cons (d : D) (k : Nat) (p : List Nat) : d.get (k :: p) = getO (d.kid k) p := by
  simp only [D.get, getO]
  cases d.kid k <;> rfl
theorem dkid_agg (l : List D) (k : Nat) : (D.agg l).kid k = l[k]? := Eq.trans rfl rfl

theorem get_ints (l : List Int) (k : Nat) (h : (k < l.length) = True) : (l.map fun n => D.lit (.int .i64 n))[k]? = some (.lit (.int .i64 (l.getD k 0))) := by
  have h := of_eq_true h
  simp [h]
theorem put_nil (d x : D) : d.put [] x = x := Eq.trans rfl rfl
def putO (d : D) (k : Nat) (y : Option D) (p : List Nat) (x : D) : D := match y with | some y => d.setKid k (y.put p x) | none => d
theorem putO_some (d : D) (k : Nat) (y : D) (p : List Nat) (x : D) : putO d k (some y) p x = d.setKid k (y.put p x) := Eq.trans rfl rfl
theorem put_cons (d : D) (k : Nat) (p : List Nat) (x : D) : d.put (k :: p) x = putO d k (d.kid k) p x := by
  simp only [D.put, putO]
  cases d.kid k <;> rfl
theorem setKid_agg (l : List D) (k : Nat) (x : D) : (D.agg l).setKid k x = .agg (l.set k x) := Eq.trans rfl rfl

def stepB (C : Tab) (t : TypeId) (k b : Nat) (p : List Nat) (y : Option (Sh × D)) : Option D :=
  match y with
  | some (sh, _) => if sh.at p = some (C.sh t) then (C.kidTy t k).map fun _ => .ptr b (p ++ [k]) else none
  | none => none
theorem stepD_ptr (bs : List (Sh × D)) (tk : List Bool) (t : TypeId) (k b : Nat) (p : List Nat) : stepD C ⟨bs, tk⟩ t k (.ptr b p) = stepB C t k b p bs[b]? := by
  simp only [stepD, stepB]
  cases bs[b]? <;> rfl
def kidOf : Ty → Nat → Option TypeId
  | .struct fs, k => fs[k]?
  | .arr n e, k => if k < n then some e else none
  | _, _ => none
theorem kidTy_of (t : TypeId) (k : Nat) : C.kidTy t k = kidOf (C.ty t) k := by
  unfold Tab.kidTy kidOf
  cases C.ty t <;> rfl
theorem kidOf_struct (fs : List TypeId) (k : Nat) : kidOf (.struct fs) k = fs[k]? := Eq.trans rfl rfl
theorem kidOf_arr (n k : Nat) (e : TypeId) (h : k < n) : kidOf (.arr n e) k = some e := by simp [kidOf, h]
def stepQ (b : Nat) (p : List Nat) (k : Nat) (u : Option TypeId) : Option D := match u with | some _ => some (.ptr b (p ++ [k])) | none => none
theorem stepQ_some (b : Nat) (p : List Nat) (k : Nat) (u : TypeId) : stepQ b p k (some u) = some (.ptr b (p ++ [k])) := Eq.trans rfl rfl
theorem stepB_some (t : TypeId) (k b : Nat) (p : List Nat) (sh : Sh) (d : D) (h : sh.at p = some (C.sh t)) : stepB C t k b p (some (sh, d)) = stepQ b p k (kidOf (C.ty t) k) := by
  simp only [stepB, h, if_true, kidTy_of, stepQ]
  cases kidOf (C.ty t) k <;> rfl
def stepR (C : Tab) (u : Option TypeId) (x : Option D) : Option D := match u, x with | some u, some x => some (.ref (C.sh u) x) | _, _ => none
theorem stepR_some (u : TypeId) (x : D) : stepR C (some u) (some x) = some (.ref (C.sh u) x) := Eq.trans rfl rfl
theorem stepD_ref (h : Heap) (t : TypeId) (k : Nat) (s : Sh) (d : D) (hs : s = C.sh t) : stepD C h t k (.ref s d) = stepR C (kidOf (C.ty t) k) (d.kid k) := by
  simp only [stepD, hs, if_true, kidTy_of, stepR]
  cases kidOf (C.ty t) k <;> cases d.kid k <;> rfl

def arrIdx (u : Ty) (i : Int) (x : Option D) : Option D := match u with | .arr n _ => if 0 ≤ i ∧ i < n then x else none | _ => none
theorem arrIdx_arr (n : Nat) (e : TypeId) (i : Int) (x : Option D) (h1 : 0 ≤ i) (h2 : i.toNat < n) : arrIdx (.arr n e) i x = x := by
  have h3 : i < n := by omega
  simp [arrIdx, h1, h3]
theorem indexAddr_ptr (h : Heap) (t : TypeId) (b : Nat) (p : List Nat) (k : IntKind) (i : Int) : indexAddrD C h t (.ptr b p) (.lit (.int k i)) = arrIdx (C.ty t) i (stepD C h t i.toNat (.ptr b p)) := by
  simp only [indexAddrD, arrIdx]
  cases C.ty t <;> rfl
theorem indexAddr_lst (h : Heap) (t e : TypeId) (l : List D) (tk : Tok) (k : IntKind) (i : Int) (ht : C.ty t = .slice e) (h1 : 0 ≤ i) (h2 : i.toNat < l.length) : indexAddrD C h t (.lst e l tk) (.lit (.int k i)) = (l[i.toNat]?).map (.ref (C.sh e)) := by
  have h2 : i < l.length := by omega
  simp [indexAddrD, ht, h1, h2]

theorem hasSh_leaf (d : D) : hasSh .leaf d = (d.isLeaf = true) := Eq.trans rfl rfl
theorem hasSh_unit : hasSh .unit (.agg []) = True := by simp [hasSh]
theorem hasSh_pair (a b : Sh) (x : D) (r : List D) : hasSh (.pair a b) (.agg (x :: r)) = (hasSh a x ∧ hasSh b (.agg r)) := by
  apply propext
  constructor
  · rintro ⟨x', r', h, h1, h2⟩
    cases h; exact ⟨h1, h2⟩
  · rintro ⟨h1, h2⟩; exact ⟨x, r, rfl, h1, h2⟩
theorem hasSh_ints (n : Nat) (l : List Int) (h : l.length = n) : hasSh (.arr n .leaf) (.agg (l.map fun n => .lit (.int .i64 n))) = True := by
  simp only [hasSh, List.length_map, h, true_and, List.mem_map, forall_exists_index, and_imp, eq_iff_iff, iff_true]
  rintro x y _ rfl; rfl
theorem isLeaf_int (k : IntKind) (n : Int) : (D.lit (.int k n)).isLeaf = true := Eq.trans rfl rfl
theorem isLeaf_bool (b : Bool) : (D.lit (.bool b)).isLeaf = true := Eq.trans rfl rfl
theorem isLeaf_str (s : ByteArray) : (D.lit (.string s)).isLeaf = true := Eq.trans rfl rfl
theorem isLeaf_lst (e : TypeId) (l : List D) (t : Tok) : (D.lst e l t).isLeaf = true := Eq.trans rfl rfl
theorem isLeaf_fn (f : Fn) (l : List D) : (D.fn f l).isLeaf = true := Eq.trans rfl rfl

theorem erase_agg (l : List D) : erase (.agg l) = .agg (l.map erase) := by simp [erase, eraseL_map]
theorem erase_lit (v : Value) : erase (.lit v) = .lit v := by simp [erase]
theorem erase_lst (e : TypeId) (l : List D) (t : Tok) : erase (.lst e l t) = .lst e l .no := by simp [erase]
theorem erase_tup (l : List D) : erase (.tup l) = .tup (l.map erase) := by simp [erase, eraseL_map]
theorem mapErase_ints (l : List Int) : List.map erase (l.map fun n => D.lit (.int .i64 n)) = l.map fun n => D.lit (.int .i64 n) := by
  rw [List.map_map]; congr 1
theorem pureD_lit (v : Value) : pureD (.lit v) = True := by simp [pureD]
theorem pureD_agg (l : List D) : pureD (.agg l) = pureL l := by simp [pureD]
theorem pureD_no (e : TypeId) (l : List D) : pureD (.lst e l .no) = True := by simp [pureD]
theorem pureD_full (e : TypeId) (l : List D) : pureD (.lst e l .full) = True := by simp [pureD]
theorem pureL_nil : pureL [] = True := by simp [pureL]
theorem pureL_cons (d : D) (r : List D) : pureL (d :: r) = (pureD d ∧ pureL r) := by simp [pureL]
theorem pureL_ints (l : List Int) : pureL (l.map fun n => .lit (.int .i64 n)) = True := by
  induction l with
  | nil => simp [pureL]
  | cons a r ih => simp [pureL, pureD, ih]
theorem pureL_map {α : Type} (l : List α) (f : α → D) (h : ∀ x, pureD (f x)) : pureL (l.map f) = True := by
  induction l with
  | nil => simp [pureL]
  | cons a r ih => simp [pureL, h, ih]
theorem pureR_lit (v : Value) : pureR (.lit v) = True := by simp [pureR, pureD]
theorem pureR_agg (l : List D) : pureR (.agg l) = pureL l := by simp [pureR, pureD]
theorem pureR_no (e : TypeId) (l : List D) : pureR (.lst e l .no) = True := by simp [pureR, pureD]
theorem pureR_tup (l : List D) : pureR (.tup l) = pureL l := by simp [pureR]

theorem len_slice (h : Heap) (t e : TypeId) (ts : List TypeId) (l : List D) (tk : Tok) (ht : C.ty t = .slice e) : builtinD C h .len (t :: ts) [.lst e l tk] = some (.int l.length) := by
  simp [builtinD, nrm, lenD, ht]
theorem len_str (h : Heap) (t : TypeId) (ts : List TypeId) (s : ByteArray) (ht : C.ty t = .str) : builtinD C h .len (t :: ts) [.lit (.string s)] = some (.int s.size) := by
  simp [builtinD, nrm, lenD, ht]


def bindQ (u : Option TypeId) (x : Option D) : Option D := match u with | some _ => x | none => none
theorem bindQ_some (u : TypeId) (x : Option D) : bindQ (some u) x = x := Eq.trans rfl rfl
theorem field_agg (t : TypeId) (k : Nat) (l : List D) (h : hasSh (C.sh t) (.agg l)) : fieldD C t k (.agg l) = bindQ (kidOf (C.ty t) k) l[k]? := by
  simp only [fieldD, h, if_true, kidTy_of, bindQ]
  cases kidOf (C.ty t) k <;> rfl
theorem build_ok (t : TypeId) (e : Operand → D) (l : List (Nat × Operand)) (h1 : C.ty t ≠ .bad) (h2 : (C.ty t).isAgg = true) (h3 : partsOk C t e l) : buildK C t e l = some (partsIn C t e l (C.zero t)) := by
  unfold buildK; rw [if_pos ⟨h1, h2, h3⟩]
def partO (C : Tab) (u : Option TypeId) (d : D) : Prop := match u with | some u => hasSh (C.sh u) (nrm C u d) | none => False
theorem partO_some (u : TypeId) (d : D) : partO C (some u) d = hasSh (C.sh u) (nrm C u d) := Eq.trans rfl rfl
theorem partsOk_nil (t : TypeId) (e : Operand → D) : partsOk C t e [] = True := by simp [partsOk]
theorem partsOk_cons (t : TypeId) (e : Operand → D) (i : Nat) (x : Operand) (r : List (Nat × Operand)) : partsOk C t e ((i, x) :: r) = (partO C (kidOf (C.ty t) i) (e x) ∧ partsOk C t e r) := by
  simp only [partsOk, kidTy_of, partO]
  cases kidOf (C.ty t) i <;> rfl
def kidG (u : Option TypeId) : TypeId := u.getD 0
theorem kidG_some (u : TypeId) : kidG (some u) = u := Eq.trans rfl rfl
theorem partsIn_nil (t : TypeId) (e : Operand → D) (d : D) : partsIn C t e [] d = d := Eq.trans rfl rfl
theorem partsIn_cons (t : TypeId) (e : Operand → D) (i : Nat) (x : Operand) (r : List (Nat × Operand)) (d : D) : partsIn C t e ((i, x) :: r) d = partsIn C t e r (d.setKid i (nrm C (kidG (kidOf (C.ty t) i)) (e x))) := by
  rw [← kidTy_of]; rfl
theorem elemsOk_nil (u : TypeId) (n : Nat) (e : Operand → D) : elemsOk C u n e [] = True := by simp [elemsOk]
theorem elemsOk_cons (u : TypeId) (n : Nat) (e : Operand → D) (i : Nat) (x : Operand) (r : List (Nat × Operand)) : elemsOk C u n e ((i, x) :: r) = (i < n ∧ hasSh (C.sh u) (nrm C u (e x)) ∧ pureD (nrm C u (e x)) ∧ elemsOk C u n e r) := Eq.trans rfl rfl
theorem elemsIn_nil (u : TypeId) (e : Operand → D) (l : List D) : elemsIn C u e [] l = l := Eq.trans rfl rfl
theorem elemsIn_cons (u : TypeId) (e : Operand → D) (i : Nat) (x : Operand) (r : List (Nat × Operand)) (l : List D) : elemsIn C u e ((i, x) :: r) l = elemsIn C u e r (l.set i (nrm C u (e x))) := Eq.trans rfl rfl
theorem bslice_ok (u : TypeId) (n : Nat) (e : Operand → D) (l : List (Nat × Operand)) (h1 : n * (C.sh u).size ≤ 16777216) (h2 : pureD (C.zero u)) (h3 : elemsOk C u n e l) : bsliceK C (.slice u) n e l = some (.lst u (elemsIn C u e l (List.replicate n (C.zero u))) .full) := by
  rw [bsliceK_slice, if_pos ⟨h1, h2, h3⟩]
theorem size_leaf : Sh.leaf.size = 1 := Eq.trans rfl rfl
theorem size_unit : Sh.unit.size = 0 := Eq.trans rfl rfl
theorem size_pair (a b : Sh) : (Sh.pair a b).size = a.size + b.size := Eq.trans rfl rfl
theorem agg_struct (fs : List TypeId) : (Ty.struct fs).isAgg = true := Eq.trans rfl rfl
def tokC (b n : Nat) (t : Tok) : Tok := if b = n then t else .no
theorem tokC_no (b n : Nat) : tokC b n .no = .no := by simp [tokC]
theorem slice_lo (t e : TypeId) (l : List D) (tk : Tok) (k : IntKind) (a : Int) (ht : C.ty t = .slice e) (h0 : 0 ≤ a) (h1 : a.toNat ≤ l.length) : sliceD C t (.lst e l tk) (some (.lit (.int k a))) none none = some (.lst e (l.drop a.toNat) (tokC l.length l.length tk)) := by
  simp [sliceD, ht, boundD, natOf, h0, h1, tokC]

-- tables: arrays of arrays of integers

theorem get_last {α : Type} (l : List α) (a : α) : (l ++ [a])[l.length]? = some a := by simp
theorem set_last {α : Type} (l : List α) (a b : α) : (l ++ [a]).set l.length b = l ++ [b] := by simp

-- CONDITIONS FOR simp (by mkcond.py)
theorem binD_agg_eql_t (t : TypeId) (l m : List D) (h1 : (plain C t (.agg l)) = True) (h2 : (plain C t (.agg m)) = True) : binD C .eql t (.agg l) (.agg m) = some (.bool (eqB (.agg l) (.agg m))) := by
  exact binD_agg_eql _ _ _ (of_eq_true h1) (of_eq_true h2)
theorem binD_agg_neq_t (t : TypeId) (l m : List D) (h1 : (plain C t (.agg l)) = True) (h2 : (plain C t (.agg m)) = True) : binD C .neq t (.agg l) (.agg m) = some (.bool (!eqB (.agg l) (.agg m))) := by
  exact binD_agg_neq _ _ _ (of_eq_true h1) (of_eq_true h2)
theorem loadB_some_t (t : TypeId) (p : List Nat) (sh : Sh) (d : D) (h1 : (sh.at p = some (C.sh t)) = True) (h2 : (C.ty t ≠ .bad) = True) : loadB C t p (some (sh, d)) = d.get p := by
  exact loadB_some _ _ _ _ (of_eq_true h1) (of_eq_true h2)
theorem loadD_ref_t (h : Heap) (t : TypeId) (s : Sh) (d : D) (h1 : (s = C.sh t) = True) (h2 : (C.ty t ≠ .bad) = True) : loadD C h t (.ref s d) = some d := by
  exact loadD_ref _ _ _ _ (of_eq_true h1) (of_eq_true h2)
theorem kid_arr_t (n k : Nat) (s : Sh) (h : (k < n) = True) : (Sh.arr n s).kid k = some s := by
  exact kid_arr _ _ _ (of_eq_true h)
theorem kidOf_arr_t (n k : Nat) (e : TypeId) (h : (k < n) = True) : kidOf (.arr n e) k = some e := by
  exact kidOf_arr _ _ _ (of_eq_true h)
theorem stepB_some_t (t : TypeId) (k b : Nat) (p : List Nat) (sh : Sh) (d : D) (h : (sh.at p = some (C.sh t)) = True) : stepB C t k b p (some (sh, d)) = stepQ b p k (kidOf (C.ty t) k) := by
  exact stepB_some _ _ _ _ _ _ (of_eq_true h)
theorem stepD_ref_t (h : Heap) (t : TypeId) (k : Nat) (s : Sh) (d : D) (hs : (s = C.sh t) = True) : stepD C h t k (.ref s d) = stepR C (kidOf (C.ty t) k) (d.kid k) := by
  exact stepD_ref _ _ _ _ _ (of_eq_true hs)
theorem arrIdx_arr_t (n : Nat) (e : TypeId) (i : Int) (x : Option D) (h1 : (0 ≤ i) = True) (h2 : (i.toNat < n) = True) : arrIdx (.arr n e) i x = x := by
  exact arrIdx_arr _ _ _ _ (of_eq_true h1) (of_eq_true h2)
theorem indexAddr_lst_t (h : Heap) (t e : TypeId) (l : List D) (tk : Tok) (k : IntKind) (i : Int) (ht : (C.ty t = .slice e) = True) (h1 : (0 ≤ i) = True) (h2 : (i.toNat < l.length) = True) : indexAddrD C h t (.lst e l tk) (.lit (.int k i)) = (l[i.toNat]?).map (.ref (C.sh e)) := by
  exact indexAddr_lst _ _ _ _ _ _ _ (of_eq_true ht) (of_eq_true h1) (of_eq_true h2)
theorem hasSh_ints_t (n : Nat) (l : List Int) (h : (l.length = n) = True) : hasSh (.arr n .leaf) (.agg (l.map fun n => .lit (.int .i64 n))) = True := by
  exact hasSh_ints _ _ (of_eq_true h)
theorem len_slice_t (h : Heap) (t e : TypeId) (ts : List TypeId) (l : List D) (tk : Tok) (ht : (C.ty t = .slice e) = True) : builtinD C h .len (t :: ts) [.lst e l tk] = some (.int l.length) := by
  exact len_slice _ _ _ _ _ _ (of_eq_true ht)
theorem len_str_t (h : Heap) (t : TypeId) (ts : List TypeId) (s : ByteArray) (ht : (C.ty t = .str) = True) : builtinD C h .len (t :: ts) [.lit (.string s)] = some (.int s.size) := by
  exact len_str _ _ _ _ (of_eq_true ht)
theorem field_agg_t (t : TypeId) (k : Nat) (l : List D) (h : (hasSh (C.sh t) (.agg l)) = True) : fieldD C t k (.agg l) = bindQ (kidOf (C.ty t) k) l[k]? := by
  exact field_agg _ _ _ (of_eq_true h)
theorem build_ok_t (t : TypeId) (e : Operand → D) (l : List (Nat × Operand)) (h1 : (C.ty t ≠ .bad) = True) (h2 : ((C.ty t).isAgg = true) = True) (h3 : (partsOk C t e l) = True) : buildK C t e l = some (partsIn C t e l (C.zero t)) := by
  exact build_ok _ _ _ (of_eq_true h1) (of_eq_true h2) (of_eq_true h3)
theorem bslice_ok_t (u : TypeId) (n : Nat) (e : Operand → D) (l : List (Nat × Operand)) (h1 : (n * (C.sh u).size ≤ 16777216) = True) (h2 : (pureD (C.zero u)) = True) (h3 : (elemsOk C u n e l) = True) : bsliceK C (.slice u) n e l = some (.lst u (elemsIn C u e l (List.replicate n (C.zero u))) .full) := by
  exact bslice_ok _ _ _ _ (of_eq_true h1) (of_eq_true h2) (of_eq_true h3)
theorem slice_lo_t (t e : TypeId) (l : List D) (tk : Tok) (k : IntKind) (a : Int) (ht : (C.ty t = .slice e) = True) (h0 : (0 ≤ a) = True) (h1 : (a.toNat ≤ l.length) = True) : sliceD C t (.lst e l tk) (some (.lit (.int k a))) none none = some (.lst e (l.drop a.toNat) (tokC l.length l.length tk)) := by
  exact slice_lo _ _ _ _ _ _ (of_eq_true ht) (of_eq_true h0) (of_eq_true h1)
theorem block_exit_same (Q : AExit → St → Prop) (ts : List D) (h : Heap) (id : Nat) : AExit.inBlock id Q (.exit id) ⟨ts, h⟩ = Q .normal ⟨ts, h⟩ := by simp [AExit.inBlock]
theorem block_exit_ne (Q : AExit → St → Prop) (ts : List D) (h : Heap) (id i : Nat) (hi : (i = id) = False) : AExit.inBlock id Q (.exit i) ⟨ts, h⟩ = Q (.exit i) ⟨ts, h⟩ := by simp [AExit.inBlock, hi]
theorem len_sl_t (h : Heap) (t e : TypeId) (ts : List TypeId) (b lo n c : Nat) (ht : (C.ty t = .slice e) = True) : builtinD C h .len (t :: ts) [.sl e b lo n c] = some (.int n) := by
  have ht := of_eq_true ht
  simp [builtinD, nrm, lenD, ht]
theorem cap_sl_t (h : Heap) (t e : TypeId) (ts : List TypeId) (b lo n c : Nat) (ht : (C.ty t = .slice e) = True) : builtinD C h .cap (t :: ts) [.sl e b lo n c] = some (.int c) := by
  have ht := of_eq_true ht
  simp [builtinD, nrm, capD, ht]
theorem nrm_mref (t : TypeId) (b : Nat) : nrm C t (.mref b) = .mref b := Eq.trans rfl rfl
theorem nrm_sl (t e : TypeId) (b lo n c : Nat) : nrm C t (.sl e b lo n c) = .sl e b lo n c := Eq.trans rfl rfl
theorem isLeaf_mref (b : Nat) : (D.mref b).isLeaf = true := Eq.trans rfl rfl
theorem nrm_map (t : TypeId) (m : Option Nat) : nrm C t (.lit (.map m)) = .lit (.map m) := Eq.trans rfl rfl
theorem indexAddr_sl_t (h : Heap) (t e : TypeId) (b lo n c : Nat) (k : IntKind) (i : Int) (ht : (C.ty t = .slice e) = True) (h0 : (0 ≤ i) = True) (h1 : (i.toNat < n) = True) : indexAddrD C h t (.sl e b lo n c) (.lit (.int k i)) = some (.ptr b [lo + i.toNat]) := by
  have ht := of_eq_true ht
  have h0 := of_eq_true h0
  have h1 := of_eq_true h1
  have : 0 ≤ i ∧ i < (n : Int) := ⟨h0, by omega⟩
  simp [indexAddrD, ht, this]
end
attribute [go_sem] aop_insert aop_mapEntry aop_entryStore thenC_normal thenC_exit thenC_ret len_sl_t cap_sl_t nrm_mref nrm_sl nrm_map isLeaf_mref indexAddr_sl_t aop_lookup aop_entry aop_cap aop_makeMap aop_mapUpdate aop_delete aop_range aop_next
attribute [go_sem] get_last set_last consO_some pickL_nil pickL_cons next1_some ev_tmp ev_const ev_func guardK_tt guardK_tf guardK_ft guardK_ff guardK_no skipTo_at skipToD_at aops_nil aopsD_nil aops_cons aopsD_cons aops_guard aopsD_guard yieldB_bool yieldB_undef yieldAt_some yieldedD_N dstN_zero dstN_succ aop_move aopD_move aop_assign aopD_assign pickD_b aop_pick aopD_pick aop_load aopD_load aop_nilCheck aopD_nilCheck aop_binOp_t aopD_binOp_t aop_binOp_i aopD_binOp_i aop_unOp aopD_unOp aop_makeFunc aop_iface aop_build aopD_build aop_buildSlice aopD_buildSlice ifStruct_struct aop_fieldAddr aopD_fieldAddr aop_field aop_indexAddr aopD_indexAddr aop_slice aopD_slice extrD_tup aop_extract aop_len aopD_len aop_alloc aop_box storeK_ptr storeB_some aop_store aopD_store aop_append aop_call aopD_call awp_skip awp_region awp_draw awp_seq condK_tt condK_ff awp_cond awp_block awp_scope awp_label awp_exit awp_ret then_normal then_exit then_ret block_normal block_exit_same block_exit_ne block_ret endR_some endK_ret res_tmp res_cell tup2_some res_two resD_tmp resD_cell res_none nrm_agg nrm_lst nrm_ptr nrm_fn nrm_tup nrm_ifc nrm_int nrm_bool nrm_str nrm_func nilOf_slice nrm_nil argsD_nil argsD_cons binD_int binD_str binD_agg_eql_t binD_agg_neq_t int_add int_sub int_eql int_neq int_lss int_leq int_gtr int_geq str_neq un_not un_neg plain_agg plainA_struct plainEach_nil plainEach_cons plain_int loadD_ptr loadB_some_t loadD_ref_t at_nil atO_some at_cons kid_pair_zero kid_pair_succ kid_arr_t get_nil getO_some get_cons dkid_agg get_ints put_nil putO_some put_cons setKid_agg stepD_ptr kidTy_of kidOf_struct kidOf_arr_t stepQ_some stepB_some_t stepR_some stepD_ref_t arrIdx_arr_t indexAddr_ptr indexAddr_lst_t hasSh_leaf hasSh_unit hasSh_pair hasSh_ints_t isLeaf_int isLeaf_bool isLeaf_str isLeaf_lst isLeaf_fn erase_agg erase_lit erase_lst erase_tup mapErase_ints pureD_lit pureD_agg pureD_no pureD_full pureL_nil pureL_cons pureL_ints pureR_lit pureR_agg pureR_no pureR_tup len_slice_t len_str_t bindQ_some field_agg_t build_ok_t partO_some partsOk_nil partsOk_cons kidG_some partsIn_nil partsIn_cons elemsOk_nil elemsOk_cons elemsIn_nil elemsIn_cons bslice_ok_t size_leaf size_unit size_pair agg_struct tokC_no slice_lo_t put_some put_none Int.natCast_nonneg Int.toNat_natCast List.length_map List.length_set List.set_cons_succ List.set_cons_zero List.getD_cons_succ List.getD_cons_zero List.getElem?_cons_succ List.getElem?_cons_zero List.length_cons List.length_nil List.cons_append List.nil_append List.replicate_succ List.replicate_zero List.map_cons List.map_nil List.append_nil ne_eq not_false_eq_true and_self true_and and_true if_true if_false Bool.false_eq_true Option.map_some Option.map_none Option.bind_some List.append_eq zeros_len eq_self Bool.not_false Bool.not_true decide_true decide_false

attribute [go_sem] beq_self_eq_true aop_assert assert_ifc aop_invoke aopD_invoke invK_ifc invD_ifc methK_some methD_some
end Go.Ab
