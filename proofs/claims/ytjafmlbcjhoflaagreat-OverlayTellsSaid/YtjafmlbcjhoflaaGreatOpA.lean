/- Ops and transactions: which may be; the document's functions. Conditions: none. -/
import Derived.Test.YtjafmlbcjhoflaaGreatAbT
open Nat (reduceAdd reduceSub reduceMul reduceLT reduceLeDiff reduceEqDiff)
open Int (reduceToNat reduceLE reduceEq)
set_option linter.unusedSimpArgs false
namespace Go.Ab
open Go.Proofs

def vpeer (p : Int) : Bool := decide (1 ≤ p) && decide (p ≤ 12)
theorem vpeer_of {p : Int} (h : vpeer p = true) : 0 ≤ p ∧ p.toNat < 13 := by
  simp only [vpeer, Bool.and_eq_true, decide_eq_true_eq] at h; omega

theorem ref_peer (p : Int) : PSpec Tryz.prog CT 24 [.lit (.int .i64 p)] (· = .bool (vpeer p)) := by
  refine PSpec.of hT Tryz.func24 rfl (by kernel_rfl) rfl rfl ?_
  simp only [Tryz.f24, go_sem, reduceAdd, reduceSub, reduceMul, reduceLT, reduceLeDiff, ↓reduceIte, reduceCtorEq, reduceEqDiff, reduceToNat, Int.reduceLT, reduceLE, reduceEq]
  (repeat' (first | ((refine guardK_split (fun hg => ?_) (fun hg => ?_)) <;> (try simp only [go_sem, reduceAdd, reduceSub, reduceMul, reduceLT, reduceLeDiff, ↓reduceIte, reduceCtorEq, reduceEqDiff, reduceToNat, Int.reduceLT, reduceLE, reduceEq, hg, vpeer, Bool.true_and, Bool.false_and])) | ((refine condK_split (fun hg => ?_) (fun hg => ?_)) <;> (try simp only [go_sem, reduceAdd, reduceSub, reduceMul, reduceLT, reduceLeDiff, ↓reduceIte, reduceCtorEq, reduceEqDiff, reduceToNat, Int.reduceLT, reduceLE, reduceEq, hg, vpeer, Bool.true_and, Bool.false_and])) | ((refine Or.inl ⟨by kernel_rfl, ?_⟩) <;> (try simp only [go_sem, reduceAdd, reduceSub, reduceMul, reduceLT, reduceLeDiff, ↓reduceIte, reduceCtorEq, reduceEqDiff, reduceToNat, Int.reduceLT, reduceLE, reduceEq, vpeer, Bool.true_and, Bool.false_and])))) <;> (first | done | skip)

theorem eqB_cons (x y : D) (l m : List D) : eqB (.agg (x :: l)) (.agg (y :: m)) = (eqB x y && eqB (.agg l) (.agg m)) := by
  rw [Bool.eq_iff_iff, Bool.and_eq_true]; simp [eqB_true]
theorem eqB_nil : eqB (.agg []) (.agg []) = true := by simp [eqB_true]
theorem eqB_int (k : IntKind) (a b : Int) : eqB (.lit (.int k a)) (.lit (.int k b)) = decide (a = b) := eqB_eq (by simp)
theorem eqB_str (a b : ByteArray) : eqB (.lit (.string a)) (.lit (.string b)) = decide (a = b) := eqB_eq (by simp)

def named (s : ByteArray) : Bool := decide (1 ≤ (s.size : Int)) && decide ((s.size : Int) ≤ 64)
theorem ref_named (s : ByteArray) : PSpec Tryz.prog CT 173 [.str s] (· = .bool (named s)) := by
  refine PSpec.of hT Tryz.func173 rfl (by kernel_rfl) rfl rfl ?_
  simp only [Tryz.f173, go_sem, reduceAdd, reduceSub, reduceMul, reduceLT, reduceLeDiff, ↓reduceIte, reduceCtorEq, reduceEqDiff, reduceToNat, Int.reduceLT, reduceLE, reduceEq]
  (repeat' (first | ((refine guardK_split (fun hg => ?_) (fun hg => ?_)) <;> (try simp only [go_sem, reduceAdd, reduceSub, reduceMul, reduceLT, reduceLeDiff, ↓reduceIte, reduceCtorEq, reduceEqDiff, reduceToNat, Int.reduceLT, reduceLE, reduceEq, hg, named, Bool.true_and, Bool.false_and])) | ((refine condK_split (fun hg => ?_) (fun hg => ?_)) <;> (try simp only [go_sem, reduceAdd, reduceSub, reduceMul, reduceLT, reduceLeDiff, ↓reduceIte, reduceCtorEq, reduceEqDiff, reduceToNat, Int.reduceLT, reduceLE, reduceEq, hg, named, Bool.true_and, Bool.false_and])) | ((refine Or.inl ⟨by kernel_rfl, ?_⟩) <;> (try simp only [go_sem, reduceAdd, reduceSub, reduceMul, reduceLT, reduceLeDiff, ↓reduceIte, reduceCtorEq, reduceEqDiff, reduceToNat, Int.reduceLT, reduceLE, reduceEq, named, Bool.true_and, Bool.false_and])))) <;> (first | done | skip)

def fits (k a n : Int) : Bool :=
  if k = 1 then decide (a = 1) && decide (-1073741824 ≤ n) && decide (n ≤ 1073741824)
  else if k = 2 ∨ k = 3 then decide (a = 3) && decide (n = 0)
  else if k = 4 then (decide (a = 1) || decide (a = 2)) && decide (n = 0)
  else if k = 5 then (decide (a = 4) || decide (a = 2)) && decide (n = 0)
  else false
theorem ref_fits (k a n : Int) : PSpec Tryz.prog CT 174 [.int k, .int a, .int n] (· = .bool (fits k a n)) := by
  refine PSpec.of hT Tryz.func174 rfl (by kernel_rfl) rfl rfl ?_
  simp only [Tryz.f174, go_sem, reduceAdd, reduceSub, reduceMul, reduceLT, reduceLeDiff, ↓reduceIte, reduceCtorEq, reduceEqDiff, reduceToNat, Int.reduceLT, reduceLE, reduceEq]
  (repeat' (first | ((refine guardK_split (fun hg => ?_) (fun hg => ?_)) <;> (try simp only [go_sem, reduceAdd, reduceSub, reduceMul, reduceLT, reduceLeDiff, ↓reduceIte, reduceCtorEq, reduceEqDiff, reduceToNat, Int.reduceLT, reduceLE, reduceEq, hg])) | ((refine condK_split (fun hg => ?_) (fun hg => ?_)) <;> (try simp only [go_sem, reduceAdd, reduceSub, reduceMul, reduceLT, reduceLeDiff, ↓reduceIte, reduceCtorEq, reduceEqDiff, reduceToNat, Int.reduceLT, reduceLE, reduceEq, hg])) | ((refine Or.inl ⟨by kernel_rfl, ?_⟩) <;> (try simp only [go_sem, reduceAdd, reduceSub, reduceMul, reduceLT, reduceLeDiff, ↓reduceIte, reduceCtorEq, reduceEqDiff, reduceToNat, Int.reduceLT, reduceLE, reduceEq])))) <;> (first | done | (simp_all [fits]; done) | (simp_all [fits]; omega) | (simp_all [fits]; intros; omega) | (simp_all [fits]; grind))

def emptyS : ByteArray := ⟨#[]⟩
def texts (k a : Int) (s : ByteArray) : Bool :=
  if k = 1 ∨ a = 5 ∨ (k = 5 ∧ a = 2) then decide (s = ⟨#[]⟩) else decide ((s.size : Int) ≤ 64)
theorem ref_texts (k a : Int) (s : ByteArray) : PSpec Tryz.prog CT 175 [.int k, .int a, .str s] (· = .bool (texts k a s)) := by
  refine PSpec.of hT Tryz.func175 rfl (by kernel_rfl) rfl rfl ?_
  simp only [Tryz.f175, go_sem, reduceAdd, reduceSub, reduceMul, reduceLT, reduceLeDiff, ↓reduceIte, reduceCtorEq, reduceEqDiff, reduceToNat, Int.reduceLT, reduceLE, reduceEq]
  (repeat' (first | ((refine guardK_split (fun hg => ?_) (fun hg => ?_)) <;> (try simp only [go_sem, reduceAdd, reduceSub, reduceMul, reduceLT, reduceLeDiff, ↓reduceIte, reduceCtorEq, reduceEqDiff, reduceToNat, Int.reduceLT, reduceLE, reduceEq, hg])) | ((refine condK_split (fun hg => ?_) (fun hg => ?_)) <;> (try simp only [go_sem, reduceAdd, reduceSub, reduceMul, reduceLT, reduceLeDiff, ↓reduceIte, reduceCtorEq, reduceEqDiff, reduceToNat, Int.reduceLT, reduceLE, reduceEq, hg])) | ((refine Or.inl ⟨by kernel_rfl, ?_⟩) <;> (try simp only [go_sem, reduceAdd, reduceSub, reduceMul, reduceLT, reduceLeDiff, ↓reduceIte, reduceCtorEq, reduceEqDiff, reduceToNat, Int.reduceLT, reduceLE, reduceEq])))) <;> (first | done | (simp_all [texts]; done) | (simp_all [texts]; omega) | (simp_all [texts]; intros; omega) | (simp_all [texts]; grind))

def shape (kind : Int) (key field : ByteArray) (inner act n : Int) (text : ByteArray) : Int × Bool :=
  if kind < 1 ∨ 6 < kind ∨ named key = false then (0, false)
  else if kind = 6 then
    (if named field = false ∨ inner < 1 ∨ 5 < inner then (0, false)
     else if act = 5 then (inner, decide (n = 0) && decide (text = ⟨#[]⟩)) else (inner, fits inner act n && texts inner act text))
  else if field ≠ ⟨#[]⟩ ∨ inner ≠ 0 then (0, false) else (kind, fits kind act n && texts kind act text)
set_option maxRecDepth 8000 in
theorem ref_shape (kind : Int) (key field : ByteArray) (inner act n : Int) (text : ByteArray) :
    PSpec Tryz.prog CT 156 [.int kind, .str key, .str field, .int inner, .int act, .int n, .str text] (· = .tup [.int (shape kind key field inner act n text).1, .bool (shape kind key field inner act n text).2]) := by
  refine PSpec.of hT Tryz.func156 rfl (by kernel_rfl) rfl rfl ?_
  simp only [Tryz.f156, go_sem, reduceAdd, reduceSub, reduceMul, reduceLT, reduceLeDiff, ↓reduceIte, reduceCtorEq, reduceEqDiff, reduceToNat, Int.reduceLT, reduceLE, reduceEq]
  (repeat' (first | ((refine guardK_split (fun hg => ?_) (fun hg => ?_)) <;> (try simp only [go_sem, reduceAdd, reduceSub, reduceMul, reduceLT, reduceLeDiff, ↓reduceIte, reduceCtorEq, reduceEqDiff, reduceToNat, Int.reduceLT, reduceLE, reduceEq, hg])) | ((refine condK_split (fun hg => ?_) (fun hg => ?_)) <;> (try simp only [go_sem, reduceAdd, reduceSub, reduceMul, reduceLT, reduceLeDiff, ↓reduceIte, reduceCtorEq, reduceEqDiff, reduceToNat, Int.reduceLT, reduceLE, reduceEq, hg])) | ((first | apply callK_pure (ref_named _) | apply callD_pure (ref_named _)); (iterate 2 (focus (first | rfl | (simp only [go_sem]; done)))); try simp only [go_sem, reduceAdd, reduceSub, reduceMul, reduceLT, reduceLeDiff, ↓reduceIte, reduceCtorEq, reduceEqDiff, reduceToNat, Int.reduceLT, reduceLE, reduceEq]) | ((first | apply callK_pure (ref_fits _ _ _) | apply callD_pure (ref_fits _ _ _)); (iterate 2 (focus (first | rfl | (simp only [go_sem]; done)))); try simp only [go_sem, reduceAdd, reduceSub, reduceMul, reduceLT, reduceLeDiff, ↓reduceIte, reduceCtorEq, reduceEqDiff, reduceToNat, Int.reduceLT, reduceLE, reduceEq]) | ((first | apply callK_pure (ref_texts _ _ _) | apply callD_pure (ref_texts _ _ _)); (iterate 2 (focus (first | rfl | (simp only [go_sem]; done)))); try simp only [go_sem, reduceAdd, reduceSub, reduceMul, reduceLT, reduceLeDiff, ↓reduceIte, reduceCtorEq, reduceEqDiff, reduceToNat, Int.reduceLT, reduceLE, reduceEq]) | ((refine Or.inl ⟨by kernel_rfl, ?_⟩) <;> (try simp only [go_sem, reduceAdd, reduceSub, reduceMul, reduceLT, reduceLeDiff, ↓reduceIte, reduceCtorEq, reduceEqDiff, reduceToNat, Int.reduceLT, reduceLE, reduceEq])))) <;> (first | done | (simp_all [shape]; done) | (simp_all [shape]; omega) | (simp_all [shape]; intros; omega) | (simp_all [shape]; grind))

def places (leaf act : Int) : Bool := decide (leaf = 5) && decide (act ≠ 5)
theorem ref_places (leaf act : Int) : PSpec Tryz.prog CT 157 [.int leaf, .int act] (· = .bool (places leaf act)) := by
  refine PSpec.of hT Tryz.func157 rfl (by kernel_rfl) rfl rfl ?_
  simp only [Tryz.f157, go_sem, reduceAdd, reduceSub, reduceMul, reduceLT, reduceLeDiff, ↓reduceIte, reduceCtorEq, reduceEqDiff, reduceToNat, Int.reduceLT, reduceLE, reduceEq]
  (repeat' (first | ((refine guardK_split (fun hg => ?_) (fun hg => ?_)) <;> (try simp only [go_sem, reduceAdd, reduceSub, reduceMul, reduceLT, reduceLeDiff, ↓reduceIte, reduceCtorEq, reduceEqDiff, reduceToNat, Int.reduceLT, reduceLE, reduceEq, hg])) | ((refine condK_split (fun hg => ?_) (fun hg => ?_)) <;> (try simp only [go_sem, reduceAdd, reduceSub, reduceMul, reduceLT, reduceLeDiff, ↓reduceIte, reduceCtorEq, reduceEqDiff, reduceToNat, Int.reduceLT, reduceLE, reduceEq, hg])) | ((refine Or.inl ⟨by kernel_rfl, ?_⟩) <;> (try simp only [go_sem, reduceAdd, reduceSub, reduceMul, reduceLT, reduceLeDiff, ↓reduceIte, reduceCtorEq, reduceEqDiff, reduceToNat, Int.reduceLT, reduceLE, reduceEq])))) <;> (first | done | (simp_all [places]; done) | (simp_all [places]; omega) | (simp_all [places]; intros; omega) | (simp_all [places]; grind))

abbrev dotD (p s : Int) : D := .agg [.lit (.int .i64 p), .lit (.int .i64 s)]
abbrev markD (p s i : Int) : D := .agg [dotD p s, .lit (.int .i64 i)]
def dotOk (p s : Int) : Bool := vpeer p && decide (1 ≤ s) && decide (s ≤ 1048576)
def refd (p s i : Int) : Bool := decide (1 ≤ i) && decide (i ≤ 16) && (decide (p = 0 ∧ s = 0) || dotOk p s)
theorem ref_ref (p s i : Int) : PSpec Tryz.prog CT 158 [markD p s i] (· = .bool (refd p s i)) := by
  refine PSpec.of hT Tryz.func158 rfl (by kernel_rfl) rfl rfl ?_
  simp only [Tryz.f158, go_sem, reduceAdd, reduceSub, reduceMul, reduceLT, reduceLeDiff, ↓reduceIte, reduceCtorEq, reduceEqDiff, reduceToNat, Int.reduceLT, reduceLE, reduceEq]
  (repeat' (first | ((refine guardK_split (fun hg => ?_) (fun hg => ?_)) <;> (try simp only [go_sem, reduceAdd, reduceSub, reduceMul, reduceLT, reduceLeDiff, ↓reduceIte, reduceCtorEq, reduceEqDiff, reduceToNat, Int.reduceLT, reduceLE, reduceEq, hg, eqB_cons, eqB_nil, eqB_int, eqB_str, Bool.and_true])) | ((refine condK_split (fun hg => ?_) (fun hg => ?_)) <;> (try simp only [go_sem, reduceAdd, reduceSub, reduceMul, reduceLT, reduceLeDiff, ↓reduceIte, reduceCtorEq, reduceEqDiff, reduceToNat, Int.reduceLT, reduceLE, reduceEq, hg, eqB_cons, eqB_nil, eqB_int, eqB_str, Bool.and_true])) | ((first | apply callK_pure (ref_peer _) | apply callD_pure (ref_peer _)); (iterate 2 (focus (first | rfl | (simp only [go_sem, eqB_cons, eqB_nil, eqB_int, eqB_str, Bool.and_true]; done)))); try simp only [go_sem, reduceAdd, reduceSub, reduceMul, reduceLT, reduceLeDiff, ↓reduceIte, reduceCtorEq, reduceEqDiff, reduceToNat, Int.reduceLT, reduceLE, reduceEq, eqB_cons, eqB_nil, eqB_int, eqB_str, Bool.and_true]) | ((refine Or.inl ⟨by kernel_rfl, ?_⟩) <;> (try simp only [go_sem, reduceAdd, reduceSub, reduceMul, reduceLT, reduceLeDiff, ↓reduceIte, reduceCtorEq, reduceEqDiff, reduceToNat, Int.reduceLT, reduceLE, reduceEq, eqB_cons, eqB_nil, eqB_int, eqB_str, Bool.and_true])))) <;> (first | done | (simp_all [refd, dotOk]; done) | (simp_all [refd, dotOk]; omega) | (simp_all [refd, dotOk]; intros; omega) | (simp_all [refd, dotOk]; grind))

end Go.Ab
set_option linter.unusedSimpArgs false
namespace Go.Ab
open Go.Proofs

theorem wrapNat (k : Nat) (h : k < 4000000000) : IntKind.i64.wrap ((k : Int) + 1) = ((k + 1 : Nat) : Int) := by rw [wrap64] <;> omega

/-- An op's data. -/
structure OpR where
  kind : Int
  key : ByteArray
  field : ByteArray
  inner : Int
  act : Int
  n : Int
  text : ByteArray
  rp : Int
  rs : Int
  ri : Int
  deriving DecidableEq
abbrev opD (o : OpR) : D := .agg [.lit (.int .i64 o.kind), .lit (.string o.key), .lit (.string o.field), .lit (.int .i64 o.inner), .lit (.int .i64 o.act), .lit (.int .i64 o.n), .lit (.string o.text), markD o.rp o.rs o.ri]
/-- A transaction's data. -/
structure TxR where
  peer : Int
  seq : Int
  deps : List Int
  time : Int
  ops : List OpR
abbrev opsD (l : List OpR) : D := .lst 89 (l.map opD) .no
abbrev txD (t : TxR) : D := .agg [dotD t.peer t.seq, ints t.deps, .lit (.int .i64 t.time), opsD t.ops]

def noRef (o : OpR) : Bool := decide (o.rp = 0) && decide (o.rs = 0) && decide (o.ri = 0)
def checkOp (o : OpR) : Bool :=
  if o.kind = 7 then decide (o.key = ⟨#[]⟩) && decide (o.field = ⟨#[]⟩) && decide (o.inner = 0) && decide (o.text = ⟨#[]⟩) && noRef o && (decide (o.act = 1) || decide (o.act = 2)) && vpeer o.n
  else if (shape o.kind o.key o.field o.inner o.act o.n o.text).2 = false then false
  else if places (shape o.kind o.key o.field o.inner o.act o.n o.text).1 o.act = false then noRef o
  else refd o.rp o.rs o.ri || (noRef o && decide (o.act = 4))

set_option maxRecDepth 8000 in
theorem ref_checkOp (o : OpR) : PSpec Tryz.prog CT 135 [opD o] (· = .bool (checkOp o)) := by
  refine PSpec.of hT Tryz.func135 rfl (by kernel_rfl) rfl rfl ?_
  simp only [Tryz.f135, go_sem, reduceAdd, reduceSub, reduceMul, reduceLT, reduceLeDiff, ↓reduceIte, reduceCtorEq, reduceEqDiff, reduceToNat, Int.reduceLT, reduceLE, reduceEq]
  (repeat' (first | ((refine guardK_split (fun hg => ?_) (fun hg => ?_)) <;> (try simp only [go_sem, reduceAdd, reduceSub, reduceMul, reduceLT, reduceLeDiff, ↓reduceIte, reduceCtorEq, reduceEqDiff, reduceToNat, Int.reduceLT, reduceLE, reduceEq, hg, eqB_cons, eqB_nil, eqB_int, eqB_str, Bool.and_true, decide_true, Bool.true_and])) | ((refine condK_split (fun hg => ?_) (fun hg => ?_)) <;> (try simp only [go_sem, reduceAdd, reduceSub, reduceMul, reduceLT, reduceLeDiff, ↓reduceIte, reduceCtorEq, reduceEqDiff, reduceToNat, Int.reduceLT, reduceLE, reduceEq, hg, eqB_cons, eqB_nil, eqB_int, eqB_str, Bool.and_true, decide_true, Bool.true_and])) | ((first | apply callK_pure (ref_peer _) | apply callD_pure (ref_peer _)); (iterate 2 (focus (first | rfl | (simp only [go_sem, eqB_cons, eqB_nil, eqB_int, eqB_str, Bool.and_true, decide_true, Bool.true_and]; done)))); try simp only [go_sem, reduceAdd, reduceSub, reduceMul, reduceLT, reduceLeDiff, ↓reduceIte, reduceCtorEq, reduceEqDiff, reduceToNat, Int.reduceLT, reduceLE, reduceEq, eqB_cons, eqB_nil, eqB_int, eqB_str, Bool.and_true, decide_true, Bool.true_and]) | ((first | apply callK_pure (ref_shape _ _ _ _ _ _ _) | apply callD_pure (ref_shape _ _ _ _ _ _ _)); (iterate 2 (focus (first | rfl | (simp only [go_sem, eqB_cons, eqB_nil, eqB_int, eqB_str, Bool.and_true, decide_true, Bool.true_and]; done)))); try simp only [go_sem, reduceAdd, reduceSub, reduceMul, reduceLT, reduceLeDiff, ↓reduceIte, reduceCtorEq, reduceEqDiff, reduceToNat, Int.reduceLT, reduceLE, reduceEq, eqB_cons, eqB_nil, eqB_int, eqB_str, Bool.and_true, decide_true, Bool.true_and]) | ((first | apply callK_pure (ref_places _ _) | apply callD_pure (ref_places _ _)); (iterate 2 (focus (first | rfl | (simp only [go_sem, eqB_cons, eqB_nil, eqB_int, eqB_str, Bool.and_true, decide_true, Bool.true_and]; done)))); try simp only [go_sem, reduceAdd, reduceSub, reduceMul, reduceLT, reduceLeDiff, ↓reduceIte, reduceCtorEq, reduceEqDiff, reduceToNat, Int.reduceLT, reduceLE, reduceEq, eqB_cons, eqB_nil, eqB_int, eqB_str, Bool.and_true, decide_true, Bool.true_and]) | ((first | apply callK_pure (ref_ref _ _ _) | apply callD_pure (ref_ref _ _ _)); (iterate 2 (focus (first | rfl | (simp only [go_sem, eqB_cons, eqB_nil, eqB_int, eqB_str, Bool.and_true, decide_true, Bool.true_and]; done)))); try simp only [go_sem, reduceAdd, reduceSub, reduceMul, reduceLT, reduceLeDiff, ↓reduceIte, reduceCtorEq, reduceEqDiff, reduceToNat, Int.reduceLT, reduceLE, reduceEq, eqB_cons, eqB_nil, eqB_int, eqB_str, Bool.and_true, decide_true, Bool.true_and]) | ((refine Or.inl ⟨by kernel_rfl, ?_⟩) <;> (try simp only [go_sem, reduceAdd, reduceSub, reduceMul, reduceLT, reduceLeDiff, ↓reduceIte, reduceCtorEq, reduceEqDiff, reduceToNat, Int.reduceLT, reduceLE, reduceEq, eqB_cons, eqB_nil, eqB_int, eqB_str, Bool.and_true, decide_true, Bool.true_and])))) <;> (first | done | (simp_all [checkOp, noRef]; done) | (simp_all [checkOp, noRef]; omega) | (simp_all [checkOp, noRef]; intros; omega) | (simp_all [checkOp, noRef]; grind))

def vhas (v : List Int) (p s : Int) : Bool := vpeer p && decide (1 ≤ s) && decide (s ≤ v.getD p.toNat 0)
theorem ref_has (v : List Int) (p s : Int) (hv : v.length = 13) : PSpec Tryz.prog CT 159 [ints v, dotD p s] (· = .bool (vhas v p s)) := by
  refine PSpec.of hT Tryz.func159 rfl (by kernel_rfl) rfl rfl ?_
  simp only [Tryz.f159, go_sem, reduceAdd, reduceSub, reduceMul, reduceLT, reduceLeDiff, ↓reduceIte, reduceCtorEq, reduceEqDiff, reduceToNat, Int.reduceLT, reduceLE, reduceEq, hv]
  refine .inl ⟨by kernel_rfl, callD_pure (ref_peer p) (by simp only [go_sem, reduceAdd, reduceSub, reduceMul, reduceLT, reduceLeDiff, ↓reduceIte, reduceCtorEq, reduceEqDiff, reduceToNat, Int.reduceLT, reduceLE, reduceEq]) (by simp only [go_sem, reduceAdd, reduceSub, reduceMul, reduceLT, reduceLeDiff, ↓reduceIte, reduceCtorEq, reduceEqDiff, reduceToNat, Int.reduceLT, reduceLE, reduceEq]) ?_⟩
  simp only [go_sem, reduceAdd, reduceSub, reduceMul, reduceLT, reduceLeDiff, ↓reduceIte, reduceCtorEq, reduceEqDiff, reduceToNat, Int.reduceLT, reduceLE, reduceEq, hv]
  refine guardK_split (fun h => ?_) (fun h => ?_)
  · obtain ⟨h0, h1⟩ := vpeer_of h
    simp only [go_sem, reduceAdd, reduceSub, reduceMul, reduceLT, reduceLeDiff, ↓reduceIte, reduceCtorEq, reduceEqDiff, reduceToNat, Int.reduceLT, reduceLE, reduceEq, hv, h0, h1, h]
    (repeat' (first | ((refine guardK_split (fun hg => ?_) (fun hg => ?_)) <;> (try simp only [go_sem, reduceAdd, reduceSub, reduceMul, reduceLT, reduceLeDiff, ↓reduceIte, reduceCtorEq, reduceEqDiff, reduceToNat, Int.reduceLT, reduceLE, reduceEq, hg, vhas, Bool.true_and, Bool.false_and, hv, h0, h1, h])) | ((refine condK_split (fun hg => ?_) (fun hg => ?_)) <;> (try simp only [go_sem, reduceAdd, reduceSub, reduceMul, reduceLT, reduceLeDiff, ↓reduceIte, reduceCtorEq, reduceEqDiff, reduceToNat, Int.reduceLT, reduceLE, reduceEq, hg, vhas, Bool.true_and, Bool.false_and, hv, h0, h1, h])) | ((refine Or.inl ⟨by kernel_rfl, ?_⟩) <;> (try simp only [go_sem, reduceAdd, reduceSub, reduceMul, reduceLT, reduceLeDiff, ↓reduceIte, reduceCtorEq, reduceEqDiff, reduceToNat, Int.reduceLT, reduceLE, reduceEq, vhas, Bool.true_and, Bool.false_and, hv, h0, h1, h])))) <;> (first | done | skip)
  · simp only [go_sem, reduceAdd, reduceSub, reduceMul, reduceLT, reduceLeDiff, ↓reduceIte, reduceCtorEq, reduceEqDiff, reduceToNat, Int.reduceLT, reduceLE, reduceEq, h, vhas, Bool.false_and]

def before (p s i : Int) (t : TxR) (k : Int) : Bool := !decide (i < 1) && ((decide (p = t.peer) && decide (s = t.seq) && decide (i < k)) || vhas t.deps p s)
theorem ref_before (p s i : Int) (t : TxR) (k : Int) (hd : t.deps.length = 13) : PSpec Tryz.prog CT 136 [markD p s i, txD t, .int k] (· = .bool (before p s i t k)) := by
  refine PSpec.of hT Tryz.func136 rfl (by kernel_rfl) rfl rfl ?_
  simp only [Tryz.f136, go_sem, reduceAdd, reduceSub, reduceMul, reduceLT, reduceLeDiff, ↓reduceIte, reduceCtorEq, reduceEqDiff, reduceToNat, Int.reduceLT, reduceLE, reduceEq, hd]
  (repeat' (first | ((refine guardK_split (fun hg => ?_) (fun hg => ?_)) <;> (try simp only [go_sem, reduceAdd, reduceSub, reduceMul, reduceLT, reduceLeDiff, ↓reduceIte, reduceCtorEq, reduceEqDiff, reduceToNat, Int.reduceLT, reduceLE, reduceEq, hg, eqB_cons, eqB_nil, eqB_int, eqB_str, Bool.and_true, hd])) | ((refine condK_split (fun hg => ?_) (fun hg => ?_)) <;> (try simp only [go_sem, reduceAdd, reduceSub, reduceMul, reduceLT, reduceLeDiff, ↓reduceIte, reduceCtorEq, reduceEqDiff, reduceToNat, Int.reduceLT, reduceLE, reduceEq, hg, eqB_cons, eqB_nil, eqB_int, eqB_str, Bool.and_true, hd])) | ((first | refine callK_pure (ref_has t.deps p s hd) ?_ ?_ ?_ | refine callD_pure (ref_has t.deps p s hd) ?_ ?_ ?_); (iterate 2 (focus (first | rfl | (simp only [go_sem, eqB_cons, eqB_nil, eqB_int, eqB_str, Bool.and_true, hd]; done)))); try simp only [go_sem, reduceAdd, reduceSub, reduceMul, reduceLT, reduceLeDiff, ↓reduceIte, reduceCtorEq, reduceEqDiff, reduceToNat, Int.reduceLT, reduceLE, reduceEq, eqB_cons, eqB_nil, eqB_int, eqB_str, Bool.and_true, hd]) | ((refine Or.inl ⟨by kernel_rfl, ?_⟩) <;> (try simp only [go_sem, reduceAdd, reduceSub, reduceMul, reduceLT, reduceLeDiff, ↓reduceIte, reduceCtorEq, reduceEqDiff, reduceToNat, Int.reduceLT, reduceLE, reduceEq, eqB_cons, eqB_nil, eqB_int, eqB_str, Bool.and_true, hd])))) <;> (first | done | (simp_all [before]; done) | (simp_all [before]; omega) | (simp_all [before]; intros; omega) | (simp_all [before]; grind))
end Go.Ab
