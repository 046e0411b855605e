/- Cells: the data. Conditions: none. -/
import Derived.Test.YtnagdbamieahgaaSlA
import Derived.Test.YtnagdbamieahgaaTxS
import Derived.Test.YtnagdbamieahgaaAbDp
set_option linter.unusedSimpArgs false
namespace Go.Ab
open Go.Proofs

structure MarkR where
  p : Int
  s : Int
  i : Int
  deriving DecidableEq
abbrev MarkR.d (m : MarkR) : D := markD m.p m.s m.i
structure AmountR where
  m : MarkR
  n : Int
  deriving DecidableEq
structure WriteR where
  m : MarkR
  time : Int
  text : ByteArray
  deriving DecidableEq
structure MemberR where
  text : ByteArray
  base : Bool
  marks : List MarkR
  deriving DecidableEq
structure ElemR where
  m : MarkR
  time : Int
  ref : MarkR
  text : ByteArray
  gone : List MarkR
  deriving DecidableEq
structure CellR where
  kind : Int
  base : Int
  am : List AmountR
  wr : List WriteR
  me : List MemberR
  el : List ElemR
abbrev amD (a : AmountR) : D := .agg [a.m.d, .lit (.int .i64 a.n)]
abbrev wrD (w : WriteR) : D := .agg [w.m.d, .lit (.int .i64 w.time), .lit (.string w.text)]
abbrev marksD (l : List MarkR) (t : Tok) : D := .lst 58 (l.map MarkR.d) t
abbrev meD (m : MemberR) : D := .agg [.lit (.string m.text), .lit (.bool m.base), marksD m.marks .no]
abbrev elD (e : ElemR) : D := .agg [e.m.d, .lit (.int .i64 e.time), e.ref.d, .lit (.string e.text), marksD e.gone .no]
abbrev wrsD (l : List WriteR) (t : Tok) : D := .lst 95 (l.map wrD) t
abbrev cellD (c : CellR) : D := .agg [.lit (.int .i64 c.kind), .lit (.int .i64 c.base), .lst 107 (c.am.map amD) .no, wrsD c.wr .no, .lst 55 (c.me.map meD) .no, .lst 97 (c.el.map elD) .no]
abbrev textsD (l : List ByteArray) (t : Tok) : D := .lst 9 (l.map fun s => .lit (.string s)) t
structure ValueR where
  kind : Int
  n : Int
  texts : List ByteArray
abbrev valD (v : ValueR) : D := .agg [.lit (.int .i64 v.kind), .lit (.int .i64 v.n), textsD v.texts .no, .lst 117 [] .no]
instance : Inhabited MarkR := ⟨⟨0, 0, 0⟩⟩
instance : Inhabited AmountR := ⟨⟨default, 0⟩⟩
instance : Inhabited WriteR := ⟨⟨default, 0, ⟨#[]⟩⟩⟩
instance : Inhabited MemberR := ⟨⟨⟨#[]⟩, false, []⟩⟩
instance : Inhabited ElemR := ⟨⟨default, 0, default, ⟨#[]⟩, []⟩⟩


/-- Cells whose slices are no longer than memory lets them be. -/
structure CellR.ok (c : CellR) : Prop where
  am : c.am.length ≤ 4398046511104
  wr : c.wr.length ≤ 4398046511104
  me : c.me.length ≤ 4398046511104
  el : c.el.length ≤ 4398046511104
theorem pure_cell (c : CellR) : pureD (cellD c) := by simp [pureD, pureL]
theorem melt_cell (bs : List (Sh × D)) (c : CellR) : meltD bs 0 (cellD c) = cellD c := by simp [meltD, meltL]
theorem txts2 (x y : ByteArray) : D.lst 9 [.lit (.string x), .lit (.string y)] .no = textsD [x, y] .no := rfl
theorem txts1 (x : ByteArray) : D.lst 9 [.lit (.string x)] .no = textsD [x] .no := rfl
theorem pure_tx (t : TxR) : pureD (txD t) := by simp only [go_sem, Nat.reduceAdd, Nat.reduceSub, Nat.reduceMul, Nat.reduceLT, Nat.reduceLeDiff, ↓reduceIte, reduceCtorEq, Nat.reduceEqDiff, Int.reduceToNat, Int.reduceLT, Int.reduceLE, Int.reduceEq, beq_self_eq_true]
theorem pure_val (v : ValueR) : pureD (valD v) := by simp [pureD, pureL]
end Go.Ab
