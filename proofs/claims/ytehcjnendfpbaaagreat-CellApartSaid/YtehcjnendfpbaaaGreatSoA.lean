/- What transactions' data look like. Conditions: none. -/
import Derived.Test.YtehcjnendfpbaaaGreatOpC
import Derived.Test.YtehcjnendfpbaaaGreatAbHs
import Derived.Test.YtehcjnendfpbaaaGreatAbT
import Derived.Shelf.Sort.Plain
import Derived.Shelf.Slices.In.SortNone
open Nat (reduceAdd reduceSub reduceMul reduceLT reduceLeDiff reduceEqDiff)
open Int (reduceToNat reduceLE reduceEq)
set_option linter.unusedSimpArgs false
namespace Go.Ab
open Go.Proofs

theorem inv_mark {d : D} (h : HasTy CT 36 d) : ∃ p s i, d = markD p s i := by
  obtain ⟨l, rfl, hl⟩ := h.inv_struct ty36
  match l, hl with
  | [x, y], hl =>
    obtain ⟨hx, hl⟩ := hl.head
    obtain ⟨hy, _⟩ := hl.head
    obtain ⟨m, rfl, hm⟩ := hx.inv_struct ty29
    obtain ⟨i, rfl, _⟩ := hy.inv_i64 ty3
    match m, hm with
    | [u, v], hm =>
      obtain ⟨hu, hm⟩ := hm.head
      obtain ⟨hv, _⟩ := hm.head
      obtain ⟨p, rfl, _⟩ := hu.inv_i64 ty3
      obtain ⟨s, rfl, _⟩ := hv.inv_i64 ty3
      exact ⟨p, s, i, rfl⟩
    | [], hm => exact absurd hm.1 (by simp)
    | [_], hm => exact absurd hm.1 (by simp)
    | _ :: _ :: _ :: _, hm => exact absurd hm.1 (by simp)
  | [], hl => exact absurd hl.1 (by simp)
  | [_], hl => exact absurd hl.1 (by simp)
  | _ :: _ :: _ :: _, hl => exact absurd hl.1 (by simp)

theorem inv_op {d : D} (h : HasTy CT 38 d) : ∃ o : OpR, d = opD o ∧ True := by
  obtain ⟨l, rfl, hl⟩ := h.inv_struct ty38
  have hlen := hl.1
  match l, hl with
  | [a, b, c, e, f, g, i, j], hl =>
    obtain ⟨h1, hl⟩ := hl.head
    obtain ⟨h2, hl⟩ := hl.head
    obtain ⟨h3, hl⟩ := hl.head
    obtain ⟨h4, hl⟩ := hl.head
    obtain ⟨h5, hl⟩ := hl.head
    obtain ⟨h6, hl⟩ := hl.head
    obtain ⟨h7, hl⟩ := hl.head
    obtain ⟨h8, _⟩ := hl.head
    obtain ⟨kind, rfl, _⟩ := h1.inv_i64 ty3
    obtain ⟨key, rfl, _⟩ := h2.inv_str ty9
    obtain ⟨field, rfl, _⟩ := h3.inv_str ty9
    obtain ⟨inner, rfl, _⟩ := h4.inv_i64 ty3
    obtain ⟨act, rfl, _⟩ := h5.inv_i64 ty3
    obtain ⟨n, rfl, _⟩ := h6.inv_i64 ty3
    obtain ⟨text, rfl, _⟩ := h7.inv_str ty9
    obtain ⟨p, s, q, rfl⟩ := inv_mark h8
    exact ⟨⟨kind, key, field, inner, act, n, text, p, s, q⟩, rfl, trivial⟩
  | [], hl => exact absurd hlen (by simp)
  | [_], hl => exact absurd hlen (by simp)
  | [_, _], hl => exact absurd hlen (by simp)
  | [_, _, _], hl => exact absurd hlen (by simp)
  | [_, _, _, _], hl => exact absurd hlen (by simp)
  | [_, _, _, _, _], hl => exact absurd hlen (by simp)
  | [_, _, _, _, _, _], hl => exact absurd hlen (by simp)
  | [_, _, _, _, _, _, _], hl => exact absurd hlen (by simp)
  | _ :: _ :: _ :: _ :: _ :: _ :: _ :: _ :: _ :: _, hl => exact absurd hlen (by simp)

theorem inv_tx {d : D} (h : HasTy CT 34 d) : ∃ t : TxR, d = txD t ∧ t.deps.length = 13 ∧ t.ops.length ≤ 9223372036854775807 := by
  obtain ⟨l, rfl, hl⟩ := h.inv_struct ty34
  have hlen := hl.1
  match l, hl with
  | [a, b, c, e], hl =>
    obtain ⟨h1, hl⟩ := hl.head
    obtain ⟨h2, hl⟩ := hl.head
    obtain ⟨h3, hl⟩ := hl.head
    obtain ⟨h4, _⟩ := hl.head
    obtain ⟨m, rfl, hm⟩ := h1.inv_struct ty29
    obtain ⟨deps, rfl, hd, _⟩ := h2.inv_ints ty31 ty3
    obtain ⟨time, rfl, _⟩ := h3.inv_i64 ty3
    obtain ⟨os, rfl, ho1, ho2⟩ := h4.inv_slice ty32
    obtain ⟨ops, rfl, _⟩ := all_of (enc := opD) (Q := fun _ => True) fun x hx => inv_op (ho2 x hx)
    match m, hm with
    | [u, v], hm =>
      obtain ⟨hu, hm⟩ := hm.head
      obtain ⟨hv, _⟩ := hm.head
      obtain ⟨p, rfl, _⟩ := hu.inv_i64 ty3
      obtain ⟨s, rfl, _⟩ := hv.inv_i64 ty3
      exact ⟨⟨p, s, deps, time, ops⟩, rfl, hd, by simpa [maxLen] using ho1⟩
    | [], hm => exact absurd hm.1 (by simp)
    | [_], hm => exact absurd hm.1 (by simp)
    | _ :: _ :: _ :: _, hm => exact absurd hm.1 (by simp)
  | [], hl => exact absurd hlen (by simp)
  | [_], hl => exact absurd hlen (by simp)
  | [_, _], hl => exact absurd hlen (by simp)
  | [_, _, _], hl => exact absurd hlen (by simp)
  | _ :: _ :: _ :: _ :: _ :: _, hl => exact absurd hlen (by simp)
end Go.Ab
set_option linter.unusedSimpArgs false
namespace Go.Ab
open Go.Proofs

def smallTx (t : TxR) : Bool := decide (t.ops.length ≤ 40) && (List.range t.ops.length).all fun k => decide (((opAt t k).key.size : Int) ≤ 100) && decide (((opAt t k).field.size : Int) ≤ 100) && decide (((opAt t k).text.size : Int) ≤ 100)
def smallAt (t : TxR) (k : Nat) : Bool := decide (((opAt t k).key.size : Int) ≤ 100) && decide (((opAt t k).field.size : Int) ≤ 100) && decide (((opAt t k).text.size : Int) ≤ 100)
theorem smallTx_not {t : TxR} {k : Nat} (hk : k < t.ops.length) (h : smallAt t k = false) : smallTx t = false := by
  have : ((List.range t.ops.length).all fun k => decide (((opAt t k).key.size : Int) ≤ 100) && decide (((opAt t k).field.size : Int) ≤ 100) && decide (((opAt t k).text.size : Int) ≤ 100)) = false := by
    rw [List.all_eq_false]
    refine ⟨k, List.mem_range.2 hk, ?_⟩
    have h2 := h
    unfold smallAt at h2
    rw [h2]; simp
  simp only [smallTx, this, Bool.and_false]
set_option maxRecDepth 8000 in
theorem ref_small (t : TxR) (hd : t.deps.length = 13) : PSpec Tryz.prog CT 9 [txD t] (· = .bool (smallTx t)) := by
  refine PSpec.of hT Tryz.func9 rfl (by kernel_rfl) rfl rfl ?_
  simp only [Tryz.f9, go_sem, reduceAdd, reduceSub, reduceMul, reduceLT, reduceLeDiff, ↓reduceIte, reduceCtorEq, reduceEqDiff, reduceToNat, Int.reduceLT, reduceLE, reduceEq, hd]
  refine awp_loop (fun n s => ∃ (k : Nat) (ex : List (Sh × D)) (g : Nat → D), s = ⟨[txD t, .ptr 0 [], g 2, .lit (.int .i64 k), g 4, g 5, g 6, g 7, g 8, g 9, g 10, g 11, g 12, g 13, g 14, g 15, g 16, g 17, g 18, g 19, g 20, g 21, g 22, g 23, g 24, g 25, g 26, g 27, g 28, g 29, g 30, g 31, g 32, g 33, g 34, g 35, g 36, g 37, g 38, g 39, g 40, g 41, g 42], ⟨(txSh, txD t) :: ex, []⟩⟩ ∧ n = t.ops.length - k ∧ k ≤ t.ops.length ∧ (k = 0 ∨ t.ops.length ≤ 40) ∧ ∀ p, p < k → smallAt t p = true) t.ops.length ⟨0, _, reg_intro rfl rfl ⟨by simp, by omega, .inl rfl, by simp⟩⟩ ?_
  rintro n s ⟨k, ex, g, rfl, hn, hk, h40, hp⟩
  simp only [go_sem, reduceAdd, reduceSub, reduceMul, reduceLT, reduceLeDiff, ↓reduceIte, reduceCtorEq, reduceEqDiff, reduceToNat, Int.reduceLT, reduceLE, reduceEq, hd]
  have last : (¬ t.ops.length ≤ 40 → smallTx t = false) := fun h => by simp only [smallTx, decide_eq_false h, Bool.false_and]
  refine guardK_split (fun hc => ?_) (fun hc => ?_)
  · have hk' : k < t.ops.length := by have := of_decide_eq_true hc; omega
    simp only [go_sem, reduceAdd, reduceSub, reduceMul, reduceLT, reduceLeDiff, ↓reduceIte, reduceCtorEq, reduceEqDiff, reduceToNat, Int.reduceLT, reduceLE, reduceEq, hd, hc]
    refine condK_split (fun h4 => ?_) (fun h4 => ?_)
    · have hl4 : t.ops.length ≤ 40 := by have := of_decide_eq_true h4; omega
      have bad : smallAt t k = false → smallTx t = false := smallTx_not hk'
      have next : smallAt t k = true → ∀ p, p < k + 1 → smallAt t p = true := fun h p hpk => by
        by_cases e : p = k
        · subst e; exact h
        · exact hp p (by omega)
      simp only [go_sem, reduceAdd, reduceSub, reduceMul, reduceLT, reduceLeDiff, ↓reduceIte, reduceCtorEq, reduceEqDiff, reduceToNat, Int.reduceLT, reduceLE, reduceEq, hd, hk', get_ops]
      (repeat' (first | ((refine guardK_split (fun hg => ?_) (fun hg => ?_)) <;> (try simp only [go_sem, reduceAdd, reduceSub, reduceMul, reduceLT, reduceLeDiff, ↓reduceIte, reduceCtorEq, reduceEqDiff, reduceToNat, Int.reduceLT, reduceLE, reduceEq, hg, hd, hk', wrapNat k (by omega)])) | ((refine condK_split (fun hg => ?_) (fun hg => ?_)) <;> (try simp only [go_sem, reduceAdd, reduceSub, reduceMul, reduceLT, reduceLeDiff, ↓reduceIte, reduceCtorEq, reduceEqDiff, reduceToNat, Int.reduceLT, reduceLE, reduceEq, hg, hd, hk', wrapNat k (by omega)])) | ((refine Or.inl ⟨by kernel_rfl, ?_⟩) <;> (try simp only [go_sem, reduceAdd, reduceSub, reduceMul, reduceLT, reduceLeDiff, ↓reduceIte, reduceCtorEq, reduceEqDiff, reduceToNat, Int.reduceLT, reduceLE, reduceEq, hd, hk', wrapNat k (by omega)])))) <;> (first | done | (rw [bad (by first | (simp_all [smallAt]; done) | (simp_all [smallAt]; omega))]) | exact ⟨t.ops.length - (k + 1), by omega, k + 1, _, reg_intro rfl rfl ⟨rfl, by omega, .inr hl4, next (by first | (simp_all [smallAt]; done) | (simp_all [smallAt]; omega))⟩⟩)
    · have hl4 : ¬ t.ops.length ≤ 40 := by have := of_decide_eq_false h4; omega
      simp only [go_sem, reduceAdd, reduceSub, reduceMul, reduceLT, reduceLeDiff, ↓reduceIte, reduceCtorEq, reduceEqDiff, reduceToNat, Int.reduceLT, reduceLE, reduceEq, hd, last hl4, h4]
  · have hi := of_decide_eq_false hc
    obtain rfl : k = t.ops.length := by omega
    simp only [go_sem, reduceAdd, reduceSub, reduceMul, reduceLT, reduceLeDiff, ↓reduceIte, reduceCtorEq, reduceEqDiff, reduceToNat, Int.reduceLT, reduceLE, reduceEq, hd, hc]
    by_cases h4 : t.ops.length ≤ 40
    · have : smallTx t = true := by
        simp only [smallTx, decide_eq_true h4, Bool.true_and, List.all_eq_true, List.mem_range]
        exact hp
      rw [this, decide_eq_true (by omega)]
    · rw [last h4, decide_eq_false (by omega)]
end Go.Ab
set_option linter.unusedSimpArgs false
namespace Go.Ab
open Go.Proofs


def sameTx (a b : TxR) : Bool := decide (a.peer = b.peer) && decide (a.seq = b.seq) && decide (a.deps = b.deps) && decide (a.time = b.time) && decide (a.ops = b.ops)
end Go.Ab
namespace Go.Ab
mutual
def deep : D → D
  | .agg l => .agg (deepL l)
  | .lst e l _ => .lst e (deepL l) .no
  | .tup l => .tup (deepL l)
  | .lit v => .lit v
  | .ref s d => .ref s d
  | .ptr b p => .ptr b p
  | .fn f c => .fn f c
  | .ifc t d => .ifc t d
  | .mref b => .mref b
  | .mp k v g => .mp k v g
  | .it m g s => .it m g s
  | .sl e b lo n c => .sl e b lo n c
def deepL : List D → List D
  | [] => []
  | d :: r => deep d :: deepL r
end
theorem deepL_map (l : List D) : deepL l = l.map deep := by
  induction l with
  | nil => rfl
  | cons d r ih => simp [deepL, ih]
mutual
theorem leaves_deep : ∀ d : D, leaves (deep d) = (leaves d).map deep
  | .agg l => by simp only [deep, leaves]; exact leavesL_deep l
  | .lit v => by simp [deep, leaves]
  | .lst e l t => by simp [deep, leaves]
  | .ref s d => by simp [deep, leaves]
  | .ptr b p => by simp [deep, leaves]
  | .fn f c => by simp [deep, leaves]
  | .tup l => by simp [deep, leaves]
  | .ifc t d => by simp [deep, leaves]
  | .mref b => by simp [deep, leaves]
  | .mp k v g => by simp [deep, leaves]
  | .it m g s => by simp [deep, leaves]
  | .sl e b lo n c => by simp [deep, leaves]
theorem leavesL_deep : ∀ l : List D, leavesL (deepL l) = (leavesL l).map deep
  | [] => by simp [deepL, leavesL]
  | d :: r => by simp only [deepL, leavesL, List.map_append]; rw [leaves_deep d, leavesL_deep r]
end
theorem hasSh_deep {s : Sh} : ∀ {d : D}, hasSh s d → hasSh s (deep d) := by
  induction s with
  | leaf => intro d h; cases d <;> simp_all [hasSh, deep, D.isLeaf]
  | obj k => intro d h; cases d <;> simp_all [hasSh, deep, D.isLeaf]
  | unit =>
    intro d h
    cases d with
    | agg l => simp only [hasSh] at h; subst h; simp [deep, deepL, hasSh]
    | _ => exact h.elim
  | pair a b iha ihb =>
    intro d h
    cases d with
    | agg l =>
      obtain ⟨x, r, rfl, h1, h2⟩ := h
      exact ⟨deep x, deepL r, rfl, iha h1, by have := ihb h2; simpa [deep] using this⟩
    | _ => exact h.elim
  | arr n s ih =>
    intro d h
    cases d with
    | agg l =>
      obtain ⟨h1, h2⟩ := h
      refine ⟨by rw [deepL_map, List.length_map]; exact h1, fun x hx => ?_⟩
      rw [deepL_map] at hx
      obtain ⟨y, hy, rfl⟩ := List.mem_map.1 hx
      exact ih (h2 y hy)
    | _ => exact h.elim
theorem vp_deep {T : TypeId → Sh} {S : Nat → Nat → Option Value} {v : Value} {d : D} (h : VP T S v d) : VP T S v (deep d) := by
  induction h with
  | lit v => exact .lit v
  | @agg cs l hl _ ih =>
    refine .agg (by rw [leavesL_deep, List.length_map]; exact hl) ?_
    intro i c d hc hd
    rw [leavesL_deep, List.getElem?_map, Option.map_eq_some_iff] at hd
    obtain ⟨x, hx, rfl⟩ := hd
    exact ih i c x hc hx
  | nil _ => exact .nil (by simp)
  | @lst a cap e l t cs hr hl _ hs hc hm _ _ ih =>
    have hlen : (deepL l).length = l.length := by rw [deepL_map, List.length_map]
    have : VP T S (.slice (some a) (deepL l).length cap) (.lst e (deepL l) .no) := by
      refine .lst cs hr (by rw [leavesL_deep, List.length_map]; exact hl) ?_ ?_ (by rw [hlen]; exact hc) hm (by simp) (by simp)
      · intro i c d hc hd
        rw [leavesL_deep, List.getElem?_map, Option.map_eq_some_iff] at hd
        obtain ⟨x, hx, rfl⟩ := hd
        exact ih i c x hc hx
      · intro d hd
        rw [deepL_map] at hd
        obtain ⟨y, hy, rfl⟩ := List.mem_map.1 hd
        exact hasSh_deep (hs y hy)
    rw [hlen] at this
    exact this
  | ref cs hr hl h hs _ => exact .ref cs hr hl h hs
  | ifc h _ => exact .ifc h
theorem vv_deep {T : TypeId → Sh} {ρ : Env} {v : Value} {d : D} (h : VV T ρ v d) : VV T ρ v (deep d) := by
  induction h with
  | pure h => exact .pure (vp_deep h)
  | @agg cs l hl _ ih =>
    refine .agg (by rw [leavesL_deep, List.length_map]; exact hl) ?_
    intro i c d hc hd
    rw [leavesL_deep, List.getElem?_map, Option.map_eq_some_iff] at hd
    obtain ⟨x, hx, rfl⟩ := hd
    exact ih i c x hc hx
  | ownNil _ => exact .pure (.nil (by simp))
  | own _ _ hv => have := vp_deep hv; exact .pure this
  | ptr h hp => exact .ptr h hp
  | fn hl h _ => exact .fn hl h
  | bnd hl h _ => exact .bnd hl h
  | @tup vs l hl _ ih =>
    simp only [deep]
    refine .tup (by rw [deepL_map, List.length_map]; exact hl) ?_
    intro i c d hc hd
    rw [deepL_map, List.getElem?_map, Option.map_eq_some_iff] at hd
    obtain ⟨x, hx, rfl⟩ := hd
    exact ih i c x hc hx
  | mref h => exact .mref h
  | sl h hc hn hm ho => exact .sl h hc hn hm ho
section
variable {P : Program} {C : Tab}
theorem ASpec.deep {f : FuncId} {args : List D} {h : Heap} {R : D → Heap → Prop} (hs : ASpec P C f (args.map deep) h R) : ASpec P C f args h R :=
  ⟨hs.1, fun ρ w vs hr hv => hs.2 ρ w vs hr ⟨by rw [hv.1, List.length_map], fun i c d hc hd => by
    rw [List.getElem?_map, Option.map_eq_some_iff] at hd
    obtain ⟨x, hx, rfl⟩ := hd
    exact vv_deep (hv.2 i c x hc hx)⟩⟩
end
end Go.Ab
open Nat (reduceAdd reduceSub reduceMul reduceLT reduceLeDiff reduceEqDiff)
open Int (reduceToNat reduceLE reduceEq)
set_option linter.unusedSimpArgs false
namespace Go.Ab
open Go.Proofs

structure MarkR where
  p : Int
  s : Int
  i : Int
  deriving DecidableEq
abbrev MarkR.d (m : MarkR) : D := markD m.p m.s m.i
structure AmountR where
  m : MarkR
  n : Int
  deriving DecidableEq
structure WriteR where
  m : MarkR
  time : Int
  text : ByteArray
  deriving DecidableEq
structure MemberR where
  text : ByteArray
  base : Bool
  marks : List MarkR
  deriving DecidableEq
structure ElemR where
  m : MarkR
  time : Int
  ref : MarkR
  text : ByteArray
  gone : List MarkR
  deriving DecidableEq
structure CellR where
  kind : Int
  base : Int
  am : List AmountR
  wr : List WriteR
  me : List MemberR
  el : List ElemR
abbrev amD (a : AmountR) : D := .agg [a.m.d, .lit (.int .i64 a.n)]
abbrev wrD (w : WriteR) : D := .agg [w.m.d, .lit (.int .i64 w.time), .lit (.string w.text)]
abbrev marksD (l : List MarkR) (t : Tok) : D := .lst 36 (l.map MarkR.d) t
abbrev meD (m : MemberR) : D := .agg [.lit (.string m.text), .lit (.bool m.base), marksD m.marks .no]
abbrev elD (e : ElemR) : D := .agg [e.m.d, .lit (.int .i64 e.time), e.ref.d, .lit (.string e.text), marksD e.gone .no]
abbrev wrsD (l : List WriteR) (t : Tok) : D := .lst 64 (l.map wrD) t
abbrev cellD (c : CellR) : D := .agg [.lit (.int .i64 c.kind), .lit (.int .i64 c.base), .lst 72 (c.am.map amD) .no, wrsD c.wr .no, .lst 67 (c.me.map meD) .no, .lst 69 (c.el.map elD) .no]
abbrev textsD (l : List ByteArray) (t : Tok) : D := .lst 9 (l.map fun s => .lit (.string s)) t
structure ValueR where
  kind : Int
  n : Int
  texts : List ByteArray
abbrev valD (v : ValueR) : D := .agg [.lit (.int .i64 v.kind), .lit (.int .i64 v.n), textsD v.texts .no, .lst 83 [] .no]
instance : Inhabited MarkR := ⟨⟨0, 0, 0⟩⟩
instance : Inhabited AmountR := ⟨⟨default, 0⟩⟩
instance : Inhabited WriteR := ⟨⟨default, 0, ⟨#[]⟩⟩⟩
instance : Inhabited MemberR := ⟨⟨⟨#[]⟩, false, []⟩⟩
instance : Inhabited ElemR := ⟨⟨default, 0, default, ⟨#[]⟩, []⟩⟩


/-- Cells whose slices are no longer than memory lets them be. -/
structure CellR.ok (c : CellR) : Prop where
  am : c.am.length ≤ 4398046511104
  wr : c.wr.length ≤ 4398046511104
  me : c.me.length ≤ 4398046511104
  el : c.el.length ≤ 4398046511104
theorem pure_cell (c : CellR) : pureD (cellD c) := by simp [pureD, pureL]
theorem melt_cell (bs : List (Sh × D)) (c : CellR) : meltD bs 0 (cellD c) = cellD c := by simp [meltD, meltL]
theorem pure_tx (t : TxR) : pureD (txD t) := by simp only [go_sem, reduceAdd, reduceSub, reduceMul, reduceLT, reduceLeDiff, ↓reduceIte, reduceCtorEq, reduceEqDiff, reduceToNat, Int.reduceLT, reduceLE, reduceEq]
theorem pure_val (v : ValueR) : pureD (valD v) := by simp [pureD, pureL]
end Go.Ab
set_option linter.unusedSimpArgs false
namespace Go.Ab
open Go.Proofs
section
variable {C : Tab}

/-- A set of numbers, in the order in which they came. -/
def setD (s : List Int) (g : Nat) : D := .mp (s.map fun n => .lit (.int .i64 n)) (s.map fun _ => .lit (.bool true)) g

/-- What an iterator has handed out, as numbers. -/
def seenD (l : List Int) : List D := l.map fun n => .lit (.int .i64 n)
end
end Go.Ab
set_option linter.unusedSimpArgs false
namespace Go.Ab
open Go.Proofs

section
variable {T : TypeId → Sh} {ρ : Env} {h : Heap} {w : World}
theorem grow_cons (w : World) (o : Obj) (os : List Obj) : Go.Sort.grow w (o :: os).toArray = Go.Sort.grow (w.alloc o) os.toArray := by
  rw [Go.Sort.alloc_eq_grow, Go.Sort.grow_grow]; congr 1; simp
theorem real_grow (os : List Obj) : ∀ {w : World}, Real T ρ h w → Real T ρ h (Go.Sort.grow w os.toArray) ∧ Ext ρ w ρ (Go.Sort.grow w os.toArray) := by
  induction os with
  | nil => intro w r; rw [show Go.Sort.grow w ([] : List Obj).toArray = w from Go.Sort.grow_empty w]; exact ⟨r, .refl _ _⟩
  | cons o os ih =>
    intro w r
    rw [grow_cons]
    obtain ⟨k1, k2⟩ := ih (r.alloc o)
    exact ⟨k1, (Ext.alloc ρ w o).trans k2⟩
theorem real_ahead (n : Nat) : ∀ {w : World}, Real T ρ h w → Real T ρ h (Go.Sort.ahead w n) ∧ Ext ρ w ρ (Go.Sort.ahead w n) := by
  induction n with
  | zero => intro w r; exact ⟨r, .refl _ _⟩
  | succ n ih =>
    intro w r
    obtain ⟨k1, k2⟩ := ih r.drew
    have e : Go.Sort.ahead w (n + 1) = Go.Sort.ahead w.drew n := by rw [Go.Sort.drew_eq_ahead, Go.Sort.ahead_ahead, Nat.add_comm]
    rw [e]
    exact ⟨k1, (Ext.drew ρ w).trans k2⟩
theorem leaves_lits (l : List Value) : leavesL (l.map D.lit) = l.map D.lit := by
  induction l with
  | nil => rfl
  | cons x r ih => simp [leavesL, leaves, ih]
end

/-- Numbers, rising. -/
abbrev sortI (l : List Int) : List Int := l.mergeSort fun x y => decide (x ≤ y)
theorem one_arg {T : TypeId → Sh} {ρ : Env} {vs : Array Value} {d : D} (h : All2 (VV T ρ) vs.toList [d]) : ∃ v, vs = #[v] ∧ VV T ρ v d := by
  obtain ⟨h1, h2⟩ := h
  have h3 : vs.size = 1 := by simpa using h1
  refine ⟨vs[0], ?_, h2 0 _ _ (by simp [h3]) rfl⟩
  apply Array.ext
  · simp [h3]
  · intro i hi _
    have : i = 0 := by omega
    subst this; rfl

end Go.Ab
