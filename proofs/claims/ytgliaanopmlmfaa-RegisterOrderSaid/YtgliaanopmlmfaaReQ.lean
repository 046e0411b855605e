/- Registers: what must come at any rate; what cells' data look like. Conditions: none. -/
import Derived.Test.YtgliaanopmlmfaaReO
import Derived.Test.YtgliaanopmlmfaaReB
import Derived.Test.YtgliaanopmlmfaaReC
set_option linter.unusedSimpArgs false
namespace Go.Ab
open Go.Proofs

theorem inv_markR {d : D} (h : HasTy CT 62 d) : ∃ m : MarkR, d = m.d ∧ True := by
  obtain ⟨p, s, i, rfl⟩ := inv_mark h
  exact ⟨⟨p, s, i⟩, rfl, trivial⟩
theorem inv_marks {d : D} (h : HasTy CT 100 d) : ∃ l : List MarkR, d = marksD l .no ∧ l.length ≤ 9000000000000 := by
  obtain ⟨l, rfl, h1, h2⟩ := h.inv_sliceB ty100
  obtain ⟨m, rfl, _⟩ := all_of (enc := MarkR.d) (Q := fun _ => True) fun x hx => inv_markR (h2 x hx)
  exact ⟨m, rfl, by have : CT.bytes 62 = 24 := rfl; rw [List.length_map, this] at h1; omega⟩
theorem inv_am {d : D} (h : HasTy CT 114 d) : ∃ a : AmountR, d = amD a ∧ i64ok a.n := by
  obtain ⟨l, rfl, hl⟩ := h.inv_struct ty114
  have hlen := hl.1
  match l, hl with
  | [a, b], hl =>
    obtain ⟨h1, hl⟩ := hl.head
    obtain ⟨h2, _⟩ := hl.head
    obtain ⟨m, rfl, _⟩ := inv_markR h1
    obtain ⟨n, rfl, hn⟩ := h2.inv_i64 ty3
    exact ⟨⟨m, n⟩, rfl, hn⟩
  | [], hl => exact absurd hlen (by simp)
  | [_], hl => exact absurd hlen (by simp)
  | _ :: _ :: _ :: _, hl => exact absurd hlen (by simp)
theorem inv_wr {d : D} (h : HasTy CT 65 d) : ∃ w : WriteR, d = wrD w ∧ i64ok w.time := by
  obtain ⟨l, rfl, hl⟩ := h.inv_struct ty65
  have hlen := hl.1
  match l, hl with
  | [a, b, c], hl =>
    obtain ⟨h1, hl⟩ := hl.head
    obtain ⟨h2, hl⟩ := hl.head
    obtain ⟨h3, _⟩ := hl.head
    obtain ⟨m, rfl, _⟩ := inv_markR h1
    obtain ⟨n, rfl, hn⟩ := h2.inv_i64 ty3
    obtain ⟨x, rfl, _⟩ := h3.inv_str ty9
    exact ⟨⟨m, n, x⟩, rfl, hn⟩
  | [], hl => exact absurd hlen (by simp)
  | [_], hl => exact absurd hlen (by simp)
  | [_, _], hl => exact absurd hlen (by simp)
  | _ :: _ :: _ :: _ :: _, hl => exact absurd hlen (by simp)
theorem inv_me {d : D} (h : HasTy CT 102 d) : ∃ m : MemberR, d = meD m ∧ m.marks.length ≤ 9000000000000 := by
  obtain ⟨l, rfl, hl⟩ := h.inv_struct ty102
  have hlen := hl.1
  match l, hl with
  | [a, b, c], hl =>
    obtain ⟨h1, hl⟩ := hl.head
    obtain ⟨h2, hl⟩ := hl.head
    obtain ⟨h3, _⟩ := hl.head
    obtain ⟨x, rfl, _⟩ := h1.inv_str ty9
    obtain ⟨b, rfl⟩ := h2.inv_bool ty4
    obtain ⟨m, rfl, hm⟩ := inv_marks h3
    exact ⟨⟨x, b, m⟩, rfl, hm⟩
  | [], hl => exact absurd hlen (by simp)
  | [_], hl => exact absurd hlen (by simp)
  | [_, _], hl => exact absurd hlen (by simp)
  | _ :: _ :: _ :: _ :: _, hl => exact absurd hlen (by simp)
theorem inv_el {d : D} (h : HasTy CT 104 d) : ∃ e : ElemR, d = elD e ∧ i64ok e.time ∧ e.gone.length ≤ 9000000000000 := by
  obtain ⟨l, rfl, hl⟩ := h.inv_struct ty104
  have hlen := hl.1
  match l, hl with
  | [a, b, c, e, f], hl =>
    obtain ⟨h1, hl⟩ := hl.head
    obtain ⟨h2, hl⟩ := hl.head
    obtain ⟨h3, hl⟩ := hl.head
    obtain ⟨h4, hl⟩ := hl.head
    obtain ⟨h5, _⟩ := hl.head
    obtain ⟨m, rfl, _⟩ := inv_markR h1
    obtain ⟨n, rfl, hn⟩ := h2.inv_i64 ty3
    obtain ⟨r, rfl, _⟩ := inv_markR h3
    obtain ⟨x, rfl, _⟩ := h4.inv_str ty9
    obtain ⟨g, rfl, hg⟩ := inv_marks h5
    exact ⟨⟨m, n, r, x, g⟩, rfl, hn, hg⟩
  | [], hl => exact absurd hlen (by simp)
  | [_], hl => exact absurd hlen (by simp)
  | [_, _], hl => exact absurd hlen (by simp)
  | [_, _, _], hl => exact absurd hlen (by simp)
  | [_, _, _, _], hl => exact absurd hlen (by simp)
  | _ :: _ :: _ :: _ :: _ :: _ :: _, hl => exact absurd hlen (by simp)
/-- What a cell of the machine's is, as data. -/
structure CellR.wide (c : CellR) : Prop where
  ok : c.ok
  base : i64ok c.base
  kind : i64ok c.kind
  am : ∀ a ∈ c.am, i64ok a.n
  wr : ∀ w ∈ c.wr, i64ok w.time
  me : ∀ m ∈ c.me, m.marks.length ≤ 9000000000000
  el : ∀ e ∈ c.el, i64ok e.time ∧ e.gone.length ≤ 9000000000000
theorem inv_cell {d : D} (h : HasTy CT 59 d) : ∃ c : CellR, d = cellD c ∧ c.wide := by
  obtain ⟨l, rfl, hl⟩ := h.inv_struct ty59
  have hlen := hl.1
  match l, hl with
  | [a, b, c, e, f, g], hl =>
    obtain ⟨h1, hl⟩ := hl.head
    obtain ⟨h2, hl⟩ := hl.head
    obtain ⟨h3, hl⟩ := hl.head
    obtain ⟨h4, hl⟩ := hl.head
    obtain ⟨h5, hl⟩ := hl.head
    obtain ⟨h6, _⟩ := hl.head
    obtain ⟨kind, rfl, hk⟩ := h1.inv_i64 ty3
    obtain ⟨base, rfl, hb⟩ := h2.inv_i64 ty3
    obtain ⟨l3, rfl, b3, t3⟩ := h3.inv_sliceB ty54
    obtain ⟨m3, rfl, q3⟩ := all_of (enc := amD) (Q := fun a => i64ok a.n) fun x hx => inv_am (t3 x hx)
    obtain ⟨l4, rfl, b4, t4⟩ := h4.inv_sliceB ty55
    obtain ⟨m4, rfl, q4⟩ := all_of (enc := wrD) (Q := fun w => i64ok w.time) fun x hx => inv_wr (t4 x hx)
    obtain ⟨l5, rfl, b5, t5⟩ := h5.inv_sliceB ty56
    obtain ⟨m5, rfl, q5⟩ := all_of (enc := meD) (Q := fun m => m.marks.length ≤ 9000000000000) fun x hx => inv_me (t5 x hx)
    obtain ⟨l6, rfl, b6, t6⟩ := h6.inv_sliceB ty57
    obtain ⟨m6, rfl, q6⟩ := all_of (enc := elD) (Q := fun e => i64ok e.time ∧ e.gone.length ≤ 9000000000000) fun x hx => inv_el (t6 x hx)
    have y3 : 32 ≤ CT.bytes 114 := by decide
    have y4 : 32 ≤ CT.bytes 65 := by decide
    have y5 : 32 ≤ CT.bytes 102 := by decide
    have y6 : 32 ≤ CT.bytes 104 := by decide
    rw [List.length_map] at b3 b4 b5 b6
    have key : ∀ n b : Nat, n * b ≤ 140737488351232 → 32 ≤ b → n ≤ 4398046511104 := fun n b h1 h2 => by
      have : n * 32 ≤ n * b := Nat.mul_le_mul_left _ h2
      omega
    exact ⟨⟨kind, base, m3, m4, m5, m6⟩, rfl, ⟨key _ _ b3 y3, key _ _ b4 y4, key _ _ b5 y5, key _ _ b6 y6⟩, hb, hk, q3, q4, q5, q6⟩
  | [], hl => exact absurd hlen (by simp)
  | [_], hl => exact absurd hlen (by simp)
  | [_, _], hl => exact absurd hlen (by simp)
  | [_, _, _], hl => exact absurd hlen (by simp)
  | [_, _, _, _], hl => exact absurd hlen (by simp)
  | [_, _, _, _, _], hl => exact absurd hlen (by simp)
  | _ :: _ :: _ :: _ :: _ :: _ :: _ :: _, hl => exact absurd hlen (by simp)

/-- A cell that is not great has few of all. -/
theorem few_len {c : CellR} (h : fewC c = true) : c.am.length + c.wr.length + c.me.length + c.el.length ≤ 60 ∧ (∀ m ∈ c.me, m.marks.length ≤ 30) ∧ (∀ e ∈ c.el, e.gone.length ≤ 30) ∧ (∀ w ∈ c.wr, (w.text.size : Int) ≤ 100) ∧ (∀ m ∈ c.me, (m.text.size : Int) ≤ 100) ∧ ∀ e ∈ c.el, (e.text.size : Int) ≤ 100 := by
  simp only [fewC, Bool.and_eq_true, decide_eq_true_eq, List.all_eq_true, List.mem_range] at h
  obtain ⟨⟨⟨h1, h2⟩, h3⟩, h4⟩ := h
  have at_ : ∀ {α : Type} [Inhabited α] {l : List α} {x : α}, x ∈ l → ∃ k, k < l.length ∧ l.getD k default = x := by
    intro α _ l x hx
    obtain ⟨i, hi, rfl⟩ := List.getElem_of_mem hx
    exact ⟨i, hi, by rw [List.getD_eq_getElem?_getD, List.getElem?_eq_getElem hi]; rfl⟩
  refine ⟨h1, ?_, ?_, ?_, ?_, ?_⟩
  · intro m hm
    obtain ⟨k, hk, rfl⟩ := at_ hm
    have := h3 k hk
    simp only [fewM, Bool.and_eq_true, decide_eq_true_eq] at this
    have h := this.2
    simp only [meAt] at h
    omega
  · intro m hm
    obtain ⟨k, hk, rfl⟩ := at_ hm
    have := h4 k hk
    simp only [fewE, Bool.and_eq_true, decide_eq_true_eq] at this
    have h := this.2
    simp only [elAt] at h
    omega
  · intro m hm
    obtain ⟨k, hk, rfl⟩ := at_ hm
    have := h2 k hk
    simp only [fewW, decide_eq_true_eq] at this
    exact this
  · intro m hm
    obtain ⟨k, hk, rfl⟩ := at_ hm
    have := h3 k hk
    simp only [fewM, Bool.and_eq_true, decide_eq_true_eq] at this
    exact this.1
  · intro m hm
    obtain ⟨k, hk, rfl⟩ := at_ hm
    have := h4 k hk
    simp only [fewE, Bool.and_eq_true, decide_eq_true_eq] at this
    exact this.1

def t09 : TxR := ⟨1, 1, zeros 13, 2, []⟩
def u09 : TxR := ⟨2, 1, zeros 13, 1, []⟩
def v09 : TxR := ⟨3, 1, (zeros 13).set 1 1, 3, []⟩
def c09 (k : Int) : CellR := ⟨k, 0, [], [], [], []⟩
end Go.Ab
set_option linter.unusedSimpArgs false
namespace Go.Ab
open Go.Proofs

def a09 : ByteArray := ⟨#[97]⟩
def b09 : ByteArray := ⟨#[98]⟩
def c09t : ByteArray := ⟨#[99]⟩
def m09 : CellR := doR (doR (c09 3) t09 1 b09) u09 1 a09
def l09 : CellR := doR (doR (c09 2) t09 1 b09) u09 1 a09
theorem txd09 (p q a : Int) (deps : List Int) : D.agg [.agg [.lit (.int .i64 p), .lit (.int .i64 q)], .agg (deps.map fun n => .lit (.int .i64 n)), .lit (.int .i64 a), .lst 89 [] .no] = txD ⟨p, q, deps, a, []⟩ := rfl
theorem celld09 (k : Int) : D.agg [.lit (.int .i64 k), .lit (.int .i64 0), .lst 114 [] .no, .lst 65 [] .no, .lst 102 [] .no, .lst 104 [] .no] = cellD (c09 k) := rfl
theorem txts2 (x y : ByteArray) : D.lst 9 [.lit (.string x), .lit (.string y)] .no = textsD [x, y] .no := rfl
theorem txts1 (x : ByteArray) : D.lst 9 [.lit (.string x)] .no = textsD [x] .no := rfl
theorem pure_tx (t : TxR) : pureD (txD t) := by simp only [go_sem, Nat.reduceAdd, Nat.reduceSub, Nat.reduceMul, Nat.reduceLT, Nat.reduceLeDiff, ↓reduceIte, reduceCtorEq, Nat.reduceEqDiff, Int.reduceToNat, Int.reduceLT, Int.reduceLE, Int.reduceEq, beq_self_eq_true]
theorem pure_val (v : ValueR) : pureD (valD v) := by simp [pureD, pureL]
theorem doR_wr (c : CellR) (t : TxR) (i : Int) (x : ByteArray) : (doR c t i x).wr.length ≤ c.wr.length + 1 := by
  unfold doR
  split
  · omega
  · split
    · omega
    · simp only [insB_len]
      have := (clearR_shape c t i).2.2.2.2.2
      omega
theorem readR_len (c : CellR) (h : 1 ≤ c.wr.length) : (readR c).texts.length ≤ c.wr.length := by
  unfold readR
  split
  · simp
  · split
    · have := risesL_len (wrTexts c.wr)
      simpa [wrTexts] using this
    · simp only [latestL]; split <;> simp; omega
set_option maxRecDepth 8000 in
set_option maxHeartbeats 4000000 in
theorem heads09 : PSpec Try.prog CT 46 [] (· = .bool true) := by
  refine PSpec.of hT Try.func46 rfl (by kernel_rfl) rfl rfl ?_
  simp only [Try.f46, go_sem, Nat.reduceAdd, Nat.reduceSub, Nat.reduceMul, Nat.reduceLT, Nat.reduceLeDiff, ↓reduceIte, reduceCtorEq, Nat.reduceEqDiff, Int.reduceToNat, Int.reduceLT, Int.reduceLE, Int.reduceEq, beq_self_eq_true]
  have d1 : t09.deps.length = 13 := rfl
  have d2 : u09.deps.length = 13 := rfl
  have d3 : v09.deps.length = 13 := rfl
  have e1 : m09.wr.length = 2 := by decide +kernel
  have e2 : l09.wr.length = 2 := by decide +kernel
  have r1 : (readR m09).texts = [a09, b09] := by decide +kernel
  have r2 : (readR l09).texts = [b09] := by decide +kernel
  have r3 : (readR (doR m09 v09 1 c09t)).texts = [a09, c09t] := by decide +kernel
  have r4 : (readR (clearR l09 v09 1)).texts = [a09] := by decide +kernel
  have e3 : (doR m09 v09 1 c09t).wr.length = 2 := by decide +kernel
  have e4 : (clearR l09 v09 1).wr.length = 1 := by decide +kernel
  have r5 : checkR m09 = true := by decide +kernel
  refine .inl ⟨by kernel_rfl, ?_⟩
  try simp only [go_sem, Nat.reduceAdd, Nat.reduceSub, Nat.reduceMul, Nat.reduceLT, Nat.reduceLeDiff, ↓reduceIte, reduceCtorEq, Nat.reduceEqDiff, Int.reduceToNat, Int.reduceLT, Int.reduceLE, Int.reduceEq, beq_self_eq_true]
  refine callD_pure (args' := [cellD (c09 3), txD t09, .lit (.int .i64 1), .lit (.string b09)]) (register_do (c09 3) t09 1 b09 d1 (by decide)) (by kernel_rfl) ⟨pure_cell _, pure_tx _, trivial, trivial, trivial⟩ ?_
  have q1 : (doR (c09 3) t09 1 b09).wr.length < 100000000 := by have := doR_wr (c09 3) t09 1 b09; have h : (c09 3).wr.length = 0 := rfl; omega
  have q2 : (doR (c09 2) t09 1 b09).wr.length < 100000000 := by have := doR_wr (c09 2) t09 1 b09; have h : (c09 2).wr.length = 0 := rfl; omega
  have f1 : doR (doR (c09 3) t09 1 b09) u09 1 a09 = m09 := rfl
  have f2 : doR (doR (c09 2) t09 1 b09) u09 1 a09 = l09 := rfl
  generalize doR (c09 3) t09 1 b09 = x1 at q1 f1 ⊢
  generalize hx2 : doR (c09 2) t09 1 b09 = x2 at q2 f2
  generalize m09 = m at *
  generalize l09 = l at *
  simp only [go_sem, Nat.reduceAdd, Nat.reduceSub, Nat.reduceMul, Nat.reduceLT, Nat.reduceLeDiff, ↓reduceIte, reduceCtorEq, Nat.reduceEqDiff, Int.reduceToNat, Int.reduceLT, Int.reduceLE, Int.reduceEq, beq_self_eq_true]
  refine callD_pure (args' := [cellD x1, txD u09, .lit (.int .i64 1), .lit (.string a09)]) (register_do x1 u09 1 a09 d2 q1) (by kernel_rfl) ⟨pure_cell _, pure_tx _, trivial, trivial, trivial⟩ ?_
  simp only [go_sem, Nat.reduceAdd, Nat.reduceSub, Nat.reduceMul, Nat.reduceLT, Nat.reduceLeDiff, ↓reduceIte, reduceCtorEq, Nat.reduceEqDiff, Int.reduceToNat, Int.reduceLT, Int.reduceLE, Int.reduceEq, beq_self_eq_true, f1]
  refine .inl ⟨by kernel_rfl, ?_⟩
  try simp only [go_sem, Nat.reduceAdd, Nat.reduceSub, Nat.reduceMul, Nat.reduceLT, Nat.reduceLeDiff, ↓reduceIte, reduceCtorEq, Nat.reduceEqDiff, Int.reduceToNat, Int.reduceLT, Int.reduceLE, Int.reduceEq, beq_self_eq_true]
  refine callD_pure (args' := [cellD (c09 2), txD t09, .lit (.int .i64 1), .lit (.string b09)]) (register_do (c09 2) t09 1 b09 d1 (by decide)) (by kernel_rfl) ⟨pure_cell _, pure_tx _, trivial, trivial, trivial⟩ ?_
  rw [hx2]
  simp only [go_sem, Nat.reduceAdd, Nat.reduceSub, Nat.reduceMul, Nat.reduceLT, Nat.reduceLeDiff, ↓reduceIte, reduceCtorEq, Nat.reduceEqDiff, Int.reduceToNat, Int.reduceLT, Int.reduceLE, Int.reduceEq, beq_self_eq_true]
  refine callD_pure (args' := [cellD x2, txD u09, .lit (.int .i64 1), .lit (.string a09)]) (register_do x2 u09 1 a09 d2 q2) (by kernel_rfl) ⟨pure_cell _, pure_tx _, trivial, trivial, trivial⟩ ?_
  simp only [go_sem, Nat.reduceAdd, Nat.reduceSub, Nat.reduceMul, Nat.reduceLT, Nat.reduceLeDiff, ↓reduceIte, reduceCtorEq, Nat.reduceEqDiff, Int.reduceToNat, Int.reduceLT, Int.reduceLE, Int.reduceEq, beq_self_eq_true, f2]
  refine callK_pure (args' := [cellD m]) (register_read m (by omega)) (by kernel_rfl) ⟨pure_cell _, trivial⟩ ?_
  simp only [go_sem, Nat.reduceAdd, Nat.reduceSub, Nat.reduceMul, Nat.reduceLT, Nat.reduceLeDiff, ↓reduceIte, reduceCtorEq, Nat.reduceEqDiff, Int.reduceToNat, Int.reduceLT, Int.reduceLE, Int.reduceEq, beq_self_eq_true, r1, List.map_cons, List.map_nil]
  refine callK_pure (args' := [textsD [a09, b09] .no, textsD [a09, b09] .no]) (ref_texts08 _ (by decide)) (by kernel_rfl) ⟨trivial, trivial, trivial⟩ ?_
  simp only [go_sem, Nat.reduceAdd, Nat.reduceSub, Nat.reduceMul, Nat.reduceLT, Nat.reduceLeDiff, ↓reduceIte, reduceCtorEq, Nat.reduceEqDiff, Int.reduceToNat, Int.reduceLT, Int.reduceLE, Int.reduceEq, beq_self_eq_true]
  refine callK_pure (args' := [cellD l]) (register_read l (by omega)) (by kernel_rfl) ⟨pure_cell _, trivial⟩ ?_
  simp only [go_sem, Nat.reduceAdd, Nat.reduceSub, Nat.reduceMul, Nat.reduceLT, Nat.reduceLeDiff, ↓reduceIte, reduceCtorEq, Nat.reduceEqDiff, Int.reduceToNat, Int.reduceLT, Int.reduceLE, Int.reduceEq, beq_self_eq_true, r2, List.map_cons, List.map_nil]
  refine callK_pure (args' := [textsD [b09] .no, textsD [b09] .no]) (ref_texts08 _ (by decide)) (by kernel_rfl) ⟨trivial, trivial, trivial⟩ ?_
  simp only [go_sem, Nat.reduceAdd, Nat.reduceSub, Nat.reduceMul, Nat.reduceLT, Nat.reduceLeDiff, ↓reduceIte, reduceCtorEq, Nat.reduceEqDiff, Int.reduceToNat, Int.reduceLT, Int.reduceLE, Int.reduceEq, beq_self_eq_true]
  refine callK_pure (args' := [cellD m, txD v09, .lit (.int .i64 1), .lit (.string c09t)]) (register_do m v09 1 c09t d3 (by omega)) (by kernel_rfl) ⟨pure_cell _, pure_tx _, trivial, trivial, trivial⟩ ?_
  simp only [go_sem, Nat.reduceAdd, Nat.reduceSub, Nat.reduceMul, Nat.reduceLT, Nat.reduceLeDiff, ↓reduceIte, reduceCtorEq, Nat.reduceEqDiff, Int.reduceToNat, Int.reduceLT, Int.reduceLE, Int.reduceEq, beq_self_eq_true]
  refine callK_pure (args' := [cellD (doR m v09 1 c09t)]) (register_read _ (by omega)) (by kernel_rfl) ⟨pure_cell _, trivial⟩ ?_
  simp only [go_sem, Nat.reduceAdd, Nat.reduceSub, Nat.reduceMul, Nat.reduceLT, Nat.reduceLeDiff, ↓reduceIte, reduceCtorEq, Nat.reduceEqDiff, Int.reduceToNat, Int.reduceLT, Int.reduceLE, Int.reduceEq, beq_self_eq_true, r3, List.map_cons, List.map_nil]
  refine callK_pure (args' := [textsD [a09, c09t] .no, textsD [a09, c09t] .no]) (ref_texts08 _ (by decide)) (by kernel_rfl) ⟨trivial, trivial, trivial⟩ ?_
  simp only [go_sem, Nat.reduceAdd, Nat.reduceSub, Nat.reduceMul, Nat.reduceLT, Nat.reduceLeDiff, ↓reduceIte, reduceCtorEq, Nat.reduceEqDiff, Int.reduceToNat, Int.reduceLT, Int.reduceLE, Int.reduceEq, beq_self_eq_true]
  refine callK_pure (args' := [cellD l, txD v09, .lit (.int .i64 1)]) (register_clear l v09 1 d3 (by omega)) (by kernel_rfl) ⟨pure_cell _, pure_tx _, trivial, trivial⟩ ?_
  simp only [go_sem, Nat.reduceAdd, Nat.reduceSub, Nat.reduceMul, Nat.reduceLT, Nat.reduceLeDiff, ↓reduceIte, reduceCtorEq, Nat.reduceEqDiff, Int.reduceToNat, Int.reduceLT, Int.reduceLE, Int.reduceEq, beq_self_eq_true]
  refine callK_pure (args' := [cellD (clearR l v09 1)]) (register_read _ (by omega)) (by kernel_rfl) ⟨pure_cell _, trivial⟩ ?_
  simp only [go_sem, Nat.reduceAdd, Nat.reduceSub, Nat.reduceMul, Nat.reduceLT, Nat.reduceLeDiff, ↓reduceIte, reduceCtorEq, Nat.reduceEqDiff, Int.reduceToNat, Int.reduceLT, Int.reduceLE, Int.reduceEq, beq_self_eq_true, r4, List.map_cons, List.map_nil]
  refine callK_pure (args' := [textsD [a09] .no, textsD [a09] .no]) (ref_texts08 _ (by decide)) (by kernel_rfl) ⟨trivial, trivial, trivial⟩ ?_
  simp only [go_sem, Nat.reduceAdd, Nat.reduceSub, Nat.reduceMul, Nat.reduceLT, Nat.reduceLeDiff, ↓reduceIte, reduceCtorEq, Nat.reduceEqDiff, Int.reduceToNat, Int.reduceLT, Int.reduceLE, Int.reduceEq, beq_self_eq_true]
  refine callK_pure (args' := [cellD m]) (register_check m (by omega)) (by kernel_rfl) ⟨pure_cell _, trivial⟩ ?_
  simp only [go_sem, Nat.reduceAdd, Nat.reduceSub, Nat.reduceMul, Nat.reduceLT, Nat.reduceLeDiff, ↓reduceIte, reduceCtorEq, Nat.reduceEqDiff, Int.reduceToNat, Int.reduceLT, Int.reduceLE, Int.reduceEq, beq_self_eq_true, r5]
end Go.Ab
