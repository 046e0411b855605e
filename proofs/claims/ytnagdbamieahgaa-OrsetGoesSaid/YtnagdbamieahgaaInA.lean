/- What cells' data look like. Conditions: none. -/
import Derived.Test.YtnagdbamieahgaaDaA
import Derived.Test.YtnagdbamieahgaaTxI
set_option linter.unusedSimpArgs false
namespace Go.Ab
open Go.Proofs

theorem inv_markR {d : D} (h : HasTy CT 58 d) : ∃ m : MarkR, d = m.d ∧ True := by
  obtain ⟨p, s, i, rfl⟩ := inv_mark h
  exact ⟨⟨p, s, i⟩, rfl, trivial⟩
theorem inv_marks {d : D} (h : HasTy CT 53 d) : ∃ l : List MarkR, d = marksD l .no ∧ l.length ≤ 9000000000000 := by
  obtain ⟨l, rfl, h1, h2⟩ := h.inv_sliceB ty53
  obtain ⟨m, rfl, _⟩ := all_of (enc := MarkR.d) (Q := fun _ => True) fun x hx => inv_markR (h2 x hx)
  exact ⟨m, rfl, by have : CT.bytes 58 = 24 := rfl; rw [List.length_map, this] at h1; omega⟩
theorem inv_am {d : D} (h : HasTy CT 107 d) : ∃ a : AmountR, d = amD a ∧ i64ok a.n := by
  obtain ⟨l, rfl, hl⟩ := h.inv_struct ty107
  have hlen := hl.1
  match l, hl with
  | [a, b], hl =>
    obtain ⟨h1, hl⟩ := hl.head
    obtain ⟨h2, _⟩ := hl.head
    obtain ⟨m, rfl, _⟩ := inv_markR h1
    obtain ⟨n, rfl, hn⟩ := h2.inv_i64 ty3
    exact ⟨⟨m, n⟩, rfl, hn⟩
  | [], hl => exact absurd hlen (by simp)
  | [_], hl => exact absurd hlen (by simp)
  | _ :: _ :: _ :: _, hl => exact absurd hlen (by simp)
theorem inv_wr {d : D} (h : HasTy CT 95 d) : ∃ w : WriteR, d = wrD w ∧ i64ok w.time := by
  obtain ⟨l, rfl, hl⟩ := h.inv_struct ty95
  have hlen := hl.1
  match l, hl with
  | [a, b, c], hl =>
    obtain ⟨h1, hl⟩ := hl.head
    obtain ⟨h2, hl⟩ := hl.head
    obtain ⟨h3, _⟩ := hl.head
    obtain ⟨m, rfl, _⟩ := inv_markR h1
    obtain ⟨n, rfl, hn⟩ := h2.inv_i64 ty3
    obtain ⟨x, rfl, _⟩ := h3.inv_str ty9
    exact ⟨⟨m, n, x⟩, rfl, hn⟩
  | [], hl => exact absurd hlen (by simp)
  | [_], hl => exact absurd hlen (by simp)
  | [_, _], hl => exact absurd hlen (by simp)
  | _ :: _ :: _ :: _ :: _, hl => exact absurd hlen (by simp)
theorem inv_me {d : D} (h : HasTy CT 55 d) : ∃ m : MemberR, d = meD m ∧ m.marks.length ≤ 9000000000000 := by
  obtain ⟨l, rfl, hl⟩ := h.inv_struct ty55
  have hlen := hl.1
  match l, hl with
  | [a, b, c], hl =>
    obtain ⟨h1, hl⟩ := hl.head
    obtain ⟨h2, hl⟩ := hl.head
    obtain ⟨h3, _⟩ := hl.head
    obtain ⟨x, rfl, _⟩ := h1.inv_str ty9
    obtain ⟨b, rfl⟩ := h2.inv_bool ty4
    obtain ⟨m, rfl, hm⟩ := inv_marks h3
    exact ⟨⟨x, b, m⟩, rfl, hm⟩
  | [], hl => exact absurd hlen (by simp)
  | [_], hl => exact absurd hlen (by simp)
  | [_, _], hl => exact absurd hlen (by simp)
  | _ :: _ :: _ :: _ :: _, hl => exact absurd hlen (by simp)
theorem inv_el {d : D} (h : HasTy CT 97 d) : ∃ e : ElemR, d = elD e ∧ i64ok e.time ∧ e.gone.length ≤ 9000000000000 := by
  obtain ⟨l, rfl, hl⟩ := h.inv_struct ty97
  have hlen := hl.1
  match l, hl with
  | [a, b, c, e, f], hl =>
    obtain ⟨h1, hl⟩ := hl.head
    obtain ⟨h2, hl⟩ := hl.head
    obtain ⟨h3, hl⟩ := hl.head
    obtain ⟨h4, hl⟩ := hl.head
    obtain ⟨h5, _⟩ := hl.head
    obtain ⟨m, rfl, _⟩ := inv_markR h1
    obtain ⟨n, rfl, hn⟩ := h2.inv_i64 ty3
    obtain ⟨r, rfl, _⟩ := inv_markR h3
    obtain ⟨x, rfl, _⟩ := h4.inv_str ty9
    obtain ⟨g, rfl, hg⟩ := inv_marks h5
    exact ⟨⟨m, n, r, x, g⟩, rfl, hn, hg⟩
  | [], hl => exact absurd hlen (by simp)
  | [_], hl => exact absurd hlen (by simp)
  | [_, _], hl => exact absurd hlen (by simp)
  | [_, _, _], hl => exact absurd hlen (by simp)
  | [_, _, _, _], hl => exact absurd hlen (by simp)
  | _ :: _ :: _ :: _ :: _ :: _ :: _, hl => exact absurd hlen (by simp)
/-- What a cell of the machine's is, as data. -/
structure CellR.wide (c : CellR) : Prop where
  ok : c.ok
  base : i64ok c.base
  kind : i64ok c.kind
  am : ∀ a ∈ c.am, i64ok a.n
  wr : ∀ w ∈ c.wr, i64ok w.time
  me : ∀ m ∈ c.me, m.marks.length ≤ 9000000000000
  el : ∀ e ∈ c.el, i64ok e.time ∧ e.gone.length ≤ 9000000000000
theorem inv_cell {d : D} (h : HasTy CT 49 d) : ∃ c : CellR, d = cellD c ∧ c.wide := by
  obtain ⟨l, rfl, hl⟩ := h.inv_struct ty49
  have hlen := hl.1
  match l, hl with
  | [a, b, c, e, f, g], hl =>
    obtain ⟨h1, hl⟩ := hl.head
    obtain ⟨h2, hl⟩ := hl.head
    obtain ⟨h3, hl⟩ := hl.head
    obtain ⟨h4, hl⟩ := hl.head
    obtain ⟨h5, hl⟩ := hl.head
    obtain ⟨h6, _⟩ := hl.head
    obtain ⟨kind, rfl, hk⟩ := h1.inv_i64 ty3
    obtain ⟨base, rfl, hb⟩ := h2.inv_i64 ty3
    obtain ⟨l3, rfl, b3, t3⟩ := h3.inv_sliceB ty44
    obtain ⟨m3, rfl, q3⟩ := all_of (enc := amD) (Q := fun a => i64ok a.n) fun x hx => inv_am (t3 x hx)
    obtain ⟨l4, rfl, b4, t4⟩ := h4.inv_sliceB ty45
    obtain ⟨m4, rfl, q4⟩ := all_of (enc := wrD) (Q := fun w => i64ok w.time) fun x hx => inv_wr (t4 x hx)
    obtain ⟨l5, rfl, b5, t5⟩ := h5.inv_sliceB ty46
    obtain ⟨m5, rfl, q5⟩ := all_of (enc := meD) (Q := fun m => m.marks.length ≤ 9000000000000) fun x hx => inv_me (t5 x hx)
    obtain ⟨l6, rfl, b6, t6⟩ := h6.inv_sliceB ty47
    obtain ⟨m6, rfl, q6⟩ := all_of (enc := elD) (Q := fun e => i64ok e.time ∧ e.gone.length ≤ 9000000000000) fun x hx => inv_el (t6 x hx)
    have y3 : 32 ≤ CT.bytes 107 := by decide
    have y4 : 32 ≤ CT.bytes 95 := by decide
    have y5 : 32 ≤ CT.bytes 55 := by decide
    have y6 : 32 ≤ CT.bytes 97 := by decide
    rw [List.length_map] at b3 b4 b5 b6
    have key : ∀ n b : Nat, n * b ≤ 140737488351232 → 32 ≤ b → n ≤ 4398046511104 := fun n b h1 h2 => by
      have : n * 32 ≤ n * b := Nat.mul_le_mul_left _ h2
      omega
    exact ⟨⟨kind, base, m3, m4, m5, m6⟩, rfl, ⟨key _ _ b3 y3, key _ _ b4 y4, key _ _ b5 y5, key _ _ b6 y6⟩, hb, hk, q3, q4, q5, q6⟩
  | [], hl => exact absurd hlen (by simp)
  | [_], hl => exact absurd hlen (by simp)
  | [_, _], hl => exact absurd hlen (by simp)
  | [_, _, _], hl => exact absurd hlen (by simp)
  | [_, _, _, _], hl => exact absurd hlen (by simp)
  | [_, _, _, _, _], hl => exact absurd hlen (by simp)
  | _ :: _ :: _ :: _ :: _ :: _ :: _ :: _, hl => exact absurd hlen (by simp)
end Go.Ab
