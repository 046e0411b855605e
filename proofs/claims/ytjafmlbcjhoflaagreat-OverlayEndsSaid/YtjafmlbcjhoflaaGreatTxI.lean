/- What transactions' data look like. Conditions: none. -/
import Derived.Test.YtjafmlbcjhoflaaGreatOpC
set_option linter.unusedSimpArgs false
namespace Go.Ab
open Go.Proofs

theorem inv_mark {d : D} (h : HasTy CT 87 d) : ∃ p s i, d = markD p s i := by
  obtain ⟨l, rfl, hl⟩ := h.inv_struct ty87
  match l, hl with
  | [x, y], hl =>
    obtain ⟨hx, hl⟩ := hl.head
    obtain ⟨hy, _⟩ := hl.head
    obtain ⟨m, rfl, hm⟩ := hx.inv_struct ty32
    obtain ⟨i, rfl, _⟩ := hy.inv_i64 ty3
    match m, hm with
    | [u, v], hm =>
      obtain ⟨hu, hm⟩ := hm.head
      obtain ⟨hv, _⟩ := hm.head
      obtain ⟨p, rfl, _⟩ := hu.inv_i64 ty3
      obtain ⟨s, rfl, _⟩ := hv.inv_i64 ty3
      exact ⟨p, s, i, rfl⟩
    | [], hm => exact absurd hm.1 (by simp)
    | [_], hm => exact absurd hm.1 (by simp)
    | _ :: _ :: _ :: _, hm => exact absurd hm.1 (by simp)
  | [], hl => exact absurd hl.1 (by simp)
  | [_], hl => exact absurd hl.1 (by simp)
  | _ :: _ :: _ :: _, hl => exact absurd hl.1 (by simp)

theorem inv_op {d : D} (h : HasTy CT 89 d) : ∃ o : OpR, d = opD o ∧ True := by
  obtain ⟨l, rfl, hl⟩ := h.inv_struct ty89
  have hlen := hl.1
  match l, hl with
  | [a, b, c, e, f, g, i, j], hl =>
    obtain ⟨h1, hl⟩ := hl.head
    obtain ⟨h2, hl⟩ := hl.head
    obtain ⟨h3, hl⟩ := hl.head
    obtain ⟨h4, hl⟩ := hl.head
    obtain ⟨h5, hl⟩ := hl.head
    obtain ⟨h6, hl⟩ := hl.head
    obtain ⟨h7, hl⟩ := hl.head
    obtain ⟨h8, _⟩ := hl.head
    obtain ⟨kind, rfl, _⟩ := h1.inv_i64 ty3
    obtain ⟨key, rfl, _⟩ := h2.inv_str ty9
    obtain ⟨field, rfl, _⟩ := h3.inv_str ty9
    obtain ⟨inner, rfl, _⟩ := h4.inv_i64 ty3
    obtain ⟨act, rfl, _⟩ := h5.inv_i64 ty3
    obtain ⟨n, rfl, _⟩ := h6.inv_i64 ty3
    obtain ⟨text, rfl, _⟩ := h7.inv_str ty9
    obtain ⟨p, s, q, rfl⟩ := inv_mark h8
    exact ⟨⟨kind, key, field, inner, act, n, text, p, s, q⟩, rfl, trivial⟩
  | [], hl => exact absurd hlen (by simp)
  | [_], hl => exact absurd hlen (by simp)
  | [_, _], hl => exact absurd hlen (by simp)
  | [_, _, _], hl => exact absurd hlen (by simp)
  | [_, _, _, _], hl => exact absurd hlen (by simp)
  | [_, _, _, _, _], hl => exact absurd hlen (by simp)
  | [_, _, _, _, _, _], hl => exact absurd hlen (by simp)
  | [_, _, _, _, _, _, _], hl => exact absurd hlen (by simp)
  | _ :: _ :: _ :: _ :: _ :: _ :: _ :: _ :: _ :: _, hl => exact absurd hlen (by simp)

theorem inv_tx {d : D} (h : HasTy CT 37 d) : ∃ t : TxR, d = txD t ∧ t.deps.length = 13 ∧ t.ops.length ≤ 9223372036854775807 := by
  obtain ⟨l, rfl, hl⟩ := h.inv_struct ty37
  have hlen := hl.1
  match l, hl with
  | [a, b, c, e], hl =>
    obtain ⟨h1, hl⟩ := hl.head
    obtain ⟨h2, hl⟩ := hl.head
    obtain ⟨h3, hl⟩ := hl.head
    obtain ⟨h4, _⟩ := hl.head
    obtain ⟨m, rfl, hm⟩ := h1.inv_struct ty32
    obtain ⟨deps, rfl, hd, _⟩ := h2.inv_ints ty34 ty3
    obtain ⟨time, rfl, _⟩ := h3.inv_i64 ty3
    obtain ⟨os, rfl, ho1, ho2⟩ := h4.inv_slice ty35
    obtain ⟨ops, rfl, _⟩ := all_of (enc := opD) (Q := fun _ => True) fun x hx => inv_op (ho2 x hx)
    match m, hm with
    | [u, v], hm =>
      obtain ⟨hu, hm⟩ := hm.head
      obtain ⟨hv, _⟩ := hm.head
      obtain ⟨p, rfl, _⟩ := hu.inv_i64 ty3
      obtain ⟨s, rfl, _⟩ := hv.inv_i64 ty3
      exact ⟨⟨p, s, deps, time, ops⟩, rfl, hd, by simpa [maxLen] using ho1⟩
    | [], hm => exact absurd hm.1 (by simp)
    | [_], hm => exact absurd hm.1 (by simp)
    | _ :: _ :: _ :: _, hm => exact absurd hm.1 (by simp)
  | [], hl => exact absurd hlen (by simp)
  | [_], hl => exact absurd hlen (by simp)
  | [_, _], hl => exact absurd hlen (by simp)
  | [_, _, _], hl => exact absurd hlen (by simp)
  | _ :: _ :: _ :: _ :: _ :: _, hl => exact absurd hlen (by simp)
end Go.Ab
