/- Graphs of transactions: in an order each stands behind all that is ahead of it. Conditions: none. -/
import Derived.Test.YtnagdbamieahgaaGrX
set_option linter.unusedSimpArgs false
namespace Go.Ab
open Go.Proofs

def atL (o : List Nat) (n i : Nat) : List Int := (List.range n).map fun k => if o.idxOf k < i then ((o.idxOf k : Int) + 1) else 0
theorem atL_len (o : List Nat) (n i : Nat) : (atL o n i).length = n := by simp [atL]
theorem atL_zero (o : List Nat) (n : Nat) : List.replicate n (0 : Int) = atL o n 0 := by
  refine List.ext_getElem (by simp [atL]) fun k h1 h2 => ?_
  simp [atL]
theorem atL_get (o : List Nat) {n k : Nat} (i : Nat) (hk : k < n) : (atL o n i).getD k 0 = if o.idxOf k < i then ((o.idxOf k : Int) + 1) else 0 := by
  rw [List.getD_eq_getElem?_getD, atL, List.getElem?_map, List.getElem?_range hk]; rfl
theorem atL_set {o : List Nat} {n i : Nat} (hn : o.Nodup) (hi : i < o.length) : (atL o n i).set (o.getD i 0) ((i : Int) + 1) = atL o n (i + 1) := by
  refine List.ext_getElem (by simp [atL]) fun k h1 h2 => ?_
  rw [List.getElem_set]
  split
  · rename_i e
    subst e
    have := idx_get hn hi
    simp only [atL, List.getElem_map, List.getElem_range, this]
    rw [if_pos (by omega)]
  · rename_i e
    have hne : o.idxOf k ≠ i := fun h => by
      have hm : k ∈ o := List.idxOf_lt_length_iff.1 (by omega)
      have := get_idx hm
      rw [h] at this
      exact e this
    simp only [atL, List.getElem_map, List.getElem_range]
    by_cases h : o.idxOf k < i
    · rw [if_pos h, if_pos (by omega)]
    · rw [if_neg h, if_neg (by omega)]
set_option maxRecDepth 8000 in
set_option maxHeartbeats 2000000 in
theorem law_grsorts (l : List TxR) (ho : TxsOk l) : PSpec Try.prog CT 4 [txsD l] (· = .bool true) := by
  refine ASpec.of hT Try.func4 rfl (by kernel_rfl) rfl rfl ?_
  simp only [Try.f4, go_sem, Nat.reduceAdd, Nat.reduceSub, Nat.reduceMul, Nat.reduceLT, Nat.reduceLeDiff, ↓reduceIte, reduceCtorEq, Nat.reduceEqDiff, Int.reduceToNat, Int.reduceLT, Int.reduceLE, Int.reduceEq, beq_self_eq_true, noHeap]
  cases h1 : fewTx l with
  | false =>
    refine callK_pure (ref_few l ho) (by simp only [go_sem, Nat.reduceAdd, Nat.reduceSub, Nat.reduceMul, Nat.reduceLT, Nat.reduceLeDiff, ↓reduceIte, reduceCtorEq, Nat.reduceEqDiff, Int.reduceToNat, Int.reduceLT, Int.reduceLE, Int.reduceEq, beq_self_eq_true, h1, Bool.not_false]) (by simp only [go_sem, Nat.reduceAdd, Nat.reduceSub, Nat.reduceMul, Nat.reduceLT, Nat.reduceLeDiff, ↓reduceIte, reduceCtorEq, Nat.reduceEqDiff, Int.reduceToNat, Int.reduceLT, Int.reduceLE, Int.reduceEq, beq_self_eq_true, h1, Bool.not_false]) ?_; simp only [go_sem, Nat.reduceAdd, Nat.reduceSub, Nat.reduceMul, Nat.reduceLT, Nat.reduceLeDiff, ↓reduceIte, reduceCtorEq, Nat.reduceEqDiff, Int.reduceToNat, Int.reduceLT, Int.reduceLE, Int.reduceEq, beq_self_eq_true, h1, Bool.not_false]
    refine callK_pure (heads35) (by simp only [go_sem, Nat.reduceAdd, Nat.reduceSub, Nat.reduceMul, Nat.reduceLT, Nat.reduceLeDiff, ↓reduceIte, reduceCtorEq, Nat.reduceEqDiff, Int.reduceToNat, Int.reduceLT, Int.reduceLE, Int.reduceEq, beq_self_eq_true, h1]) (by simp only [go_sem, Nat.reduceAdd, Nat.reduceSub, Nat.reduceMul, Nat.reduceLT, Nat.reduceLeDiff, ↓reduceIte, reduceCtorEq, Nat.reduceEqDiff, Int.reduceToNat, Int.reduceLT, Int.reduceLE, Int.reduceEq, beq_self_eq_true, h1]) ?_; simp only [go_sem, Nat.reduceAdd, Nat.reduceSub, Nat.reduceMul, Nat.reduceLT, Nat.reduceLeDiff, ↓reduceIte, reduceCtorEq, Nat.reduceEqDiff, Int.reduceToNat, Int.reduceLT, Int.reduceLE, Int.reduceEq, beq_self_eq_true, h1]
  | true =>
  have hl := few_len l h1
  have hl1 : l.length < 100000000 := by omega
  refine callK_pure (ref_few l ho) (by simp only [go_sem, Nat.reduceAdd, Nat.reduceSub, Nat.reduceMul, Nat.reduceLT, Nat.reduceLeDiff, ↓reduceIte, reduceCtorEq, Nat.reduceEqDiff, Int.reduceToNat, Int.reduceLT, Int.reduceLE, Int.reduceEq, beq_self_eq_true, h1, Bool.not_true]) (by simp only [go_sem, Nat.reduceAdd, Nat.reduceSub, Nat.reduceMul, Nat.reduceLT, Nat.reduceLeDiff, ↓reduceIte, reduceCtorEq, Nat.reduceEqDiff, Int.reduceToNat, Int.reduceLT, Int.reduceLE, Int.reduceEq, beq_self_eq_true, h1, Bool.not_true]) ?_; simp only [go_sem, Nat.reduceAdd, Nat.reduceSub, Nat.reduceMul, Nat.reduceLT, Nat.reduceLeDiff, ↓reduceIte, reduceCtorEq, Nat.reduceEqDiff, Int.reduceToNat, Int.reduceLT, Int.reduceLE, Int.reduceEq, beq_self_eq_true, h1, Bool.not_true]
  cases h2 : sortGG l with
  | none =>
    refine callK_pure (graph_sort l ho hl1) (by simp only [go_sem, Nat.reduceAdd, Nat.reduceSub, Nat.reduceMul, Nat.reduceLT, Nat.reduceLeDiff, ↓reduceIte, reduceCtorEq, Nat.reduceEqDiff, Int.reduceToNat, Int.reduceLT, Int.reduceLE, Int.reduceEq, beq_self_eq_true, h1, sortD, h2, Option.getD_none, Option.isSome_none, Bool.not_false, natI, List.map_nil, List.length_nil, Int.natCast_zero, decide_true]) (by simp only [go_sem, Nat.reduceAdd, Nat.reduceSub, Nat.reduceMul, Nat.reduceLT, Nat.reduceLeDiff, ↓reduceIte, reduceCtorEq, Nat.reduceEqDiff, Int.reduceToNat, Int.reduceLT, Int.reduceLE, Int.reduceEq, beq_self_eq_true, h1, sortD, h2, Option.getD_none, Option.isSome_none, Bool.not_false, natI, List.map_nil, List.length_nil, Int.natCast_zero, decide_true]) ?_; simp only [go_sem, Nat.reduceAdd, Nat.reduceSub, Nat.reduceMul, Nat.reduceLT, Nat.reduceLeDiff, ↓reduceIte, reduceCtorEq, Nat.reduceEqDiff, Int.reduceToNat, Int.reduceLT, Int.reduceLE, Int.reduceEq, beq_self_eq_true, h1, sortD, h2, Option.getD_none, Option.isSome_none, Bool.not_false, natI, List.map_nil, List.length_nil, Int.natCast_zero, decide_true]
    try simp only [go_sem, Nat.reduceAdd, Nat.reduceSub, Nat.reduceMul, Nat.reduceLT, Nat.reduceLeDiff, ↓reduceIte, reduceCtorEq, Nat.reduceEqDiff, Int.reduceToNat, Int.reduceLT, Int.reduceLE, Int.reduceEq, beq_self_eq_true, Option.getD_none, Option.isSome_none, Bool.not_false, natI, List.map_nil, List.length_nil, Int.natCast_zero, decide_true]
    refine callK_pure (heads35) (by simp only [go_sem, Nat.reduceAdd, Nat.reduceSub, Nat.reduceMul, Nat.reduceLT, Nat.reduceLeDiff, ↓reduceIte, reduceCtorEq, Nat.reduceEqDiff, Int.reduceToNat, Int.reduceLT, Int.reduceLE, Int.reduceEq, beq_self_eq_true, h1]) (by simp only [go_sem, Nat.reduceAdd, Nat.reduceSub, Nat.reduceMul, Nat.reduceLT, Nat.reduceLeDiff, ↓reduceIte, reduceCtorEq, Nat.reduceEqDiff, Int.reduceToNat, Int.reduceLT, Int.reduceLE, Int.reduceEq, beq_self_eq_true, h1]) ?_; simp only [go_sem, Nat.reduceAdd, Nat.reduceSub, Nat.reduceMul, Nat.reduceLT, Nat.reduceLeDiff, ↓reduceIte, reduceCtorEq, Nat.reduceEqDiff, Int.reduceToNat, Int.reduceLT, Int.reduceLE, Int.reduceEq, beq_self_eq_true, h1]
  | some o =>
  obtain ⟨hck, hok⟩ := sort_some h2
  have hlen := hok.len
  refine callK_pure (graph_sort l ho hl1) (by simp only [go_sem, Nat.reduceAdd, Nat.reduceSub, Nat.reduceMul, Nat.reduceLT, Nat.reduceLeDiff, ↓reduceIte, reduceCtorEq, Nat.reduceEqDiff, Int.reduceToNat, Int.reduceLT, Int.reduceLE, Int.reduceEq, beq_self_eq_true, h1, sortD, h2, Option.getD_some, Option.isSome_some, Bool.not_true]) (by simp only [go_sem, Nat.reduceAdd, Nat.reduceSub, Nat.reduceMul, Nat.reduceLT, Nat.reduceLeDiff, ↓reduceIte, reduceCtorEq, Nat.reduceEqDiff, Int.reduceToNat, Int.reduceLT, Int.reduceLE, Int.reduceEq, beq_self_eq_true, h1, sortD, h2, Option.getD_some, Option.isSome_some, Bool.not_true]) ?_; simp only [go_sem, Nat.reduceAdd, Nat.reduceSub, Nat.reduceMul, Nat.reduceLT, Nat.reduceLeDiff, ↓reduceIte, reduceCtorEq, Nat.reduceEqDiff, Int.reduceToNat, Int.reduceLT, Int.reduceLE, Int.reduceEq, beq_self_eq_true, h1, sortD, h2, Option.getD_some, Option.isSome_some, Bool.not_true]
  have hsz : CT.bytes 3 = 8 := rfl
  refine aop_make (n := l.length) (u := 3) rfl rfl rfl (by omega) (by rw [hsz]; omega) ?_
  have hz : D.agg (List.replicate l.length (CT.zero 3)) = ints (atL o l.length 0) := by
    rw [show CT.zero 3 = .lit (.int .i64 0) from rfl, ← atL_zero]; simp [ints]
  rw [hz]
  simp only [go_sem, Nat.reduceAdd, Nat.reduceSub, Nat.reduceMul, Nat.reduceLT, Nat.reduceLeDiff, ↓reduceIte, reduceCtorEq, Nat.reduceEqDiff, Int.reduceToNat, Int.reduceLT, Int.reduceLE, Int.reduceEq, beq_self_eq_true]
  refine awp_loop (fun n s => ∃ (i : Nat) (g : Nat → D), s = ⟨[txsD l, g 1, g 2, intsL (natI o) .no, g 4, .sl 3 0 0 l.length l.length, .lit (.int .i64 i), g 7, g 8, g 9, g 10, g 11, g 12, g 13, g 14, g 15, g 16, g 17, g 18, g 19, g 20, g 21, g 22, g 23, g 24, g 25, g 26, g 27, g 28, g 29, g 30, g 31, g 32, g 33, g 34, g 35, g 36, g 37, g 38, g 39, g 40, g 41, g 42, g 43, g 44, g 45, g 46, g 47, g 48, g 49, g 50, g 51, g 52, g 53, g 54, g 55, g 56, g 57, g 58, g 59, g 60, g 61, g 62, g 63, g 64, g 65, g 66, g 67, g 68, g 69, g 70, g 71, g 72, g 73, g 74, g 75, g 76, g 77, g 78, g 79, g 80, g 81, g 82, g 83, g 84, g 85, g 86, g 87, g 88, g 89, g 90, g 91, g 92, g 93, g 94, g 95, g 96, g 97, g 98, g 99, g 100, g 101, g 102, g 103, g 104, g 105, g 106, g 107, g 108, g 109, g 110], ⟨[(.arr l.length .leaf, ints (atL o l.length i))], []⟩⟩ ∧ n = o.length - i ∧ i ≤ o.length) o.length ⟨0, reg_intro rfl rfl ⟨by simp, by omega⟩⟩ ?_
  rintro n st ⟨i, g, rfl, hn, hi⟩
  have hal := atL_len o l.length i
  simp only [go_sem, Nat.reduceAdd, Nat.reduceSub, Nat.reduceMul, Nat.reduceLT, Nat.reduceLeDiff, ↓reduceIte, reduceCtorEq, Nat.reduceEqDiff, Int.reduceToNat, Int.reduceLT, Int.reduceLE, Int.reduceEq, beq_self_eq_true, natI_len]
  refine condK_split (fun hc => ?_) (fun hc => ?_)
  · have hi' : i < o.length := by have := of_decide_eq_true hc; omega
    have hm := getN_mem hi'
    have hid := idx_get hok.nd hi'
    have hset := atL_set (n := l.length) hok.nd hi'
    obtain ⟨a, hae⟩ : ∃ a, o.getD i 0 = a := ⟨_, rfl⟩
    rw [hae] at hm hid hset
    have ha := hok.lt a hm
    have had : a < (atL o l.length i).length := by omega
    have hg : (atL o l.length i).getD a 0 = 0 := by rw [atL_get o i ha, hid, if_neg (by omega)]
    have c1 : decide ((a : Int) < 0) = false := decide_eq_false (by omega)
    have c2 : decide ((l.length : Int) ≤ (a : Int)) = false := decide_eq_false (by omega)
    have hsum : IntKind.i64.wrap ((i : Int) + 1) = (i : Int) + 1 := by rw [wrap64] <;> omega
    simp only [go_sem, Nat.reduceAdd, Nat.reduceSub, Nat.reduceMul, Nat.reduceLT, Nat.reduceLeDiff, ↓reduceIte, reduceCtorEq, Nat.reduceEqDiff, Int.reduceToNat, Int.reduceLT, Int.reduceLE, Int.reduceEq, beq_self_eq_true, hi', natI_len, get_nat, hae, ha, had, indexAddr_sl_t, Nat.zero_add, hg, c1, c2, hsum, hset]
    exact ⟨o.length - (i + 1), by omega, i + 1, reg_intro rfl rfl ⟨rfl, by omega⟩⟩
  · have hi2 := of_decide_eq_false hc
    obtain rfl : i = o.length := by omega
    simp only [go_sem, Nat.reduceAdd, Nat.reduceSub, Nat.reduceMul, Nat.reduceLT, Nat.reduceLeDiff, ↓reduceIte, reduceCtorEq, Nat.reduceEqDiff, Int.reduceToNat, Int.reduceLT, Int.reduceLE, Int.reduceEq, beq_self_eq_true]
    have hal := atL_len o l.length o.length
    have hgt : ∀ k, k < l.length → (atL o l.length o.length).getD k 0 = (o.idxOf k : Int) + 1 := fun k hk => by
      rw [atL_get o _ hk, if_pos (List.idxOf_lt_length_of_mem (ord_mem hok hk))]
    generalize atL o l.length o.length = A at *
    refine awp_loop (fun n s => ∃ (i : Nat) (g : Nat → D), s = ⟨[txsD l, g 1, g 2, intsL (natI o) .no, g 4, .sl 3 0 0 l.length l.length, g 6, .lit (.int .i64 i), g 8, g 9, g 10, g 11, g 12, g 13, g 14, g 15, g 16, g 17, g 18, g 19, g 20, g 21, g 22, g 23, g 24, g 25, g 26, g 27, g 28, g 29, g 30, g 31, g 32, g 33, g 34, g 35, g 36, g 37, g 38, g 39, g 40, g 41, g 42, g 43, g 44, g 45, g 46, g 47, g 48, g 49, g 50, g 51, g 52, g 53, g 54, g 55, g 56, g 57, g 58, g 59, g 60, g 61, g 62, g 63, g 64, g 65, g 66, g 67, g 68, g 69, g 70, g 71, g 72, g 73, g 74, g 75, g 76, g 77, g 78, g 79, g 80, g 81, g 82, g 83, g 84, g 85, g 86, g 87, g 88, g 89, g 90, g 91, g 92, g 93, g 94, g 95, g 96, g 97, g 98, g 99, g 100, g 101, g 102, g 103, g 104, g 105, g 106, g 107, g 108, g 109, g 110], ⟨[(.arr l.length .leaf, ints A)], []⟩⟩ ∧ n = l.length - i ∧ i ≤ l.length) l.length ⟨0, reg_intro rfl rfl ⟨by simp, by omega⟩⟩ ?_
    rintro n st ⟨i, g, rfl, hn, hi⟩
    simp only [go_sem, Nat.reduceAdd, Nat.reduceSub, Nat.reduceMul, Nat.reduceLT, Nat.reduceLeDiff, ↓reduceIte, reduceCtorEq, Nat.reduceEqDiff, Int.reduceToNat, Int.reduceLT, Int.reduceLE, Int.reduceEq, beq_self_eq_true]
    refine condK_split (fun hc => ?_) (fun hc => ?_)
    · have hi' : i < l.length := by have := of_decide_eq_true hc; omega
      have hpl := pastG_len l i
      have hia := hgt i hi'
      have hiA : i < A.length := by omega
      simp only [go_sem, Nat.reduceAdd, Nat.reduceSub, Nat.reduceMul, Nat.reduceLT, Nat.reduceLeDiff, ↓reduceIte, reduceCtorEq, Nat.reduceEqDiff, Int.reduceToNat, Int.reduceLT, Int.reduceLE, Int.reduceEq, beq_self_eq_true]
      refine callK_pure (graph_past l ho hl1 i) (by simp only [go_sem, Nat.reduceAdd, Nat.reduceSub, Nat.reduceMul, Nat.reduceLT, Nat.reduceLeDiff, ↓reduceIte, reduceCtorEq, Nat.reduceEqDiff, Int.reduceToNat, Int.reduceLT, Int.reduceLE, Int.reduceEq, beq_self_eq_true, h1]) (by simp only [go_sem, Nat.reduceAdd, Nat.reduceSub, Nat.reduceMul, Nat.reduceLT, Nat.reduceLeDiff, ↓reduceIte, reduceCtorEq, Nat.reduceEqDiff, Int.reduceToNat, Int.reduceLT, Int.reduceLE, Int.reduceEq, beq_self_eq_true, h1]) ?_; simp only [go_sem, Nat.reduceAdd, Nat.reduceSub, Nat.reduceMul, Nat.reduceLT, Nat.reduceLeDiff, ↓reduceIte, reduceCtorEq, Nat.reduceEqDiff, Int.reduceToNat, Int.reduceLT, Int.reduceLE, Int.reduceEq, beq_self_eq_true, h1]
      refine awp_loop (fun n s => ∃ (k : Nat) (g : Nat → D), s = ⟨[txsD l, g 1, g 2, intsL (natI o) .no, g 4, .sl 3 0 0 l.length l.length, g 6, .lit (.int .i64 i), intsL (natI (pastG l i)) .no, .lit (.int .i64 k), g 10, g 11, g 12, g 13, g 14, g 15, g 16, g 17, g 18, g 19, g 20, g 21, g 22, g 23, g 24, g 25, g 26, g 27, g 28, g 29, g 30, g 31, g 32, g 33, g 34, g 35, g 36, g 37, g 38, g 39, g 40, g 41, g 42, g 43, g 44, g 45, g 46, g 47, g 48, g 49, g 50, g 51, g 52, g 53, g 54, g 55, g 56, g 57, g 58, g 59, g 60, g 61, g 62, g 63, g 64, g 65, g 66, g 67, g 68, g 69, g 70, g 71, g 72, g 73, g 74, g 75, g 76, g 77, g 78, g 79, g 80, g 81, g 82, g 83, g 84, g 85, g 86, g 87, g 88, g 89, g 90, g 91, g 92, g 93, g 94, g 95, g 96, g 97, g 98, g 99, g 100, g 101, g 102, g 103, g 104, g 105, g 106, g 107, g 108, g 109, g 110], ⟨[(.arr l.length .leaf, ints A)], []⟩⟩ ∧ n = (pastG l i).length - k ∧ k ≤ (pastG l i).length) (pastG l i).length ⟨0, reg_intro rfl rfl ⟨by simp, by omega⟩⟩ ?_
      rintro n st ⟨k, g, rfl, hn, hk⟩
      simp only [go_sem, Nat.reduceAdd, Nat.reduceSub, Nat.reduceMul, Nat.reduceLT, Nat.reduceLeDiff, ↓reduceIte, reduceCtorEq, Nat.reduceEqDiff, Int.reduceToNat, Int.reduceLT, Int.reduceLE, Int.reduceEq, beq_self_eq_true, natI_len]
      refine condK_split (fun hc => ?_) (fun hc => ?_)
      · have hk' : k < (pastG l i).length := by have := of_decide_eq_true hc; omega
        have hm := getN_mem hk'
        obtain ⟨a, hae⟩ : ∃ a, (pastG l i).getD k 0 = a := ⟨_, rfl⟩
        rw [hae] at hm
        have hr := (mem_past hck hi' a).1 hm
        have ha := reach_lt hr
        have hlt := ord_reach hok hi' hr
        have haa := hgt a ha
        have haA : a < A.length := by omega
        have c1 : decide ((a : Int) = (i : Int)) = false := decide_eq_false fun e => by
          have : a = i := by omega
          rw [this] at hlt; omega
        have c2 : decide (((o.idxOf i : Int) + 1) ≤ ((o.idxOf a : Int) + 1)) = false := decide_eq_false (by omega)
        refine .inl ⟨by kernel_rfl, ?_⟩
        simp only [go_sem, Nat.reduceAdd, Nat.reduceSub, Nat.reduceMul, Nat.reduceLT, Nat.reduceLeDiff, ↓reduceIte, reduceCtorEq, Nat.reduceEqDiff, Int.reduceToNat, Int.reduceLT, Int.reduceLE, Int.reduceEq, beq_self_eq_true, hk', natI_len, get_nat, hae, ha, haA, hiA, hi', indexAddr_sl_t, Nat.zero_add, c1, haa, hia, c2, wrapNat k (by omega)]
        exact ⟨(pastG l i).length - (k + 1), by omega, k + 1, reg_intro rfl rfl ⟨rfl, by omega⟩⟩
      · have hi3 := of_decide_eq_false hc
        simp only [go_sem, Nat.reduceAdd, Nat.reduceSub, Nat.reduceMul, Nat.reduceLT, Nat.reduceLeDiff, ↓reduceIte, reduceCtorEq, Nat.reduceEqDiff, Int.reduceToNat, Int.reduceLT, Int.reduceLE, Int.reduceEq, beq_self_eq_true, wrapNat i (by omega)]
        exact ⟨l.length - (i + 1), by omega, i + 1, reg_intro rfl rfl ⟨rfl, by omega⟩⟩
    · have c3 : decide ((o.length : Int) = (l.length : Int)) = true := decide_eq_true (by omega)
      simp only [go_sem, Nat.reduceAdd, Nat.reduceSub, Nat.reduceMul, Nat.reduceLT, Nat.reduceLeDiff, ↓reduceIte, reduceCtorEq, Nat.reduceEqDiff, Int.reduceToNat, Int.reduceLT, Int.reduceLE, Int.reduceEq, beq_self_eq_true, natI_len, c3]
      refine callK_pure (heads35) (by simp only [go_sem, Nat.reduceAdd, Nat.reduceSub, Nat.reduceMul, Nat.reduceLT, Nat.reduceLeDiff, ↓reduceIte, reduceCtorEq, Nat.reduceEqDiff, Int.reduceToNat, Int.reduceLT, Int.reduceLE, Int.reduceEq, beq_self_eq_true, h1]) (by simp only [go_sem, Nat.reduceAdd, Nat.reduceSub, Nat.reduceMul, Nat.reduceLT, Nat.reduceLeDiff, ↓reduceIte, reduceCtorEq, Nat.reduceEqDiff, Int.reduceToNat, Int.reduceLT, Int.reduceLE, Int.reduceEq, beq_self_eq_true, h1]) ?_; simp only [go_sem, Nat.reduceAdd, Nat.reduceSub, Nat.reduceMul, Nat.reduceLT, Nat.reduceLeDiff, ↓reduceIte, reduceCtorEq, Nat.reduceEqDiff, Int.reduceToNat, Int.reduceLT, Int.reduceLE, Int.reduceEq, beq_self_eq_true, h1]
end Go.Ab
