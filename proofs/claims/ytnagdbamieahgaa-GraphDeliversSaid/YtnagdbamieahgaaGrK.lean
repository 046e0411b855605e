/- Graphs of transactions: the web that is woven. Conditions: none. -/
import Derived.Test.YtnagdbamieahgaaGrF
set_option linter.unusedSimpArgs false
namespace Go.Ab
open Go.Proofs

theorem into_snoc (l : List TxR) (i k : Nat) : ((List.range (k + 1)).filter fun k => leadG l k i) = ((List.range k).filter fun k => leadG l k i) ++ (if leadG l k i then [k] else []) := by
  rw [List.range_succ, List.filter_append]
  cases h : leadG l k i <;> simp [h]
def wovenR (l : List TxR) (bs : List (Sh × D)) (tk : List Bool) (r : D) (h : Heap) : Prop :=
  (checkG l = false ∧ r = .tup [.lit (.pointer none), .bool false] ∧ h = ⟨bs, tk⟩) ∨
  (checkG l = true ∧ ∃ ex b tk2, r = .tup [.ptr b [], .bool true] ∧ h = ⟨bs ++ ex, tk ++ tk2⟩ ∧ WebAt l (bs ++ ex) b)
set_option maxRecDepth 8000 in
set_option maxHeartbeats 1000000 in
theorem graph_woven (l : List TxR) (ho : TxsOk l) (hl : l.length < 100000000) (bs : List (Sh × D)) (tk : List Bool) :
    ASpec Try.prog CT 51 [txsD l] ⟨bs, tk⟩ (wovenR l bs tk) := by
  refine ASpec.of hT Try.func51 rfl (by kernel_rfl) rfl rfl ?_
  simp only [Try.f51, go_sem, Nat.reduceAdd, Nat.reduceSub, Nat.reduceMul, Nat.reduceLT, Nat.reduceLeDiff, ↓reduceIte, reduceCtorEq, Nat.reduceEqDiff, Int.reduceToNat, Int.reduceLT, Int.reduceLE, Int.reduceEq, beq_self_eq_true]
  refine callK_pure (args' := [txsD l]) (graph_check l ho hl) (by first | rfl | (simp only [go_sem, Nat.reduceAdd, Nat.reduceSub, Nat.reduceMul, Nat.reduceLT, Nat.reduceLeDiff, ↓reduceIte, reduceCtorEq, Nat.reduceEqDiff, Int.reduceToNat, Int.reduceLT, Int.reduceLE, Int.reduceEq, beq_self_eq_true]; done)) (by first | (simp only [go_sem, Nat.reduceAdd, Nat.reduceSub, Nat.reduceMul, Nat.reduceLT, Nat.reduceLeDiff, ↓reduceIte, reduceCtorEq, Nat.reduceEqDiff, Int.reduceToNat, Int.reduceLT, Int.reduceLE, Int.reduceEq, beq_self_eq_true]; done) | (simp [pureL, pureD]; done)) ?_
  cases h1 : checkG l with
  | false =>
    simp only [go_sem, Nat.reduceAdd, Nat.reduceSub, Nat.reduceMul, Nat.reduceLT, Nat.reduceLeDiff, ↓reduceIte, reduceCtorEq, Nat.reduceEqDiff, Int.reduceToNat, Int.reduceLT, Int.reduceLE, Int.reduceEq, beq_self_eq_true, Bool.not_false]
    exact .inl ⟨h1, rfl, rfl⟩
  | true =>
  have h4 : l.length ≤ 4096 := by simp only [checkG, Bool.and_eq_true, decide_eq_true_eq] at h1; exact h1.1
  simp only [go_sem, Nat.reduceAdd, Nat.reduceSub, Nat.reduceMul, Nat.reduceLT, Nat.reduceLeDiff, ↓reduceIte, reduceCtorEq, Nat.reduceEqDiff, Int.reduceToNat, Int.reduceLT, Int.reduceLE, Int.reduceEq, beq_self_eq_true, Bool.not_true]
  have hsz : CT.bytes 25 = 24 := rfl
  refine aop_make (n := l.length) (u := 25) rfl rfl rfl (by omega) (by rw [hsz]; omega) ?_
  simp only [go_sem, Nat.reduceAdd, Nat.reduceSub, Nat.reduceMul, Nat.reduceLT, Nat.reduceLeDiff, ↓reduceIte, reduceCtorEq, Nat.reduceEqDiff, Int.reduceToNat, Int.reduceLT, Int.reduceLE, Int.reduceEq, beq_self_eq_true]
  have hlen : ∀ y : Sh × D, (bs ++ [y]).length = bs.length + 1 := fun y => by simp
  simp only [hlen]
  refine awp_loop (fun n s => ∃ (i : Nat) (L : List D) (x ex : List (Sh × D)) (tk2 : List Bool) (g : Nat → D), s = ⟨[txsD l, g 1, g 2, g 3, .ptr (bs.length + 1) [], g 5, g 6, g 7, g 8, g 9, g 10, g 11, g 12, g 13, g 14, g 15, g 16, g 17, .lit (.int .i64 l.length), .lit (.int .i64 i), g 20, g 21, g 22, g 23, g 24, g 25, g 26, g 27, g 28, g 29, g 30, g 31, g 32, g 33, g 34, g 35, g 36, g 37, g 38, g 39, g 40, g 41, g 42, g 43, g 44, g 45, g 46, g 47, g 48, g 49, g 50, g 51, g 52, g 53, g 54, g 55], ⟨x, tk ++ tk2⟩⟩ ∧ n = l.length - i ∧ i ≤ l.length ∧ x = bs ++ ([(.arr l.length .leaf, .agg L), (webSh, webD l bs.length)] ++ ex) ∧ L.length = l.length ∧ (∀ q, q < i → ∃ t, L[q]? = some (intsL (natI (intoG l q)) t)) ∧ ∀ q, i ≤ q → q < l.length → L[q]? = some (intsL [] .full)) l.length ⟨0, List.replicate l.length (intsL [] .full), _, [], [], by rw [List.append_nil]; exact reg_intro rfl rfl ⟨by simp, by omega, by simp, by simp, by simp, fun q _ hq => by rw [List.getElem?_replicate, if_pos hq]⟩⟩ ?_
  rintro n st ⟨i, L, x, ex, tk2, g, rfl, hn, hi, hx, hL, hlo, hhi⟩
  simp only [go_sem, Nat.reduceAdd, Nat.reduceSub, Nat.reduceMul, Nat.reduceLT, Nat.reduceLeDiff, ↓reduceIte, reduceCtorEq, Nat.reduceEqDiff, Int.reduceToNat, Int.reduceLT, Int.reduceLE, Int.reduceEq, beq_self_eq_true]
  refine condK_split (fun hc => ?_) (fun hc => ?_)
  · have hi' : i < l.length := by have := of_decide_eq_true hc; omega
    simp only [go_sem, Nat.reduceAdd, Nat.reduceSub, Nat.reduceMul, Nat.reduceLT, Nat.reduceLeDiff, ↓reduceIte, reduceCtorEq, Nat.reduceEqDiff, Int.reduceToNat, Int.reduceLT, Int.reduceLE, Int.reduceEq, beq_self_eq_true]
    refine awp_loop (fun m s => ∃ (k : Nat) (u : Tok) (L : List D) (x ex : List (Sh × D)) (tk2 : List Bool) (g : Nat → D), s = ⟨[txsD l, g 1, g 2, g 3, .ptr (bs.length + 1) [], .lit (.int .i64 i), g 6, g 7, g 8, g 9, g 10, g 11, g 12, g 13, g 14, g 15, g 16, g 17, .lit (.int .i64 l.length), .lit (.int .i64 i), g 20, g 21, txsD l, .lit (.int .i64 l.length), .lit (.int .i64 k), g 25, g 26, g 27, g 28, g 29, g 30, g 31, g 32, g 33, g 34, g 35, g 36, g 37, g 38, g 39, g 40, g 41, g 42, g 43, g 44, g 45, g 46, g 47, g 48, g 49, g 50, g 51, g 52, g 53, g 54, g 55], ⟨x, tk ++ tk2⟩⟩ ∧ m = l.length - k ∧ k ≤ l.length ∧ x = bs ++ ([(.arr l.length .leaf, .agg L), (webSh, webD l bs.length)] ++ ex) ∧ L.length = l.length ∧ (∀ q, q < i → ∃ t, L[q]? = some (intsL (natI (intoG l q)) t)) ∧ (∀ q, i < q → q < l.length → L[q]? = some (intsL [] .full)) ∧ L[i]? = some (intsL (natI ((List.range k).filter fun k => leadG l k i)) u) ∧ liveH u tk tk2) l.length ⟨0, .full, L, x, ex, tk2, reg_intro rfl rfl ⟨by simp, by omega, hx, hL, hlo, fun q h1 h2 => hhi q (by omega) h2, hhi i (Nat.le_refl i) hi', trivial, trivial⟩⟩ ?_
    clear hx hL hlo hhi
    rintro m st ⟨k, u, L, x, ex, tk2, g, rfl, hm, hk, hx, hL, hlo, hhi, hLi, hu⟩
    simp only [go_sem, Nat.reduceAdd, Nat.reduceSub, Nat.reduceMul, Nat.reduceLT, Nat.reduceLeDiff, ↓reduceIte, reduceCtorEq, Nat.reduceEqDiff, Int.reduceToNat, Int.reduceLT, Int.reduceLE, Int.reduceEq, beq_self_eq_true]
    refine condK_split (fun hc2 => ?_) (fun hc2 => ?_)
    · have hk' : k < l.length := by have := of_decide_eq_true hc2; omega
      obtain ⟨hd, _⟩ := txsOk_at ho hi'
      obtain ⟨hdk, _⟩ := txsOk_at ho hk'
      have hsn := into_snoc l i k
      have hx0 : ∀ y, (x ++ [y])[bs.length]? = some (.arr l.length .leaf, .agg L) := fun y => by rw [hx, List.append_assoc, List.getElem?_append_right (Nat.le_refl _)]; simp
      have hx1 : ∀ y, (x ++ [y])[bs.length + 1]? = some (webSh, webD l bs.length) := fun y => by rw [hx, List.append_assoc, List.getElem?_append_right (by omega)]; simp
      have hset : ∀ y z, (x ++ [y]).set bs.length z = bs ++ ([z, (webSh, webD l bs.length)] ++ (ex ++ [y])) := fun y z => by rw [hx, List.append_assoc, List.set_append_right _ _ (Nat.le_refl _)]; simp
      simp only [go_sem, Nat.reduceAdd, Nat.reduceSub, Nat.reduceMul, Nat.reduceLT, Nat.reduceLeDiff, ↓reduceIte, reduceCtorEq, Nat.reduceEqDiff, Int.reduceToNat, Int.reduceLT, Int.reduceLE, Int.reduceEq, beq_self_eq_true, hk', hi', get_txs, hd, hdk]
      refine .inl ⟨by kernel_rfl, ?_⟩
      try simp only [go_sem, Nat.reduceAdd, Nat.reduceSub, Nat.reduceMul, Nat.reduceLT, Nat.reduceLeDiff, ↓reduceIte, reduceCtorEq, Nat.reduceEqDiff, Int.reduceToNat, Int.reduceLT, Int.reduceLE, Int.reduceEq, beq_self_eq_true, hk', hi', get_txs, hd, hdk]
      refine callD_pure (vec_has (txAt l i).deps (txAt l k).peer (txAt l k).seq hd) (by first | rfl | (simp only [go_sem, Nat.reduceAdd, Nat.reduceSub, Nat.reduceMul, Nat.reduceLT, Nat.reduceLeDiff, ↓reduceIte, reduceCtorEq, Nat.reduceEqDiff, Int.reduceToNat, Int.reduceLT, Int.reduceLE, Int.reduceEq, beq_self_eq_true, hd]; done)) (by first | (simp only [go_sem, Nat.reduceAdd, Nat.reduceSub, Nat.reduceMul, Nat.reduceLT, Nat.reduceLeDiff, ↓reduceIte, reduceCtorEq, Nat.reduceEqDiff, Int.reduceToNat, Int.reduceLT, Int.reduceLE, Int.reduceEq, beq_self_eq_true, hd]; done) | (simp [pureL, pureD]; done)) ?_
      simp only [go_sem, Nat.reduceAdd, Nat.reduceSub, Nat.reduceMul, Nat.reduceLT, Nat.reduceLeDiff, ↓reduceIte, reduceCtorEq, Nat.reduceEqDiff, Int.reduceToNat, Int.reduceLT, Int.reduceLE, Int.reduceEq, beq_self_eq_true]
      refine condK_split (fun h5 => ?_) (fun h5 => ?_)
      · have hlead : leadG l k i = true := h5
        rw [hlead, if_pos rfl] at hsn
        have hol : ((List.range k).filter fun k => leadG l k i).length ≤ k := by have := List.length_filter_le (fun k => leadG l k i) (List.range k); simpa using this
        have hiL : i < L.length := by omega
        simp only [go_sem, Nat.reduceAdd, Nat.reduceSub, Nat.reduceMul, Nat.reduceLT, Nat.reduceLeDiff, ↓reduceIte, reduceCtorEq, Nat.reduceEqDiff, Int.reduceToNat, Int.reduceLT, Int.reduceLE, Int.reduceEq, beq_self_eq_true]
        refine .inl ⟨by kernel_rfl, ?_⟩
        simp only [go_sem, Nat.reduceAdd, Nat.reduceSub, Nat.reduceMul, Nat.reduceLT, Nat.reduceLeDiff, ↓reduceIte, reduceCtorEq, Nat.reduceEqDiff, Int.reduceToNat, Int.reduceLT, Int.reduceLE, Int.reduceEq, beq_self_eq_true, nil_ptr, hx0, hx1, hi', hiL, hLi, indexAddr_sl_t, Nat.zero_add]
        refine appK_liveH _ _ _ _ _ _ _ _ hu (by simp) (by simp only [go_sem, Nat.reduceAdd, Nat.reduceSub, Nat.reduceMul, Nat.reduceLT, Nat.reduceLeDiff, ↓reduceIte, reduceCtorEq, Nat.reduceEqDiff, Int.reduceToNat, Int.reduceLT, Int.reduceLE, Int.reduceEq, beq_self_eq_true]) (by simp only [go_sem, Nat.reduceAdd, Nat.reduceSub, Nat.reduceMul, Nat.reduceLT, Nat.reduceLeDiff, ↓reduceIte, reduceCtorEq, Nat.reduceEqDiff, Int.reduceToNat, Int.reduceLT, Int.reduceLE, Int.reduceEq, beq_self_eq_true, natI_len]; omega) (fun u' tk' hu' => ?_)
        simp only [go_sem, Nat.reduceAdd, Nat.reduceSub, Nat.reduceMul, Nat.reduceLT, Nat.reduceLeDiff, ↓reduceIte, reduceCtorEq, Nat.reduceEqDiff, Int.reduceToNat, Int.reduceLT, Int.reduceLE, Int.reduceEq, beq_self_eq_true, nil_ptr, hx0, hx1, hi', hiL, hLi, indexAddr_sl_t, Nat.zero_add, ints_snoc, natI_snoc, hset, wrapNat k (by omega)]
        exact ⟨l.length - (k + 1), by omega, k + 1, u', L.set i (intsL (natI (((List.range k).filter fun k => leadG l k i) ++ [k])) u'), _, ex ++ _, tk', reg_intro rfl rfl ⟨rfl, by omega, rfl, by simpa using hL, fun q hq => by rw [List.getElem?_set_ne (by omega)]; exact hlo q hq, fun q h1 h2 => by rw [List.getElem?_set_ne (by omega)]; exact hhi q h1 h2, by rw [hsn]; exact List.getElem?_set_self hiL, hu'⟩⟩
      · have hlead : leadG l k i = false := h5
        rw [hlead, if_neg (by simp), List.append_nil] at hsn
        simp only [go_sem, Nat.reduceAdd, Nat.reduceSub, Nat.reduceMul, Nat.reduceLT, Nat.reduceLeDiff, ↓reduceIte, reduceCtorEq, Nat.reduceEqDiff, Int.reduceToNat, Int.reduceLT, Int.reduceLE, Int.reduceEq, beq_self_eq_true, wrapNat k (by omega)]
        exact ⟨l.length - (k + 1), by omega, k + 1, u, L, _, ex ++ _, tk2, reg_intro rfl rfl ⟨rfl, by omega, by rw [hx, List.append_assoc, List.append_assoc]; rfl, hL, hlo, hhi, by rw [hsn]; exact hLi, hu⟩⟩
    · have hi3 := of_decide_eq_false hc2
      obtain rfl : k = l.length := by omega
      simp only [go_sem, Nat.reduceAdd, Nat.reduceSub, Nat.reduceMul, Nat.reduceLT, Nat.reduceLeDiff, ↓reduceIte, reduceCtorEq, Nat.reduceEqDiff, Int.reduceToNat, Int.reduceLT, Int.reduceLE, Int.reduceEq, beq_self_eq_true, wrapNat i (by omega)]
      exact ⟨l.length - (i + 1), by omega, i + 1, L, x, ex, tk2, reg_intro rfl rfl ⟨rfl, by omega, hx, hL, fun q hq => by
        by_cases e : q = i
        · subst e; exact ⟨u, hLi⟩
        · exact hlo q (by omega), fun q h1 h2 => hhi q (by omega) h2⟩⟩
  · have hi2 := of_decide_eq_false hc
    obtain rfl : i = l.length := by omega
    simp only [go_sem, Nat.reduceAdd, Nat.reduceSub, Nat.reduceMul, Nat.reduceLT, Nat.reduceLeDiff, ↓reduceIte, reduceCtorEq, Nat.reduceEqDiff, Int.reduceToNat, Int.reduceLT, Int.reduceLE, Int.reduceEq, beq_self_eq_true]
    refine .inr ⟨h1, _, _, tk2, rfl, by rw [hx], bs.length, L, ?_, ?_, hL, hlo⟩
    · rw [List.getElem?_append_right (by omega)]; simp
    · rw [List.getElem?_append_right (by omega)]; simp
end Go.Ab
set_option linter.unusedSimpArgs false
namespace Go.Ab
open Go.Proofs

def natK (k : Nat) : D := .lit (.int .i64 k)
theorem keyNat : KeyEnc CT 3 natK := ⟨fun a b h => by simp only [natK, D.lit.injEq, Value.int.injEq, true_and] at h; omega, fun a => by simp only [natK, go_sem, Nat.reduceAdd, Nat.reduceSub, Nat.reduceMul, Nat.reduceLT, Nat.reduceLeDiff, ↓reduceIte, reduceCtorEq, Nat.reduceEqDiff, Int.reduceToNat, Int.reduceLT, Int.reduceLE, Int.reduceEq, beq_self_eq_true]⟩
theorem nodup_len : ∀ (n : Nat) (l : List Nat), l.Nodup → (∀ x ∈ l, x < n) → l.length ≤ n
  | 0, l, _, h => by
    cases l with
    | nil => simp
    | cons x r => have := h x (List.mem_cons_self ..); omega
  | n + 1, l, hd, h => by
    by_cases hm : n ∈ l
    · have h1 := nodup_len n (l.erase n) (hd.erase n) fun x hx => by
        have h2 := (List.Nodup.mem_erase_iff hd).1 hx
        have := h x h2.2
        have := h2.1
        omega
      rw [List.length_erase_of_mem hm] at h1
      omega
    · have := nodup_len n l hd fun x hx => by
        have h1 := h x hx
        have : x ≠ n := fun e => hm (e ▸ hx)
        omega
      omega
/-- What a walk leaves: more places are met. -/
structure Walked (l : List TxR) (at_ : Nat) (row : List Nat) (M M' : List Nat) : Prop where
  nd : M'.Nodup
  lt : ∀ k ∈ M', k < l.length
  sub : ∀ k ∈ M, k ∈ M'
  len : M.length ≤ M'.length
  row : ∀ k ∈ row, k ∈ M'
  new : ∀ k ∈ M', k ∉ M → (∀ j ∈ intoG l k, j ∈ M') ∧ Reach l at_ k
theorem walked_nil {l : List TxR} {a : Nat} {M : List Nat} (h1 : M.Nodup) (h2 : ∀ k ∈ M, k < l.length) : Walked l a [] M M := ⟨h1, h2, fun _ h => h, Nat.le_refl _, by simp, fun k h hn => absurd h hn⟩
theorem walked_met {l : List TxR} {a x : Nat} {row M M' : List Nat} (h : Walked l a row M M') (hx : x ∈ M') : Walked l a (row ++ [x]) M M' :=
  ⟨h.nd, h.lt, h.sub, h.len, fun k hk => by
    rcases List.mem_append.1 hk with hk | hk
    · exact h.row k hk
    · rw [List.mem_singleton] at hk; subst hk; exact hx, h.new⟩
theorem walked_more {l : List TxR} {a x : Nat} {row M M1 M2 : List Nat} (h : Walked l a row M M1) (hx : x ∈ intoG l a) (hn : x ∉ M1) (h2 : Walked l x (intoG l x) (M1 ++ [x]) M2) : Walked l a (row ++ [x]) M M2 := by
  have hxm : x < l.length ∧ leadG l x a = true := by
    simp only [intoG, List.mem_filter, List.mem_range] at hx; exact hx
  have s1 : ∀ k ∈ M1, k ∈ M2 := fun k hk => h2.sub k (List.mem_append.2 (.inl hk))
  have sx : x ∈ M2 := h2.sub x (by simp)
  refine ⟨h2.nd, h2.lt, fun k hk => s1 k (h.sub k hk), by have h3 := h.len; have h4 := h2.len; simp at h4; omega, fun k hk => ?_, fun k hk hkm => ?_⟩
  · rcases List.mem_append.1 hk with hk | hk
    · exact s1 k (h.row k hk)
    · rw [List.mem_singleton] at hk; subst hk; exact sx
  · by_cases h1 : k ∈ M1
    · obtain ⟨a1, a2⟩ := h.new k h1 hkm
      exact ⟨fun j hj => s1 j (a1 j hj), a2⟩
    · by_cases e : k = x
      · subst e
        exact ⟨fun j hj => h2.row j hj, .one hxm.1 hxm.2⟩
      · obtain ⟨a1, a2⟩ := h2.new k hk (by simp only [List.mem_append, List.mem_singleton]; rintro (h | h); exact h1 h; exact e h)
        exact ⟨a1, reach_trans a2 (.one hxm.1 hxm.2)⟩
/-- Where a walk began with nothing met, all are met that are reached. -/
theorem walked_all {l : List TxR} {a : Nat} {M : List Nat} (h : Walked l a (intoG l a) [] M) (k : Nat) : k ∈ M ↔ Reach l a k := by
  refine ⟨fun hk => (h.new k hk (by simp)).2, fun hr => ?_⟩
  induction hr with
  | one hk hl => exact h.row _ (List.mem_filter.2 ⟨List.mem_range.2 hk, hl⟩)
  | more hk hl _ ih => exact (h.new _ ih (by simp)).1 _ (List.mem_filter.2 ⟨List.mem_range.2 hk, hl⟩)
end Go.Ab
set_option linter.unusedSimpArgs false
namespace Go.Ab
open Go.Proofs

abbrev walkC (p2 p5 p6 : Nat) : List D := [.ptr p2 [], .ptr p5 [], .ptr p6 []]
def WalkMem (l : List TxR) (bs : List (Sh × D)) (b mb p2 p5 p6 : Nat) (M : List Nat) (q : Nat) : Prop :=
  WebAt l bs b ∧ bs[mb]? = some (.obj 1, setG natK M q) ∧ bs[p2]? = some (.leaf, .ptr b []) ∧ bs[p5]? = some (.leaf, .mref mb) ∧ bs[p6]? = some (.leaf, .fn (.func 89) (walkC p2 p5 p6))
theorem set_id {l : List (Sh × D)} {i : Nat} {x : Sh × D} (h : l[i]? = some x) : l.set i x = l := by
  refine List.ext_getElem? fun j => ?_
  rcases Nat.decEq i j with e | e
  · rw [List.getElem?_set_ne e]
  · subst e; rw [List.getElem?_set_self (List.getElem?_eq_some_iff.1 h).1, h]
theorem set_other {bs : List (Sh × D)} {i j : Nat} {x y z : Sh × D} (hi : bs[i]? = some x) (hj : bs[j]? = some y) (h : x.1 ≠ y.1) : (bs.set j z)[i]? = some x := by
  rw [List.getElem?_set_ne]; · exact hi
  · rintro rfl; rw [hi] at hj; cases hj; exact h rfl
theorem walkMem_set {l : List TxR} {bs : List (Sh × D)} {b mb p2 p5 p6 : Nat} {M : List Nat} {q : Nat} (h : WalkMem l bs b mb p2 p5 p6 M q) (M' : List Nat) (q' : Nat) : WalkMem l (bs.set mb (.obj 1, setG natK M' q')) b mb p2 p5 p6 M' q' := by
  obtain ⟨⟨c, L, h1, h2, h3⟩, h4, h5, h6, h7⟩ := h
  exact ⟨⟨c, L, set_other h1 h4 (by simp), set_other h2 h4 (by simp), h3⟩, List.getElem?_set_self (List.getElem?_eq_some_iff.1 h4).1, set_other h5 h4 (by simp), set_other h6 h4 (by simp), set_other h7 h4 (by simp)⟩
set_option maxRecDepth 8000 in
set_option maxHeartbeats 1000000 in
theorem walk_at (l : List TxR) (hl : l.length < 100000000) (tk : List Bool) (b mb p2 p5 p6 : Nat) : ∀ (N : Nat) (a : Nat) (M : List Nat) (q : Nat) (bs : List (Sh × D)), l.length - M.length < N → a < l.length → M.Nodup → (∀ k ∈ M, k < l.length) → WalkMem l bs b mb p2 p5 p6 M q →
    ASpec Try.prog CT 89 ([.lit (.int .i64 a)] ++ walkC p2 p5 p6) ⟨bs, tk⟩ fun _ h' => ∃ M' q', h' = ⟨bs.set mb (.obj 1, setG natK M' q'), tk⟩ ∧ Walked l a (intoG l a) M M' := by
  intro N
  induction N with
  | zero => exact fun a M q bs hN => absurd hN (Nat.not_lt_zero _)
  | succ N ih =>
    intro a M q bs hN ha hnd hlt hw
    have hw0 := hw
    obtain ⟨⟨c, L, h1, h2, h3, h4⟩, h5, h6, h7, h8⟩ := hw
    obtain ⟨t, hrow⟩ := h4 a ha
    have hrl : (intoG l a).length ≤ l.length := by have := List.length_filter_le (fun k => leadG l k a) (List.range l.length); simpa [intoG] using this
    have hK := keyNat
    refine ASpec.of hT Try.func89 rfl (by kernel_rfl) rfl rfl ?_
    simp only [Try.f89, go_sem, Nat.reduceAdd, Nat.reduceSub, Nat.reduceMul, Nat.reduceLT, Nat.reduceLeDiff, ↓reduceIte, reduceCtorEq, Nat.reduceEqDiff, Int.reduceToNat, Int.reduceLT, Int.reduceLE, Int.reduceEq, beq_self_eq_true, nil_ptr, h1, h2, h6, ha, hrow, indexAddr_sl_t, Nat.zero_add, natI_len]
    refine awp_loop (fun n s => ∃ (j : Nat) (M1 : List Nat) (q1 : Nat) (x : List (Sh × D)) (g : Nat → D), s = ⟨[g 0, .ptr p2 [], .ptr p5 [], .ptr p6 [], g 4, g 5, g 6, g 7, g 8, g 9, g 10, g 11, g 12, intsL (natI (intoG l a)) t, .lit (.int .i64 (intoG l a).length), .lit (.int .i64 j), g 16, g 17, g 18, g 19, g 20, g 21, g 22, g 23, g 24, g 25, g 26, g 27, g 28], ⟨x, tk⟩⟩ ∧ n = (intoG l a).length - j ∧ j ≤ (intoG l a).length ∧ x = bs.set mb (.obj 1, setG natK M1 q1) ∧ WalkMem l x b mb p2 p5 p6 M1 q1 ∧ Walked l a ((intoG l a).take j) M M1) (intoG l a).length ⟨0, M, q, bs, reg_intro rfl rfl ⟨by simp, by omega, (set_id h5).symm, hw0, by simpa using walked_nil hnd hlt⟩⟩ ?_
    rintro n st ⟨j, M1, q1, x, g, rfl, hn, hj, hx, hw1, hwk⟩
    simp only [go_sem, Nat.reduceAdd, Nat.reduceSub, Nat.reduceMul, Nat.reduceLT, Nat.reduceLeDiff, ↓reduceIte, reduceCtorEq, Nat.reduceEqDiff, Int.reduceToNat, Int.reduceLT, Int.reduceLE, Int.reduceEq, beq_self_eq_true]
    obtain ⟨⟨c1, L1, k1, k2, k3, k4⟩, k5, k6, k7, k8⟩ := hw1
    refine condK_split (fun hc => ?_) (fun hc => ?_)
    · have hj' : j < (intoG l a).length := by have := of_decide_eq_true hc; omega
      have hmem : (intoG l a).getD j 0 ∈ intoG l a := by rw [List.getD_eq_getElem?_getD, List.getElem?_eq_getElem hj']; exact List.getElem_mem hj'
      have htk : (intoG l a).take (j + 1) = (intoG l a).take j ++ [(intoG l a).getD j 0] := by
        rw [List.take_add_one, List.getElem?_eq_getElem hj', List.getD_eq_getElem?_getD, List.getElem?_eq_getElem hj']; rfl
      obtain ⟨y, hy⟩ : ∃ y, (intoG l a).getD j 0 = y := ⟨_, rfl⟩
      rw [hy] at hmem htk
      have hyl : y < l.length := by have := (List.mem_filter.1 hmem).1; simpa using this
      simp only [go_sem, Nat.reduceAdd, Nat.reduceSub, Nat.reduceMul, Nat.reduceLT, Nat.reduceLeDiff, ↓reduceIte, reduceCtorEq, Nat.reduceEqDiff, Int.reduceToNat, Int.reduceLT, Int.reduceLE, Int.reduceEq, beq_self_eq_true, hj', natI_len, get_nat, k7, hy]
      rw [setLook_g keyNat (t := 85) rfl rfl k5 y (x := .lit (.int .i64 y)) rfl]
      simp only [go_sem, Nat.reduceAdd, Nat.reduceSub, Nat.reduceMul, Nat.reduceLT, Nat.reduceLeDiff, ↓reduceIte, reduceCtorEq, Nat.reduceEqDiff, Int.reduceToNat, Int.reduceLT, Int.reduceLE, Int.reduceEq, beq_self_eq_true]
      refine condK_split (fun hc2 => ?_) (fun hc2 => ?_)
      · have hnm : y ∉ M1 := by simpa using hc2
        simp only [go_sem, Nat.reduceAdd, Nat.reduceSub, Nat.reduceMul, Nat.reduceLT, Nat.reduceLeDiff, ↓reduceIte, reduceCtorEq, Nat.reduceEqDiff, Int.reduceToNat, Int.reduceLT, Int.reduceLE, Int.reduceEq, beq_self_eq_true, k7]
        refine setUpd_g keyNat (e := 4) rfl k5 y rfl ?_
        rintro s' g' (⟨h, _⟩ | ⟨_, rfl, rfl⟩)
        · exact absurd h hnm
        have hw2 : WalkMem l (x.set mb (.obj 1, setG natK (M1 ++ [y]) (q1 + 1))) b mb p2 p5 p6 (M1 ++ [y]) (q1 + 1) := walkMem_set ⟨⟨c1, L1, k1, k2, k3, k4⟩, k5, k6, k7, k8⟩ _ _
        have hw3 := hw2
        obtain ⟨_, _, _, _, j8⟩ := hw3
        simp only [go_sem, Nat.reduceAdd, Nat.reduceSub, Nat.reduceMul, Nat.reduceLT, Nat.reduceLeDiff, ↓reduceIte, reduceCtorEq, Nat.reduceEqDiff, Int.reduceToNat, Int.reduceLT, Int.reduceLE, Int.reduceEq, beq_self_eq_true, j8]
        have hnd2 : (M1 ++ [y]).Nodup := List.nodup_append.2 ⟨hwk.nd, by simp, fun u hu v hv => by rw [List.mem_singleton] at hv; subst hv; rintro rfl; exact hnm hu⟩
        have hlt2 : ∀ k ∈ M1 ++ [y], k < l.length := fun k hk => by
          rcases List.mem_append.1 hk with hk | hk
          · exact hwk.lt k hk
          · rw [List.mem_singleton] at hk; rw [hk]; exact hyl
        have hle := nodup_len _ _ hnd2 hlt2
        rw [List.length_append, List.length_singleton] at hle
        have hle2 := hwk.len
        refine callK_a (ih y (M1 ++ [y]) (q1 + 1) _ (by rw [List.length_append, List.length_singleton]; omega) hyl hnd2 hlt2 hw2) ?_
        rintro r h' ⟨M', q', rfl, hwk2⟩
        simp only [go_sem, Nat.reduceAdd, Nat.reduceSub, Nat.reduceMul, Nat.reduceLT, Nat.reduceLeDiff, ↓reduceIte, reduceCtorEq, Nat.reduceEqDiff, Int.reduceToNat, Int.reduceLT, Int.reduceLE, Int.reduceEq, beq_self_eq_true, wrapNat j (by omega)]
        exact ⟨(intoG l a).length - (j + 1), by omega, j + 1, M', q', _, reg_intro rfl rfl ⟨rfl, by omega, by rw [hx, List.set_set, List.set_set], walkMem_set hw2 _ _, by rw [htk]; exact walked_more hwk hmem hnm hwk2⟩⟩
      · have hmt : y ∈ M1 := by simpa using hc2
        simp only [go_sem, Nat.reduceAdd, Nat.reduceSub, Nat.reduceMul, Nat.reduceLT, Nat.reduceLeDiff, ↓reduceIte, reduceCtorEq, Nat.reduceEqDiff, Int.reduceToNat, Int.reduceLT, Int.reduceLE, Int.reduceEq, beq_self_eq_true, wrapNat j (by omega)]
        exact ⟨(intoG l a).length - (j + 1), by omega, j + 1, M1, q1, x, reg_intro rfl rfl ⟨rfl, by omega, hx, ⟨⟨c1, L1, k1, k2, k3, k4⟩, k5, k6, k7, k8⟩, by rw [htk]; exact walked_met hwk hmt⟩⟩
    · have hi := of_decide_eq_false hc
      obtain rfl : j = (intoG l a).length := by omega
      rw [List.take_length] at hwk
      simp only [go_sem, Nat.reduceAdd, Nat.reduceSub, Nat.reduceMul, Nat.reduceLT, Nat.reduceLeDiff, ↓reduceIte, reduceCtorEq, Nat.reduceEqDiff, Int.reduceToNat, Int.reduceLT, Int.reduceLE, Int.reduceEq, beq_self_eq_true]
      exact ⟨M1, q1, by rw [hx], hwk⟩
end Go.Ab
set_option linter.unusedSimpArgs false
namespace Go.Ab
open Go.Proofs

set_option maxRecDepth 8000 in
theorem web_past (l : List TxR) (hl : l.length < 100000000) (bs : List (Sh × D)) (tk : List Bool) (b a : Nat) (hw : WebAt l bs b) (ha : a < l.length) :
    ASpec Try.prog CT 59 [.ptr b [], .lit (.int .i64 a)] ⟨bs, tk⟩ fun r h' => ∃ M q ex, r = .mref (bs.length + 1) ∧ h' = ⟨bs ++ ex, tk⟩ ∧ (bs ++ ex)[bs.length + 1]? = some (.obj 1, setG natK M q) ∧ Walked l a (intoG l a) [] M := by
  refine ASpec.of hT Try.func59 rfl (by kernel_rfl) rfl rfl ?_
  simp only [Try.f59, go_sem, Nat.reduceAdd, Nat.reduceSub, Nat.reduceMul, Nat.reduceLT, Nat.reduceLeDiff, ↓reduceIte, reduceCtorEq, Nat.reduceEqDiff, Int.reduceToNat, Int.reduceLT, Int.reduceLE, Int.reduceEq, beq_self_eq_true]
  refine ⟨isMap_ok rfl, ?_⟩
  simp only [List.append_assoc, List.cons_append, List.nil_append, List.length_append, List.length_cons, List.length_nil, Nat.reduceAdd, Nat.zero_add]
  obtain ⟨ex, hex⟩ : ∃ ex : List (Sh × D), ex = [((.leaf : Sh), D.ptr b []), (.obj 1, .mp [] [] 0), (.leaf, .mref (bs.length + 1)), (.leaf, .fn (.func 89) (walkC bs.length (bs.length + 2) (bs.length + 3)))] := ⟨_, rfl⟩
  have e0 : (bs ++ ex)[bs.length]? = some (.leaf, .ptr b []) := by rw [hex, List.getElem?_append_right (Nat.le_refl _)]; simp
  have e1 : (bs ++ ex)[bs.length + 1]? = some (.obj 1, setG natK [] 0) := by rw [hex, List.getElem?_append_right (by omega)]; simp; rfl
  have e2 : (bs ++ ex)[bs.length + 2]? = some (.leaf, .mref (bs.length + 1)) := by rw [hex, List.getElem?_append_right (by omega)]; simp
  have e3 : (bs ++ ex)[bs.length + 3]? = some (.leaf, .fn (.func 89) (walkC bs.length (bs.length + 2) (bs.length + 3))) := by rw [hex, List.getElem?_append_right (by omega)]; simp
  have hwm : WalkMem l (bs ++ ex) b (bs.length + 1) bs.length (bs.length + 2) (bs.length + 3) [] 0 := ⟨web_more hw, e1, e0, e2, e3⟩
  have hs := (walk_at l hl tk b (bs.length + 1) bs.length (bs.length + 2) (bs.length + 3) (l.length + 1) a [] 0 (bs ++ ex) (by simp) ha List.nodup_nil (by simp) hwm)
  rw [hex] at hs
  refine callK_a hs ?_
  rw [← hex]
  rintro r h' ⟨M, q, rfl, hwk⟩
  have hw2 := walkMem_set hwm M q
  obtain ⟨_, j1, _, j2, _⟩ := hw2
  have hset : ∀ z, (bs ++ ex).set (bs.length + 1) z = bs ++ ex.set 1 z := fun z => by rw [List.set_append_right _ _ (by omega), Nat.add_sub_cancel_left]
  simp only [go_sem, Nat.reduceAdd, Nat.reduceSub, Nat.reduceMul, Nat.reduceLT, Nat.reduceLeDiff, ↓reduceIte, reduceCtorEq, Nat.reduceEqDiff, Int.reduceToNat, Int.reduceLT, Int.reduceLE, Int.reduceEq, beq_self_eq_true, j2]
  exact ⟨M, q, ex.set 1 (.obj 1, setG natK M q), by rw [hset], by rw [← hset]; exact j1, hwk⟩
end Go.Ab
