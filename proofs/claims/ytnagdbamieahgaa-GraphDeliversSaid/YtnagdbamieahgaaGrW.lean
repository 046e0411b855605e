/- Graphs of transactions: an order, and how many stand one behind the other. Conditions: none. -/
import Derived.Test.YtnagdbamieahgaaGrU
import Derived.Test.YtnagdbamieahgaaGrO
set_option linter.unusedSimpArgs false
namespace Go.Ab
open Go.Proofs

set_option maxRecDepth 8000 in
theorem graph_sort (l : List TxR) (ho : TxsOk l) (hl : l.length < 100000000) : PSpec Try.prog CT 14 [txsD l] (· = sortD (sortGG l)) := by
  refine PSpec.freeze (R := fun r _ => ∃ u, r = .tup [intsL (natI ((sortGG l).getD [])) u, .bool (sortGG l).isSome]) ?_ (by rintro r h' ⟨u, rfl⟩; exact .inl ⟨⟨trivial, trivial, trivial⟩, rfl⟩)
  refine ASpec.of hT Try.func14 rfl (by kernel_rfl) rfl rfl ?_
  simp only [Try.f14, go_sem, Nat.reduceAdd, Nat.reduceSub, Nat.reduceMul, Nat.reduceLT, Nat.reduceLeDiff, ↓reduceIte, reduceCtorEq, Nat.reduceEqDiff, Int.reduceToNat, Int.reduceLT, Int.reduceLE, Int.reduceEq, beq_self_eq_true, noHeap]
  refine callK_a (graph_woven l ho hl [] []) ?_
  rintro r h' (⟨h1, rfl, rfl⟩ | ⟨h1, ex, b, tk2, rfl, rfl, hw⟩)
  · have e : sortGG l = none := by rw [sortGG, h1]; rfl
    simp only [go_sem, Nat.reduceAdd, Nat.reduceSub, Nat.reduceMul, Nat.reduceLT, Nat.reduceLeDiff, ↓reduceIte, reduceCtorEq, Nat.reduceEqDiff, Int.reduceToNat, Int.reduceLT, Int.reduceLE, Int.reduceEq, beq_self_eq_true]
    rw [e]
    exact ⟨_, rfl⟩
  · have e : sortGG l = sortR l l.length [] := by rw [sortGG, h1]; rfl
    simp only [List.nil_append] at hw ⊢
    simp only [go_sem, Nat.reduceAdd, Nat.reduceSub, Nat.reduceMul, Nat.reduceLT, Nat.reduceLeDiff, ↓reduceIte, reduceCtorEq, Nat.reduceEqDiff, Int.reduceToNat, Int.reduceLT, Int.reduceLE, Int.reduceEq, beq_self_eq_true]
    refine callK_a (web_sorted l h1 ex tk2 b hw) ?_
    rintro r h' ⟨ex2, tk3, u, rfl, rfl⟩
    simp only [go_sem, Nat.reduceAdd, Nat.reduceSub, Nat.reduceMul, Nat.reduceLT, Nat.reduceLeDiff, ↓reduceIte, reduceCtorEq, Nat.reduceEqDiff, Int.reduceToNat, Int.reduceLT, Int.reduceLE, Int.reduceEq, beq_self_eq_true]
    rw [e]
    exact ⟨u, rfl⟩
def encI (n : Int) : D := .lit (.int .i64 n)
def valM (m : List (Nat × Int)) (k : Nat) : Int := (getA m k).getD 0
theorem valM_put (m : List (Nat × Int)) (a : Nat) (v : Int) (z : Nat) : valM (putA m a v) z = if a = z then v else valM m z := by
  rw [valM, getA_put]; split <;> rfl
theorem look_val {bs : List (Sh × D)} {tk : List Bool} {b g : Nat} {m : List (Nat × Int)} (hb : bs[b]? = some (.obj 1, mapG natK encI m g)) (a : Nat) {x : D} (hx : x = natK a) :
    lookupD CT ⟨bs, tk⟩ 92 false (.mref b) x = some (.lit (.int .i64 (valM m a))) := by
  rw [lookup_g keyNat (t := 92) (e := 3) rfl hb false a hx, valM]
  cases getA m a <;> rfl
set_option maxRecDepth 20000 in
set_option maxHeartbeats 2000000 in
theorem graph_depth (l : List TxR) (ho : TxsOk l) (hl : l.length < 100000000) : PSpec Try.prog CT 27 [txsD l] (· = .int (depthG l)) := by
  have hK := keyNat
  refine ASpec.of hT Try.func27 rfl (by kernel_rfl) rfl rfl ?_
  simp only [Try.f27, go_sem, Nat.reduceAdd, Nat.reduceSub, Nat.reduceMul, Nat.reduceLT, Nat.reduceLeDiff, ↓reduceIte, reduceCtorEq, Nat.reduceEqDiff, Int.reduceToNat, Int.reduceLT, Int.reduceLE, Int.reduceEq, beq_self_eq_true, noHeap]
  refine callK_a (graph_woven l ho hl [] []) ?_
  rintro r h' (⟨h1, rfl, rfl⟩ | ⟨h1, ex, b, tk2, rfl, rfl, hw⟩)
  · have e : depthG l = 0 := by rw [depthG, sortGG, h1]; rfl
    rw [e]
    simp only [go_sem, Nat.reduceAdd, Nat.reduceSub, Nat.reduceMul, Nat.reduceLT, Nat.reduceLeDiff, ↓reduceIte, reduceCtorEq, Nat.reduceEqDiff, Int.reduceToNat, Int.reduceLT, Int.reduceLE, Int.reduceEq, beq_self_eq_true]
  · simp only [List.nil_append] at hw ⊢
    simp only [go_sem, Nat.reduceAdd, Nat.reduceSub, Nat.reduceMul, Nat.reduceLT, Nat.reduceLeDiff, ↓reduceIte, reduceCtorEq, Nat.reduceEqDiff, Int.reduceToNat, Int.reduceLT, Int.reduceLE, Int.reduceEq, beq_self_eq_true]
    refine callK_a (web_sorted l h1 ex tk2 b hw) ?_
    rintro r h' ⟨ex2, tk3, u, rfl, rfl⟩
    have hl2 : l.length ≤ 4096 := by simp only [checkG, Bool.and_eq_true, decide_eq_true_eq] at h1; exact h1.1
    cases h2 : sortR l l.length [] with
    | none =>
      have e : depthG l = 0 := by rw [depthG, sortGG, h1, if_pos rfl, h2]
      rw [e]
      simp only [go_sem, Nat.reduceAdd, Nat.reduceSub, Nat.reduceMul, Nat.reduceLT, Nat.reduceLeDiff, ↓reduceIte, reduceCtorEq, Nat.reduceEqDiff, Int.reduceToNat, Int.reduceLT, Int.reduceLE, Int.reduceEq, beq_self_eq_true, Option.isSome_none, Option.getD_none, Bool.not_false]
    | some o =>
    have e : depthG l = (deepAt l o o.length).2 := by rw [depthG, sortGG, h1, if_pos rfl, h2]
    rw [e]
    have hok := orderOk h2
    have hw2 : WebAt l (ex ++ ex2) b := web_more hw
    generalize ex ++ ex2 = B at *
    generalize tk2 ++ tk3 = T at *
    obtain ⟨c, L, k1, k2, k3, k4⟩ := hw2
    have hcl := (List.getElem?_eq_some_iff.1 k2).1
    have hbl := (List.getElem?_eq_some_iff.1 k1).1
    have g1 : ∀ y, (B ++ [y])[b]? = some (webSh, webD l c) := fun y => by rw [List.getElem?_append_left hbl]; exact k1
    have g2 : ∀ y, (B ++ [y])[c]? = some (.arr l.length .leaf, .agg L) := fun y => by rw [List.getElem?_append_left hcl]; exact k2
    have g3 : ∀ y, (B ++ [y])[B.length]? = some y := fun y => by simp
    have gs : ∀ y z, (B ++ [y]).set B.length z = B ++ [z] := fun y z => by simp
    simp only [go_sem, Nat.reduceAdd, Nat.reduceSub, Nat.reduceMul, Nat.reduceLT, Nat.reduceLeDiff, ↓reduceIte, reduceCtorEq, Nat.reduceEqDiff, Int.reduceToNat, Int.reduceLT, Int.reduceLE, Int.reduceEq, beq_self_eq_true, Option.isSome_some, Option.getD_some, Bool.not_true]
    refine ⟨isMap_ok rfl, ?_⟩
    simp only [go_sem, Nat.reduceAdd, Nat.reduceSub, Nat.reduceMul, Nat.reduceLT, Nat.reduceLeDiff, ↓reduceIte, reduceCtorEq, Nat.reduceEqDiff, Int.reduceToNat, Int.reduceLT, Int.reduceLE, Int.reduceEq, beq_self_eq_true, natI_len]
    refine awp_loop (fun n s => ∃ (i : Nat) (m : List (Nat × Int)) (q : Nat) (x : List (Sh × D)) (g : Nat → D), s = ⟨[g 0, g 1, g 2, .ptr b [], g 4, g 5, .mref B.length, .lit (.int .i64 (deepAt l o i).2), g 8, g 9, g 10, g 11, g 12, g 13, g 14, g 15, g 16, g 17, g 18, g 19, g 20, g 21, g 22, g 23, g 24, g 25, g 26, intsL (natI o) u, .lit (.int .i64 o.length), .lit (.int .i64 i), g 30, g 31, g 32, g 33, g 34, g 35, g 36, g 37, g 38, g 39, g 40, g 41, g 42, g 43, g 44, g 45, g 46, g 47, g 48, g 49, g 50, g 51, g 52, g 53, g 54, g 55, g 56, g 57, g 58, g 59, g 60, g 61, g 62, g 63, g 64], ⟨x, T⟩⟩ ∧ n = o.length - i ∧ i ≤ o.length ∧ x = B ++ [(.obj 1, mapG natK encI m q)] ∧ ∀ z, valM m z = (deepAt l o i).1.getD z 0) o.length ⟨0, [], 0, _, reg_intro rfl rfl ⟨by simp, by omega, rfl, fun z => by
      simp only [valM, getA, deepAt, Option.getD_none]
      rw [List.getD_eq_getElem?_getD, List.getElem?_replicate]; split <;> rfl⟩⟩ ?_
    rintro n st ⟨i, m, q, x, g, rfl, hn, hi, hx, hv⟩
    subst hx
    have hlen := hok.len
    simp only [go_sem, Nat.reduceAdd, Nat.reduceSub, Nat.reduceMul, Nat.reduceLT, Nat.reduceLeDiff, ↓reduceIte, reduceCtorEq, Nat.reduceEqDiff, Int.reduceToNat, Int.reduceLT, Int.reduceLE, Int.reduceEq, beq_self_eq_true]
    refine condK_split (fun hc => ?_) (fun hc => ?_)
    · have hi' : i < o.length := by have := of_decide_eq_true hc; omega
      have hmem := getN_mem hi'
      have hda := deepAt_at hok hi'
      have hdn := fun z hz => deepAt_ne (z := z) hok hi' hz
      have hdm := deepAt_most l o i
      have hbd := deepAt_bnd hok i hi
      have hna : o.getD i 0 ∉ intoG l (o.getD i 0) := fun h => nd_take hok.nd hi' (hok.free i hi' _ h)
      obtain ⟨a, hae⟩ : ∃ a, o.getD i 0 = a := ⟨_, rfl⟩
      rw [hae] at hmem hda hdm hna
      simp only [hae] at hdn
      have ha := hok.lt a hmem
      obtain ⟨t, hrow⟩ := k4 a ha
      have hrl : (intoG l a).length ≤ l.length := by have := List.length_filter_le (fun k => leadG l k a) (List.range l.length); simpa [intoG] using this
      simp only [go_sem, Nat.reduceAdd, Nat.reduceSub, Nat.reduceMul, Nat.reduceLT, Nat.reduceLeDiff, ↓reduceIte, reduceCtorEq, Nat.reduceEqDiff, Int.reduceToNat, Int.reduceLT, Int.reduceLE, Int.reduceEq, beq_self_eq_true, hi', natI_len, get_nat, hae]
      refine mapUpd_g hK (e := 3) rfl (g3 _) a 1 rfl rfl ?_
      rw [gs]
      simp only [go_sem, Nat.reduceAdd, Nat.reduceSub, Nat.reduceMul, Nat.reduceLT, Nat.reduceLeDiff, ↓reduceIte, reduceCtorEq, Nat.reduceEqDiff, Int.reduceToNat, Int.reduceLT, Int.reduceLE, Int.reduceEq, beq_self_eq_true, nil_ptr, g1, g2, ha, hrow, indexAddr_sl_t, Nat.zero_add, natI_len]
      refine awp_loop (fun n s => ∃ (j : Nat) (m2 : List (Nat × Int)) (q : Nat) (x : List (Sh × D)) (g : Nat → D), s = ⟨[g 0, g 1, g 2, .ptr b [], g 4, g 5, .mref B.length, .lit (.int .i64 (deepAt l o i).2), g 8, .lit (.int .i64 a), g 10, g 11, g 12, g 13, g 14, g 15, g 16, g 17, g 18, g 19, g 20, g 21, g 22, g 23, g 24, g 25, g 26, intsL (natI o) u, .lit (.int .i64 o.length), .lit (.int .i64 i), g 30, g 31, g 32, g 33, g 34, g 35, g 36, g 37, g 38, g 39, g 40, intsL (natI (intoG l a)) t, .lit (.int .i64 (intoG l a).length), .lit (.int .i64 j), g 44, g 45, g 46, g 47, g 48, g 49, g 50, g 51, g 52, g 53, g 54, g 55, g 56, g 57, g 58, g 59, g 60, g 61, g 62, g 63, g 64], ⟨x, T⟩⟩ ∧ n = (intoG l a).length - j ∧ j ≤ (intoG l a).length ∧ x = B ++ [(.obj 1, mapG natK encI m2 q)] ∧ (∀ z, z ≠ a → valM m2 z = (deepAt l o i).1.getD z 0) ∧ valM m2 a = maxs (fun z => (deepAt l o i).1.getD z 0) ((intoG l a).take j)) (intoG l a).length ⟨0, putA m a 1, _, _, reg_intro rfl rfl ⟨by simp, by omega, rfl, fun z hz => by rw [valM_put, if_neg (Ne.symm hz)]; exact hv z, by rw [valM_put, if_pos rfl]; rfl⟩⟩ ?_
      rintro n2 st ⟨j, m2, q2, x, g, rfl, hn2, hj, hx, hv2, hva⟩
      subst hx
      simp only [go_sem, Nat.reduceAdd, Nat.reduceSub, Nat.reduceMul, Nat.reduceLT, Nat.reduceLeDiff, ↓reduceIte, reduceCtorEq, Nat.reduceEqDiff, Int.reduceToNat, Int.reduceLT, Int.reduceLE, Int.reduceEq, beq_self_eq_true]
      refine condK_split (fun hc2 => ?_) (fun hc2 => ?_)
      · have hj' : j < (intoG l a).length := by have := of_decide_eq_true hc2; omega
        have hsn := takeN_snoc hj'
        have hymem := getN_mem hj'
        obtain ⟨y, hy⟩ : ∃ y, (intoG l a).getD j 0 = y := ⟨_, rfl⟩
        rw [hy] at hsn hymem
        have hya : y ≠ a := fun e => hna (e ▸ hymem)
        have b1 := hbd y
        have hw : IntKind.i64.wrap (valM m2 y + 1) = valM m2 y + 1 := by rw [hv2 y hya, wrap64] <;> omega
        simp only [go_sem, Nat.reduceAdd, Nat.reduceSub, Nat.reduceMul, Nat.reduceLT, Nat.reduceLeDiff, ↓reduceIte, reduceCtorEq, Nat.reduceEqDiff, Int.reduceToNat, Int.reduceLT, Int.reduceLE, Int.reduceEq, beq_self_eq_true, hj', natI_len, get_nat, hy]
        have hl1 := fun z => look_val (tk := T) (g3 (.obj 1, mapG natK encI m2 q2)) z (x := .lit (.int .i64 z)) rfl
        simp only [go_sem, Nat.reduceAdd, Nat.reduceSub, Nat.reduceMul, Nat.reduceLT, Nat.reduceLeDiff, ↓reduceIte, reduceCtorEq, Nat.reduceEqDiff, Int.reduceToNat, Int.reduceLT, Int.reduceLE, Int.reduceEq, beq_self_eq_true, hl1, hw]
        refine mapUpd_g hK (e := 3) rfl (g3 _) a (max (valM m2 a) (valM m2 y + 1)) rfl rfl ?_
        rw [gs]
        simp only [go_sem, Nat.reduceAdd, Nat.reduceSub, Nat.reduceMul, Nat.reduceLT, Nat.reduceLeDiff, ↓reduceIte, reduceCtorEq, Nat.reduceEqDiff, Int.reduceToNat, Int.reduceLT, Int.reduceLE, Int.reduceEq, beq_self_eq_true, wrapNat j (by omega)]
        exact ⟨(intoG l a).length - (j + 1), by omega, j + 1, putA m2 a (max (valM m2 a) (valM m2 y + 1)), _, _, reg_intro rfl rfl ⟨rfl, by omega, rfl, fun z hz => by rw [valM_put, if_neg (Ne.symm hz)]; exact hv2 z hz, by rw [valM_put, if_pos rfl, hsn, maxs_snoc, hva, hv2 y hya]⟩⟩
      · have hi3 := of_decide_eq_false hc2
        obtain rfl : j = (intoG l a).length := by omega
        rw [List.take_length] at hva
        simp only [go_sem, Nat.reduceAdd, Nat.reduceSub, Nat.reduceMul, Nat.reduceLT, Nat.reduceLeDiff, ↓reduceIte, reduceCtorEq, Nat.reduceEqDiff, Int.reduceToNat, Int.reduceLT, Int.reduceLE, Int.reduceEq, beq_self_eq_true]
        have hl1 := fun z => look_val (tk := T) (g3 (.obj 1, mapG natK encI m2 q2)) z (x := .lit (.int .i64 z)) rfl
        simp only [go_sem, Nat.reduceAdd, Nat.reduceSub, Nat.reduceMul, Nat.reduceLT, Nat.reduceLeDiff, ↓reduceIte, reduceCtorEq, Nat.reduceEqDiff, Int.reduceToNat, Int.reduceLT, Int.reduceLE, Int.reduceEq, beq_self_eq_true, hl1, wrapNat i (by omega)]
        have hvn : ∀ z, valM m2 z = (deepAt l o (i + 1)).1.getD z 0 := fun z => by
          by_cases hz : z = a
          · subst hz; rw [hva, hda]
          · rw [hv2 z hz, hdn z hz]
        have hmx : max (deepAt l o i).2 (valM m2 a) = (deepAt l o (i + 1)).2 := by rw [hdm, hvn a]
        rw [hmx]
        exact ⟨o.length - (i + 1), by omega, i + 1, m2, q2, _, reg_intro rfl rfl ⟨rfl, by omega, rfl, hvn⟩⟩
    · have hi2 := of_decide_eq_false hc
      obtain rfl : i = o.length := by omega
      simp only [go_sem, Nat.reduceAdd, Nat.reduceSub, Nat.reduceMul, Nat.reduceLT, Nat.reduceLeDiff, ↓reduceIte, reduceCtorEq, Nat.reduceEqDiff, Int.reduceToNat, Int.reduceLT, Int.reduceLE, Int.reduceEq, beq_self_eq_true]
end Go.Ab
