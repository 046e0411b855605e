/- Graphs of transactions: an order of all. Conditions: none. -/
import Derived.Test.YtnagdbamieahgaaGrJ
import Derived.Test.YtnagdbamieahgaaGrK
set_option linter.unusedSimpArgs false
namespace Go.Ab
open Go.Proofs

def sortedR (l : List TxR) (bs : List (Sh × D)) (tk : List Bool) (r : D) (h : Heap) : Prop :=
  ∃ ex tk2 u, r = .tup [intsL (natI ((sortR l l.length []).getD [])) u, .bool (sortR l l.length []).isSome] ∧ h = ⟨bs ++ ex, tk ++ tk2⟩
/-- Those that may come next, among some. -/
def FreeIn (l : List TxR) (M ms F : List Nat) : Prop := ∀ z, z ∈ F ↔ z ∈ ms ∧ ∀ k ∈ intoG l z, k ∉ M
theorem liveH_more {u : Tok} {tk z w : List Bool} (h : liveH u tk z) : liveH u tk (z ++ w) := by
  obtain ⟨h1, h2⟩ := h
  refine ⟨?_, h2⟩
  cases u with
  | own id =>
    simp only [live] at h1 ⊢
    rw [← List.append_assoc, List.getElem?_append_left (List.getElem?_eq_some_iff.1 h1).1]; exact h1
  | _ => exact h1
theorem range_put (i : Nat) : List.range i ++ [i] = List.range (i + 1) := List.range_succ.symm
theorem len_set {α : Type} [DecidableEq α] {kd : α → D} {t k e : TypeId} (ht : CT.ty t = .map k e) {bs : List (Sh × D)} {tk : List Bool} {b g : Nat} {s : List α} (hb : bs[b]? = some (.obj 1, setG kd s g)) (ts : List TypeId) : builtinD CT ⟨bs, tk⟩ .len (t :: ts) [.mref b] = some (.int s.length) := by
  have h := len_g (tk := tk) (kd := kd) (enc := fun b : Bool => D.lit (.bool b)) (l := s.map fun a => (a, true)) hb
  simp only [builtinD, lenD, ht, nrm, h, List.length_map]
set_option maxRecDepth 20000 in
set_option maxHeartbeats 2000000 in
theorem web_sorted (l : List TxR) (h1 : checkG l = true) (bs : List (Sh × D)) (tk : List Bool) (b : Nat) (hw : WebAt l bs b) :
    ASpec Try.prog CT 52 [.ptr b []] ⟨bs, tk⟩ (sortedR l bs tk) := by
  have hl : l.length ≤ 4096 := by simp only [checkG, Bool.and_eq_true, decide_eq_true_eq] at h1; exact h1.1
  have hK := keyNat
  have hw0 := hw
  obtain ⟨c, L, k1, k2, k3, k4⟩ := hw
  have hcl := (List.getElem?_eq_some_iff.1 k2).1
  have hbl := (List.getElem?_eq_some_iff.1 k1).1
  have g1 : ∀ y, (bs ++ y)[b]? = some (webSh, webD l c) := fun y => by rw [List.getElem?_append_left hbl]; exact k1
  have g2 : ∀ y, (bs ++ y)[c]? = some (.arr l.length .leaf, .agg L) := fun y => by rw [List.getElem?_append_left hcl]; exact k2
  have g3 : ∀ y z, (bs ++ y :: z)[bs.length]? = some y := fun y z => by rw [List.getElem?_append_right (Nat.le_refl _)]; simp
  have gs : ∀ y z x, (bs ++ y :: z).set bs.length x = bs ++ x :: z := fun y z x => by rw [List.set_append_right _ _ (Nat.le_refl _)]; simp
  refine ASpec.of hT Try.func52 rfl (by kernel_rfl) rfl rfl ?_
  simp only [Try.f52, go_sem, Nat.reduceAdd, Nat.reduceSub, Nat.reduceMul, Nat.reduceLT, Nat.reduceLeDiff, ↓reduceIte, reduceCtorEq, Nat.reduceEqDiff, Int.reduceToNat, Int.reduceLT, Int.reduceLE, Int.reduceEq, beq_self_eq_true]
  refine ⟨isMap_ok rfl, ?_⟩
  simp only [go_sem, Nat.reduceAdd, Nat.reduceSub, Nat.reduceMul, Nat.reduceLT, Nat.reduceLeDiff, ↓reduceIte, reduceCtorEq, Nat.reduceEqDiff, Int.reduceToNat, Int.reduceLT, Int.reduceLE, Int.reduceEq, beq_self_eq_true, nil_ptr, g1]
  refine awp_loop (fun n s => ∃ (i : Nat) (q : Nat) (x : List (Sh × D)) (g : Nat → D), s = ⟨[.ptr b [], g 1, g 2, g 3, .mref bs.length, g 5, g 6, g 7, g 8, g 9, g 10, g 11, g 12, g 13, g 14, g 15, g 16, .lit (.int .i64 l.length), .lit (.int .i64 i), g 19, g 20, g 21, g 22, g 23, g 24, g 25, g 26, g 27, g 28, g 29, g 30, g 31, g 32, g 33, g 34, g 35, g 36, g 37, g 38, g 39, g 40, g 41, g 42, g 43, g 44, g 45, g 46, g 47, g 48, g 49, g 50, g 51, g 52, g 53, g 54, g 55, g 56, g 57, g 58, g 59, g 60, g 61, g 62, g 63, g 64, g 65, g 66], ⟨x, tk⟩⟩ ∧ n = l.length - i ∧ i ≤ l.length ∧ x = bs ++ (.obj 1, setG natK (List.range i) q) :: []) l.length ⟨0, 0, _, reg_intro rfl rfl ⟨by simp, by omega, rfl⟩⟩ ?_
  rintro n st ⟨i, q, x, g, rfl, hn, hi, hx⟩
  subst hx
  simp only [go_sem, Nat.reduceAdd, Nat.reduceSub, Nat.reduceMul, Nat.reduceLT, Nat.reduceLeDiff, ↓reduceIte, reduceCtorEq, Nat.reduceEqDiff, Int.reduceToNat, Int.reduceLT, Int.reduceLE, Int.reduceEq, beq_self_eq_true]
  refine condK_split (fun hc => ?_) (fun hc => ?_)
  · have hi' : i < l.length := by have := of_decide_eq_true hc; omega
    simp only [go_sem, Nat.reduceAdd, Nat.reduceSub, Nat.reduceMul, Nat.reduceLT, Nat.reduceLeDiff, ↓reduceIte, reduceCtorEq, Nat.reduceEqDiff, Int.reduceToNat, Int.reduceLT, Int.reduceLE, Int.reduceEq, beq_self_eq_true]
    refine setUpd_g hK (e := 4) rfl (g3 _ _) i rfl ?_
    rintro s' g' (⟨h, _⟩ | ⟨_, rfl, rfl⟩)
    · simp at h
    rw [gs]
    simp only [go_sem, Nat.reduceAdd, Nat.reduceSub, Nat.reduceMul, Nat.reduceLT, Nat.reduceLeDiff, ↓reduceIte, reduceCtorEq, Nat.reduceEqDiff, Int.reduceToNat, Int.reduceLT, Int.reduceLE, Int.reduceEq, beq_self_eq_true, wrapNat i (by omega)]
    exact ⟨l.length - (i + 1), by omega, i + 1, q + 1, _, reg_intro rfl rfl ⟨rfl, by omega, by rw [range_put]⟩⟩
  · have hi2 := of_decide_eq_false hc
    obtain rfl : i = l.length := by omega
    simp only [go_sem, Nat.reduceAdd, Nat.reduceSub, Nat.reduceMul, Nat.reduceLT, Nat.reduceLeDiff, ↓reduceIte, reduceCtorEq, Nat.reduceEqDiff, Int.reduceToNat, Int.reduceLT, Int.reduceLE, Int.reduceEq, beq_self_eq_true]
    refine awp_loop (fun m s => ∃ (out M : List Nat) (q : Nat) (u : Tok) (tk2 : List Bool) (x ex : List (Sh × D)) (g : Nat → D), s = ⟨[.ptr b [], g 1, g 2, g 3, .mref bs.length, g 5, intsL (natI out) u, g 7, g 8, g 9, g 10, g 11, g 12, g 13, g 14, g 15, g 16, g 17, g 18, g 19, g 20, g 21, g 22, g 23, g 24, g 25, g 26, g 27, g 28, g 29, g 30, g 31, g 32, g 33, g 34, g 35, g 36, g 37, g 38, g 39, g 40, g 41, g 42, g 43, g 44, g 45, g 46, g 47, g 48, g 49, g 50, g 51, g 52, g 53, g 54, g 55, g 56, g 57, g 58, g 59, g 60, g 61, g 62, g 63, g 64, g 65, g 66], ⟨x, tk ++ tk2⟩⟩ ∧ m = M.length ∧ x = bs ++ (.obj 1, setG natK M q) :: ex ∧ liveH u tk tk2 ∧ LeftOf l out M ∧ sortR l M.length out = sortR l l.length [] ∧ out.length + M.length = l.length) l.length ⟨[], List.range l.length, q, .full, [], _, [], by rw [List.append_nil]; exact reg_intro rfl rfl ⟨by simp, rfl, ⟨trivial, trivial⟩, ⟨List.nodup_range, by simp⟩, by simp, by simp⟩⟩ ?_
    rintro m st ⟨out, M, q, u, tk2, x, ex, g, rfl, hm, hx, hu, hlo, hso, hsz⟩
    subst hx
    simp only [go_sem, Nat.reduceAdd, Nat.reduceSub, Nat.reduceMul, Nat.reduceLT, Nat.reduceLeDiff, ↓reduceIte, reduceCtorEq, Nat.reduceEqDiff, Int.reduceToNat, Int.reduceLT, Int.reduceLE, Int.reduceEq, beq_self_eq_true]
    rw [len_set (t := 85) rfl (g3 _ _)]
    simp only [go_sem, Nat.reduceAdd, Nat.reduceSub, Nat.reduceMul, Nat.reduceLT, Nat.reduceLeDiff, ↓reduceIte, reduceCtorEq, Nat.reduceEqDiff, Int.reduceToNat, Int.reduceLT, Int.reduceLE, Int.reduceEq, beq_self_eq_true]
    refine condK_split (fun hc2 => ?_) (fun hc2 => ?_)
    · have hM0 : 0 < M.length := by have := of_decide_eq_true hc2; omega
      simp only [go_sem, Nat.reduceAdd, Nat.reduceSub, Nat.reduceMul, Nat.reduceLT, Nat.reduceLeDiff, ↓reduceIte, reduceCtorEq, Nat.reduceEqDiff, Int.reduceToNat, Int.reduceLT, Int.reduceLE, Int.reduceEq, beq_self_eq_true]
      refine setRange_g hK (t := 85) (e := 4) rfl (g3 _ _) ?_
      obtain ⟨S, hS⟩ : ∃ S : Sh × D, S = (.obj 1, setG natK M q) := ⟨_, rfl⟩
      obtain ⟨p, hp⟩ : ∃ p, p = (bs ++ S :: ex).length := ⟨_, rfl⟩
      have hp2 : p = bs.length + (ex.length + 1) := by rw [hp, List.length_append, List.length_cons]
      have g3' : ∀ z, (bs ++ S :: z)[bs.length]? = some (.obj 1, setG natK M q) := fun z => by rw [g3, hS]
      have gi : ∀ y, (bs ++ S :: (ex ++ [y]))[p]? = some y := fun y => by rw [hp2, List.getElem?_append_right (by omega), Nat.add_sub_cancel_left, List.getElem?_cons_succ]; simp
      have gis : ∀ y y', (bs ++ S :: (ex ++ [y])).set p y' = bs ++ S :: (ex ++ [y']) := fun y y' => by rw [hp2, List.set_append_right _ _ (by omega), Nat.add_sub_cancel_left, List.set_cons_succ]; simp
      have hassoc : ∀ y, bs ++ S :: ex ++ [y] = bs ++ S :: (ex ++ [y]) := fun y => by simp
      rw [← hS, ← hp, hassoc]
      simp only [go_sem, Nat.reduceAdd, Nat.reduceSub, Nat.reduceMul, Nat.reduceLT, Nat.reduceLeDiff, ↓reduceIte, reduceCtorEq, Nat.reduceEqDiff, Int.reduceToNat, Int.reduceLT, Int.reduceLE, Int.reduceEq, beq_self_eq_true]
      refine awp_loop (fun n s => ∃ (ms F : List Nat) (u2 : Tok) (tk3 : List Bool) (x : List (Sh × D)) (g : Nat → D), s = ⟨[.ptr b [], g 1, g 2, g 3, .mref bs.length, g 5, intsL (natI out) u, intsL (natI F) u2, g 8, g 9, g 10, g 11, g 12, g 13, g 14, g 15, g 16, g 17, g 18, g 19, g 20, g 21, g 22, g 23, g 24, g 25, g 26, g 27, .ptr p [], g 29, g 30, g 31, g 32, g 33, g 34, g 35, g 36, g 37, g 38, g 39, g 40, g 41, g 42, g 43, g 44, g 45, g 46, g 47, g 48, g 49, g 50, g 51, g 52, g 53, g 54, g 55, g 56, g 57, g 58, g 59, g 60, g 61, g 62, g 63, g 64, g 65, g 66], ⟨x, tk ++ tk2 ++ tk3⟩⟩ ∧ n = M.length - ms.length ∧ x = bs ++ S :: (ex ++ [(.obj 2, .it bs.length q (ms.map natK))]) ∧ liveH u2 (tk ++ tk2) tk3 ∧ ms.Nodup ∧ (∀ a ∈ ms, a ∈ M) ∧ FreeIn l M ms F ∧ F.length ≤ ms.length) M.length ⟨[], [], .full, [], _, by rw [List.append_nil]; exact reg_intro rfl rfl ⟨by simp, by simp, ⟨trivial, trivial⟩, by simp, by simp, fun z => by simp, by simp⟩⟩ ?_
      rintro n3 st ⟨ms, F, u2, tk3, x, g, rfl, hn3, hx, hu2, hnd, hsub, hfr, hFl⟩
      subst hx
      have hml := hnd.length_le_of_subset hsub
      simp only [go_sem, Nat.reduceAdd, Nat.reduceSub, Nat.reduceMul, Nat.reduceLT, Nat.reduceLeDiff, ↓reduceIte, reduceCtorEq, Nat.reduceEqDiff, Int.reduceToNat, Int.reduceLT, Int.reduceLE, Int.reduceEq, beq_self_eq_true]
      refine setNext_g hK (g3' _) (gi _) (fun a haM hna => ?_) (fun hall => ?_)
      · have ha : a < l.length := ((hlo.2 a).1 haM).1
        obtain ⟨t, hrow⟩ := k4 a ha
        have hrl : (intoG l a).length ≤ l.length := by have := List.length_filter_le (fun k => leadG l k a) (List.range l.length); simpa [intoG] using this
        have hnd2 : (ms ++ [a]).Nodup := List.nodup_append.2 ⟨hnd, by simp, fun x hx y hy => by rw [List.mem_singleton] at hy; subst hy; rintro rfl; exact hna hx⟩
        have hsub2 : ∀ b ∈ ms ++ [a], b ∈ M := fun b hb => by
          rcases List.mem_append.1 hb with hb | hb
          · exact hsub b hb
          · rw [List.mem_singleton] at hb; rw [hb]; exact haM
        have hml2 := hnd2.length_le_of_subset hsub2
        rw [List.length_append, List.length_singleton] at hml2
        rw [gis]
        have he := setEntry_g (tk := tk ++ tk2 ++ tk3) (bs := bs ++ S :: (ex ++ [(.obj 2, .it bs.length q ((ms ++ [a]).map natK))])) (b := bs.length) (i := p) (m := ms) (a := a) hK (g3' _) (gi _) haM
        simp only [go_sem, Nat.reduceAdd, Nat.reduceSub, Nat.reduceMul, Nat.reduceLT, Nat.reduceLeDiff, ↓reduceIte, reduceCtorEq, Nat.reduceEqDiff, Int.reduceToNat, Int.reduceLT, Int.reduceLE, Int.reduceEq, beq_self_eq_true]
        simp only [go_sem, Nat.reduceAdd, Nat.reduceSub, Nat.reduceMul, Nat.reduceLT, Nat.reduceLeDiff, ↓reduceIte, reduceCtorEq, Nat.reduceEqDiff, Int.reduceToNat, Int.reduceLT, Int.reduceLE, Int.reduceEq, beq_self_eq_true, he, natK, nil_ptr, g1, g2, ha, hrow, indexAddr_sl_t, Nat.zero_add, natI_len]
        have hbad : (∃ y ∈ intoG l a, y ∈ M) → FreeIn l M (ms ++ [a]) F := fun ⟨y, hy, hyM⟩ z => by
          rw [hfr z]
          constructor
          · rintro ⟨h, h2⟩; exact ⟨List.mem_append.2 (.inl h), h2⟩
          · rintro ⟨h, h2⟩
            rcases List.mem_append.1 h with h | h
            · exact ⟨h, h2⟩
            · rw [List.mem_singleton] at h; subst h; exact absurd hyM (h2 y hy)
        have hgood : (∀ y ∈ intoG l a, y ∉ M) → FreeIn l M (ms ++ [a]) (F ++ [a]) := fun hg z => by
          simp only [List.mem_append, List.mem_singleton, hfr z]
          constructor
          · rintro (⟨h, h2⟩ | rfl)
            · exact ⟨.inl h, h2⟩
            · exact ⟨.inr rfl, hg⟩
          · rintro ⟨h | rfl, h2⟩
            · exact .inl ⟨h, h2⟩
            · exact .inr rfl
        refine awp_loop (fun n s => ∃ (j : Nat) (g : Nat → D), s = ⟨[.ptr b [], g 1, g 2, g 3, .mref bs.length, g 5, intsL (natI out) u, intsL (natI F) u2, .lit (.int .i64 a), g 9, g 10, g 11, g 12, g 13, g 14, g 15, g 16, g 17, g 18, g 19, g 20, g 21, g 22, g 23, g 24, g 25, g 26, g 27, .ptr p [], g 29, g 30, g 31, g 32, g 33, g 34, g 35, g 36, g 37, g 38, intsL (natI (intoG l a)) t, .lit (.int .i64 (intoG l a).length), .lit (.int .i64 j), g 42, g 43, g 44, g 45, g 46, g 47, g 48, g 49, g 50, g 51, g 52, g 53, g 54, g 55, g 56, g 57, g 58, g 59, g 60, g 61, g 62, g 63, g 64, g 65, g 66], ⟨bs ++ S :: (ex ++ [(.obj 2, .it bs.length q ((ms ++ [a]).map natK))]), tk ++ tk2 ++ tk3⟩⟩ ∧ n = (intoG l a).length - j ∧ j ≤ (intoG l a).length ∧ ∀ z ∈ (intoG l a).take j, z ∉ M) (intoG l a).length ⟨0, reg_intro rfl rfl ⟨by simp, by omega, by simp⟩⟩ ?_
        rintro n4 st ⟨j, g, rfl, hn4, hj, hno⟩
        simp only [go_sem, Nat.reduceAdd, Nat.reduceSub, Nat.reduceMul, Nat.reduceLT, Nat.reduceLeDiff, ↓reduceIte, reduceCtorEq, Nat.reduceEqDiff, Int.reduceToNat, Int.reduceLT, Int.reduceLE, Int.reduceEq, beq_self_eq_true]
        refine condK_split (fun hc3 => ?_) (fun hc3 => ?_)
        · have hj' : j < (intoG l a).length := by have := of_decide_eq_true hc3; omega
          have hsn := takeN_snoc hj'
          have hmem := getN_mem hj'
          obtain ⟨y, hy⟩ : ∃ y, (intoG l a).getD j 0 = y := ⟨_, rfl⟩
          rw [hy] at hsn hmem
          simp only [go_sem, Nat.reduceAdd, Nat.reduceSub, Nat.reduceMul, Nat.reduceLT, Nat.reduceLeDiff, ↓reduceIte, reduceCtorEq, Nat.reduceEqDiff, Int.reduceToNat, Int.reduceLT, Int.reduceLE, Int.reduceEq, beq_self_eq_true, hj', natI_len, get_nat, hy]
          rw [setLook_g hK (t := 85) rfl rfl (g3' _) y (x := .lit (.int .i64 y)) rfl]
          simp only [go_sem, Nat.reduceAdd, Nat.reduceSub, Nat.reduceMul, Nat.reduceLT, Nat.reduceLeDiff, ↓reduceIte, reduceCtorEq, Nat.reduceEqDiff, Int.reduceToNat, Int.reduceLT, Int.reduceLE, Int.reduceEq, beq_self_eq_true]
          refine condK_split (fun hc4 => ?_) (fun hc4 => ?_)
          · have hyM : y ∈ M := by simpa using hc4
            simp only [go_sem, Nat.reduceAdd, Nat.reduceSub, Nat.reduceMul, Nat.reduceLT, Nat.reduceLeDiff, ↓reduceIte, reduceCtorEq, Nat.reduceEqDiff, Int.reduceToNat, Int.reduceLT, Int.reduceLE, Int.reduceEq, beq_self_eq_true]
            exact ⟨M.length - (ms.length + 1), by omega, ms ++ [a], F, u2, tk3, _, reg_intro rfl rfl ⟨by simp, rfl, hu2, hnd2, hsub2, hbad ⟨y, hmem, hyM⟩, by simp; omega⟩⟩
          · have hyM : y ∉ M := by simpa using hc4
            simp only [go_sem, Nat.reduceAdd, Nat.reduceSub, Nat.reduceMul, Nat.reduceLT, Nat.reduceLeDiff, ↓reduceIte, reduceCtorEq, Nat.reduceEqDiff, Int.reduceToNat, Int.reduceLT, Int.reduceLE, Int.reduceEq, beq_self_eq_true, wrapNat j (by omega)]
            exact ⟨(intoG l a).length - (j + 1), by omega, j + 1, reg_intro rfl rfl ⟨rfl, by omega, fun z hz => by
              rw [hsn] at hz
              rcases List.mem_append.1 hz with hz | hz
              · exact hno z hz
              · rw [List.mem_singleton] at hz; rw [hz]; exact hyM⟩⟩
        · have hi3 := of_decide_eq_false hc3
          obtain rfl : j = (intoG l a).length := by omega
          rw [List.take_length] at hno
          simp only [go_sem, Nat.reduceAdd, Nat.reduceSub, Nat.reduceMul, Nat.reduceLT, Nat.reduceLeDiff, ↓reduceIte, reduceCtorEq, Nat.reduceEqDiff, Int.reduceToNat, Int.reduceLT, Int.reduceLE, Int.reduceEq, beq_self_eq_true]
          refine appK_liveH _ _ _ _ _ _ _ _ hu2 (by simp) (by simp only [go_sem, Nat.reduceAdd, Nat.reduceSub, Nat.reduceMul, Nat.reduceLT, Nat.reduceLeDiff, ↓reduceIte, reduceCtorEq, Nat.reduceEqDiff, Int.reduceToNat, Int.reduceLT, Int.reduceLE, Int.reduceEq, beq_self_eq_true]) (by simp only [go_sem, Nat.reduceAdd, Nat.reduceSub, Nat.reduceMul, Nat.reduceLT, Nat.reduceLeDiff, ↓reduceIte, reduceCtorEq, Nat.reduceEqDiff, Int.reduceToNat, Int.reduceLT, Int.reduceLE, Int.reduceEq, beq_self_eq_true, natI_len, List.length_singleton]; omega) (fun u' tk' hu' => ?_)
          simp only [go_sem, Nat.reduceAdd, Nat.reduceSub, Nat.reduceMul, Nat.reduceLT, Nat.reduceLeDiff, ↓reduceIte, reduceCtorEq, Nat.reduceEqDiff, Int.reduceToNat, Int.reduceLT, Int.reduceLE, Int.reduceEq, beq_self_eq_true, ints_snoc, natI_snoc]
          exact ⟨M.length - (ms.length + 1), by omega, ms ++ [a], F ++ [a], u', tk', _, reg_intro rfl rfl ⟨by simp, rfl, hu', hnd2, hsub2, hgood hno, by simp; omega⟩⟩
      · simp only [go_sem, Nat.reduceAdd, Nat.reduceSub, Nat.reduceMul, Nat.reduceLT, Nat.reduceLeDiff, ↓reduceIte, reduceCtorEq, Nat.reduceEqDiff, Int.reduceToNat, Int.reduceLT, Int.reduceLE, Int.reduceEq, beq_self_eq_true, natI_len]
        refine condK_split (fun hc3 => ?_) (fun hc3 => ?_)
        · have hF0 : F = [] := List.length_eq_zero_iff.1 (by have := of_decide_eq_true hc3; omega)
          have hb0 : bestG l out = none := best_none fun i hi => by
            cases ho : openG l out i with
            | false => rfl
            | true =>
              rw [open_iff hlo hi] at ho
              have := (hfr i).2 ⟨hall i ho.1, ho.2⟩
              rw [hF0] at this; simp at this
          have e : sortR l l.length [] = none := by
            rw [← hso]
            obtain ⟨r, hr⟩ : ∃ r, M.length = r + 1 := ⟨M.length - 1, by omega⟩
            rw [hr, sortR, hb0]
          simp only [go_sem, Nat.reduceAdd, Nat.reduceSub, Nat.reduceMul, Nat.reduceLT, Nat.reduceLeDiff, ↓reduceIte, reduceCtorEq, Nat.reduceEqDiff, Int.reduceToNat, Int.reduceLT, Int.reduceLE, Int.reduceEq, beq_self_eq_true]
          refine ⟨_, tk2 ++ tk3, .full, ?_, by rw [List.append_assoc]⟩
          rw [e]; rfl
        · have hF0 : 0 < F.length := by have := of_decide_eq_false hc3; omega
          have hMl : M.length ≤ l.length := by omega
          simp only [go_sem, Nat.reduceAdd, Nat.reduceSub, Nat.reduceMul, Nat.reduceLT, Nat.reduceLeDiff, ↓reduceIte, reduceCtorEq, Nat.reduceEqDiff, Int.reduceToNat, Int.reduceLT, Int.reduceLE, Int.reduceEq, beq_self_eq_true]
          refine callK_a (web_min l F u2 hF0 (by omega) (fun x hx => ((hlo.2 x).1 (hsub x ((hfr x).1 hx).1)).1) _ _ b (web_more hw0)) ?_
          rintro r h' ⟨mn, ex2, rfl, rfl, hmF, hmin⟩
          have hmM := hsub mn ((hfr mn).1 hmF).1
          have hmn : mn < l.length := ((hlo.2 mn).1 hmM).1
          have hb1 : bestG l out = some mn := best_min h1 hmn ((open_iff hlo hmn).2 ⟨hmM, ((hfr mn).1 hmF).2⟩) fun i hi hoi => by
            rw [open_iff hlo hi] at hoi
            exact hmin i ((hfr i).2 ⟨hall i hoi.1, hoi.2⟩)
          have hle : (M.erase mn).length = M.length - 1 := List.length_erase_of_mem hmM
          have e : sortR l (M.erase mn).length (out ++ [mn]) = sortR l l.length [] := by
            rw [← hso, hle]
            obtain ⟨r, hr⟩ : ∃ r, M.length = r + 1 := ⟨M.length - 1, by omega⟩
            rw [hr, sortR, hb1]; rfl
          have hX : bs ++ S :: (ex ++ [((.obj 2 : Sh), D.it bs.length q (ms.map natK))]) ++ ex2 = bs ++ S :: (ex ++ [(.obj 2, .it bs.length q (ms.map natK))] ++ ex2) := by simp
          rw [hX]
          generalize ex ++ [((.obj 2 : Sh), D.it bs.length q (ms.map natK))] ++ ex2 = ex3 at *
          simp only [go_sem, Nat.reduceAdd, Nat.reduceSub, Nat.reduceMul, Nat.reduceLT, Nat.reduceLeDiff, ↓reduceIte, reduceCtorEq, Nat.reduceEqDiff, Int.reduceToNat, Int.reduceLT, Int.reduceLE, Int.reduceEq, beq_self_eq_true]
          refine setDel_g hK (t := 85) (e := 4) rfl (g3' _) mn rfl ?_
          rw [gs, List.append_assoc]
          simp only [go_sem, Nat.reduceAdd, Nat.reduceSub, Nat.reduceMul, Nat.reduceLT, Nat.reduceLeDiff, ↓reduceIte, reduceCtorEq, Nat.reduceEqDiff, Int.reduceToNat, Int.reduceLT, Int.reduceLE, Int.reduceEq, beq_self_eq_true]
          refine appK_liveH _ _ _ _ _ _ _ _ (liveH_more hu) (by simp) (by simp only [go_sem, Nat.reduceAdd, Nat.reduceSub, Nat.reduceMul, Nat.reduceLT, Nat.reduceLeDiff, ↓reduceIte, reduceCtorEq, Nat.reduceEqDiff, Int.reduceToNat, Int.reduceLT, Int.reduceLE, Int.reduceEq, beq_self_eq_true]) (by simp only [go_sem, Nat.reduceAdd, Nat.reduceSub, Nat.reduceMul, Nat.reduceLT, Nat.reduceLeDiff, ↓reduceIte, reduceCtorEq, Nat.reduceEqDiff, Int.reduceToNat, Int.reduceLT, Int.reduceLE, Int.reduceEq, beq_self_eq_true, natI_len, List.length_singleton]; omega) (fun u' tk' hu' => ?_)
          simp only [go_sem, Nat.reduceAdd, Nat.reduceSub, Nat.reduceMul, Nat.reduceLT, Nat.reduceLeDiff, ↓reduceIte, reduceCtorEq, Nat.reduceEqDiff, Int.reduceToNat, Int.reduceLT, Int.reduceLE, Int.reduceEq, beq_self_eq_true, ints_snoc, natI_snoc]
          exact ⟨(M.erase mn).length, by omega, out ++ [mn], M.erase mn, q, u', tk', _, ex3, reg_intro rfl rfl ⟨rfl, rfl, hu', left_erase hlo mn, e, by rw [List.length_append, List.length_singleton, hle]; omega⟩⟩
    · have hM0 : M.length = 0 := by have := of_decide_eq_false hc2; omega
      obtain rfl : M = [] := List.length_eq_zero_iff.1 hM0
      simp only [go_sem, Nat.reduceAdd, Nat.reduceSub, Nat.reduceMul, Nat.reduceLT, Nat.reduceLeDiff, ↓reduceIte, reduceCtorEq, Nat.reduceEqDiff, Int.reduceToNat, Int.reduceLT, Int.reduceLE, Int.reduceEq, beq_self_eq_true]
      have e : sortR l l.length [] = some out := hso.symm
      refine ⟨_, tk2, u, ?_, rfl⟩
      rw [e]; rfl
end Go.Ab
set_option linter.unusedSimpArgs false
namespace Go.Ab
open Go.Proofs

def maxs (f : Nat → Int) (xs : List Nat) : Int := xs.foldl (fun acc k => max acc (f k + 1)) 1
theorem maxs_snoc (f : Nat → Int) (xs : List Nat) (k : Nat) : maxs f (xs ++ [k]) = max (maxs f xs) (f k + 1) := by rw [maxs, List.foldl_append]; rfl
theorem fold_le (f : Nat → Int) (c : Int) : ∀ (xs : List Nat) (a : Int), xs.foldl (fun acc k => max acc (f k + 1)) a ≤ c ↔ a ≤ c ∧ ∀ k ∈ xs, f k + 1 ≤ c
  | [], a => by simp
  | x :: r, a => by
    rw [List.foldl_cons, fold_le f c r]
    simp only [List.mem_cons, forall_eq_or_imp]
    constructor
    · rintro ⟨h, h2⟩; exact ⟨by omega, by omega, h2⟩
    · rintro ⟨h, h2, h3⟩; exact ⟨by omega, h3⟩
theorem maxs_le {f : Nat → Int} {xs : List Nat} {c : Int} : maxs f xs ≤ c ↔ 1 ≤ c ∧ ∀ k ∈ xs, f k + 1 ≤ c := fold_le f c xs 1
theorem maxs_ext {f : Nat → Int} {xs ys : List Nat} (h : ∀ k, k ∈ xs ↔ k ∈ ys) : maxs f xs = maxs f ys := by
  have h1 : maxs f xs ≤ maxs f ys := maxs_le.2 ⟨(maxs_le.1 (Int.le_refl _)).1, fun k hk => (maxs_le.1 (Int.le_refl _)).2 k ((h k).1 hk)⟩
  have h2 : maxs f ys ≤ maxs f xs := maxs_le.2 ⟨(maxs_le.1 (Int.le_refl _)).1, fun k hk => (maxs_le.1 (Int.le_refl _)).2 k ((h k).2 hk)⟩
  omega
theorem maxs_congr {f g : Nat → Int} {xs : List Nat} (h : ∀ k ∈ xs, f k = g k) : maxs f xs = maxs g xs := by
  have h1 : maxs f xs ≤ maxs g xs := maxs_le.2 ⟨(maxs_le.1 (Int.le_refl (maxs g xs))).1, fun k hk => by rw [h k hk]; exact (maxs_le.1 (Int.le_refl (maxs g xs))).2 k hk⟩
  have h2 : maxs g xs ≤ maxs f xs := maxs_le.2 ⟨(maxs_le.1 (Int.le_refl (maxs f xs))).1, fun k hk => by rw [← h k hk]; exact (maxs_le.1 (Int.le_refl (maxs f xs))).2 k hk⟩
  omega
theorem getD_set_eq {l : List Int} {i : Nat} {x : Int} (h : i < l.length) : (l.set i x).getD i 0 = x := by rw [List.getD_eq_getElem?_getD, List.getElem?_set_self h]; rfl
theorem getD_set_ne {l : List Int} {i j : Nat} {x : Int} (h : i ≠ j) : (l.set i x).getD j 0 = l.getD j 0 := by rw [List.getD_eq_getElem?_getD, List.getElem?_set_ne h, ← List.getD_eq_getElem?_getD]
theorem deepIn_spec {l : List TxR} {o : List Nat} {a : Nat} {dp : List Int} (ha : a < dp.length) : ∀ k, k ≤ o.length → a ∉ o.take k →
    (deepIn l o a (dp.set a 1) k).length = dp.length ∧ (∀ z, z ≠ a → (deepIn l o a (dp.set a 1) k).getD z 0 = dp.getD z 0) ∧ (deepIn l o a (dp.set a 1) k).getD a 0 = maxs (fun z => dp.getD z 0) ((o.take k).filter (leadG l · a))
  | 0, _, _ => ⟨by simp [deepIn], fun z hz => by simp only [deepIn, List.range_zero, List.foldl_nil]; exact getD_set_ne (Ne.symm hz), by simp only [deepIn, List.range_zero, List.foldl_nil, List.take_zero, List.filter_nil]; exact getD_set_eq ha⟩
  | k + 1, hk, hn => by
    have hk' : k < o.length := by omega
    rw [takeN_snoc hk'] at hn ⊢
    simp only [List.mem_append, List.mem_singleton, not_or] at hn
    obtain ⟨i1, i2, i3⟩ := deepIn_spec (l := l) ha k (by omega) hn.1
    rw [deepIn_succ, deepStep]
    generalize deepIn l o a (dp.set a 1) k = q at *
    rw [List.filter_append]
    cases h : leadG l (o.getD k 0) a with
    | false => simp only [Bool.false_eq_true, if_false, List.filter_cons, h, List.filter_nil, List.append_nil]; exact ⟨i1, i2, i3⟩
    | true =>
      simp only [if_true, List.filter_cons, h, List.filter_nil]
      refine ⟨by simpa using i1, fun z hz => by rw [getD_set_ne (Ne.symm hz)]; exact i2 z hz, ?_⟩
      rw [getD_set_eq (by omega), maxs_snoc, i3, i2 _ (Ne.symm hn.2)]
theorem sorted_free (l : List TxR) : ∀ r out o, sortR l r out = some o → (∀ j, j < out.length → ∀ k ∈ intoG l (out.getD j 0), k ∈ out.take j) → ∀ j, j < o.length → ∀ k ∈ intoG l (o.getD j 0), k ∈ o.take j
  | 0, out, o, h, hp => by cases h; exact hp
  | r + 1, out, o, h, hp => by
    rw [sortR] at h
    split at h
    · cases h
    · rename_i b hb
      refine sorted_free l r (out ++ [b]) o h fun j hj k hk => ?_
      rw [List.length_append, List.length_singleton] at hj
      by_cases hjo : j < out.length
      · rw [List.getD_eq_getElem?_getD, List.getElem?_append_left hjo, ← List.getD_eq_getElem?_getD] at hk
        rw [List.take_append_of_le_length (by omega)]
        exact hp j hjo k hk
      · obtain rfl : j = out.length := by omega
        rw [List.getD_eq_getElem?_getD, List.getElem?_append_right (Nat.le_refl _), Nat.sub_self] at hk
        simp only [List.getElem?_cons_zero, Option.getD_some] at hk
        rw [List.take_left']
        · have hop : openG l out b = true := by
            rcases best_spec l out l.length with ⟨h1, _⟩ | ⟨j, h1, _, h3, _⟩
            · rw [bestG, h1] at hb; cases hb
            · rw [bestG, h1] at hb; cases hb; exact h3
          simp only [openG, freeG, freeAt, Bool.and_eq_true, List.all_eq_true, List.mem_range, Bool.or_eq_true, decide_eq_true_eq, Bool.not_eq_true'] at hop
          simp only [intoG, List.mem_filter, List.mem_range] at hk
          rcases hop.2 k hk.1 with h5 | h5
          · exact h5
          · rw [hk.2] at h5; cases h5
        · rfl
/-- What an order is. -/
structure OrderOk (l : List TxR) (o : List Nat) : Prop where
  nd : o.Nodup
  lt : ∀ x ∈ o, x < l.length
  len : o.length = l.length
  free : ∀ j, j < o.length → ∀ k ∈ intoG l (o.getD j 0), k ∈ o.take j
theorem orderOk {l : List TxR} {o : List Nat} (h : sortR l l.length [] = some o) : OrderOk l o := by
  obtain ⟨h1, h2, h3⟩ := sortR_ok l l.length [] o h (by simp) (by simp)
  exact ⟨h1, h2, by simpa using h3, sorted_free l _ _ _ h (by simp)⟩
theorem nd_take {o : List Nat} (h : o.Nodup) {i : Nat} (hi : i < o.length) : o.getD i 0 ∉ o.take i := fun hm => by
  have h2 : (o.take (i + 1)).Nodup := h.sublist (List.take_sublist _ _)
  rw [takeN_snoc hi, List.nodup_append] at h2
  exact h2.2.2 _ hm _ (by simp) rfl
theorem deepAt_len {l : List TxR} {o : List Nat} (h : OrderOk l o) : ∀ i, i ≤ o.length → (deepAt l o i).1.length = l.length
  | 0, _ => by simp [deepAt]
  | i + 1, hi => by
    have ih := deepAt_len h i (by omega)
    have ha := h.lt _ (getN_mem (show i < o.length by omega))
    have := (deepIn_spec (l := l) (dp := (deepAt l o i).1) (by omega) i (by omega) (nd_take h.nd (by omega))).1
    rw [deepAt, this, ih]
theorem deepAt_at {l : List TxR} {o : List Nat} (h : OrderOk l o) {i : Nat} (hi : i < o.length) : (deepAt l o (i + 1)).1.getD (o.getD i 0) 0 = maxs (fun z => (deepAt l o i).1.getD z 0) (intoG l (o.getD i 0)) := by
  have ha := h.lt _ (getN_mem hi)
  have hl := deepAt_len h i (by omega)
  have := (deepIn_spec (l := l) (dp := (deepAt l o i).1) (by omega) i (by omega) (nd_take h.nd hi)).2.2
  rw [deepAt, this]
  refine maxs_ext fun k => ?_
  simp only [List.mem_filter, intoG, List.mem_range]
  constructor
  · rintro ⟨h1, h2⟩; exact ⟨h.lt k (List.mem_of_mem_take h1), h2⟩
  · rintro ⟨h1, h2⟩; exact ⟨h.free i hi k (List.mem_filter.2 ⟨List.mem_range.2 h1, h2⟩), h2⟩
theorem deepAt_ne {l : List TxR} {o : List Nat} (h : OrderOk l o) {i : Nat} (hi : i < o.length) {z : Nat} (hz : z ≠ o.getD i 0) : (deepAt l o (i + 1)).1.getD z 0 = (deepAt l o i).1.getD z 0 := by
  have ha := h.lt _ (getN_mem hi)
  have hl := deepAt_len h i (by omega)
  have := (deepIn_spec (l := l) (dp := (deepAt l o i).1) (by omega) i (by omega) (nd_take h.nd hi)).2.1 z hz
  rw [deepAt, this]
theorem deepAt_most (l : List TxR) (o : List Nat) (i : Nat) : (deepAt l o (i + 1)).2 = max (deepAt l o i).2 ((deepAt l o (i + 1)).1.getD (o.getD i 0) 0) := rfl
theorem deepAt_bnd {l : List TxR} {o : List Nat} (h : OrderOk l o) : ∀ i, i ≤ o.length → ∀ z, 0 ≤ (deepAt l o i).1.getD z 0 ∧ (deepAt l o i).1.getD z 0 ≤ (i : Int)
  | 0, _, z => by
    have e : (List.replicate l.length (0 : Int)).getD z 0 = 0 := by
      rw [List.getD_eq_getElem?_getD, List.getElem?_replicate]; split <;> rfl
    simp only [deepAt, e]; omega
  | i + 1, hi, z => by
    have ih := deepAt_bnd h i (by omega)
    by_cases hz : z = o.getD i 0
    · subst hz
      rw [deepAt_at h (by omega)]
      have h1 : maxs (fun z => (deepAt l o i).1.getD z 0) (intoG l (o.getD i 0)) ≤ ((i + 1 : Nat) : Int) := maxs_le.2 ⟨by omega, fun k _ => by have := (ih k).2; show (deepAt l o i).1.getD k 0 + 1 ≤ _; omega⟩
      have h2 := (maxs_le.1 (Int.le_refl (maxs (fun z => (deepAt l o i).1.getD z 0) (intoG l (o.getD i 0))))).1
      omega
    · rw [deepAt_ne h (by omega) hz]
      have := ih z; omega
theorem deepAt_mostb {l : List TxR} {o : List Nat} (h : OrderOk l o) : ∀ i, i ≤ o.length → 0 ≤ (deepAt l o i).2 ∧ (deepAt l o i).2 ≤ (i : Int)
  | 0, _ => by simp [deepAt]
  | i + 1, hi => by
    have ih := deepAt_mostb h i (by omega)
    have h2 := deepAt_bnd h (i + 1) hi (o.getD i 0)
    rw [deepAt_most]; omega
end Go.Ab
