/- Graphs of transactions: what is ahead of one, as numbers that rise. Conditions: none. -/
import Derived.Test.YtnagdbamieahgaaGrK
import Derived.Test.YtnagdbamieahgaaSoA
import Derived.Test.YtnagdbamieahgaaGrA
set_option linter.unusedSimpArgs false
namespace Go.Ab
open Go.Proofs

/-- A function that only computes, whose result lies in a slice of its own. -/
theorem PSpec.freeze {P : Program} {C : Tab} {f : FuncId} {args : List D} {R : D → Heap → Prop} {Q : D → Prop} (hs : ASpec P C f args noHeap R)
    (hr : ∀ r h', R r h' → (pureR (erase r) ∧ Q (erase r)) ∨ ∃ u b lo n c N s L, r = .sl u b lo n c ∧ h'.boxes[b]? = some (.arr N s, .agg L) ∧ (∀ d ∈ (L.drop lo).take n, pureD d) ∧ Q (.lst u ((L.drop lo).take n) .no)) : PSpec P C f args Q := by
  refine ⟨hs.1, fun ρ w vs hreal ha => (hs.2 ρ w vs hreal ha).mono fun e w' ⟨v, r, h', ρ', h1, h2, h3, h4, h5⟩ => ?_⟩
  rcases hr r h' h5 with h6 | ⟨u, b, lo, n, c, N, s, L, rfl, h6, h7, h8⟩
  · exact ⟨v, erase r, h', ρ', h1, h2, h3, vv_erase h4, h6⟩
  · obtain ⟨ρ2, k1, k2, k3⟩ := freeze_real h3 h4 h6 h7
    exact ⟨v, _, _, ρ2, h1, h2.trans k1, k2, k3, trivial, h8⟩
theorem pure_natK (l : List Nat) : pureL (l.map natK) := pureL_all fun d hd => by obtain ⟨n, _, rfl⟩ := List.mem_map.1 hd; trivial
theorem natK_ints (l : List Nat) : (natI l).map (fun n => D.lit (.int .i64 n)) = l.map natK := by simp [natI, natK]
theorem sortI_rise {l m : List Nat} (hl : l.Nodup) (hm : RiseN m) (h : ∀ z, z ∈ l ↔ z ∈ m) : sortI (natI l) = natI m := by
  have nd : m.Nodup := hm.imp fun {a b} hab => by omega
  have hp : (natI l).Perm (natI m) := ((List.perm_ext_iff_of_nodup hl nd).2 h).map _
  have hs : (sortI (natI l)).Pairwise fun a b => decide (a ≤ b) = true := List.pairwise_mergeSort (le := fun a b : Int => decide (a ≤ b)) (by intro a b c; simp; omega) (by intro a b; simp; omega) _
  have hs2 : (natI m).Pairwise fun a b => decide (a ≤ b) = true := by
    simp only [natI, List.pairwise_map]
    exact hm.imp fun {a b} hab => by simp; omega
  refine List.Perm.eq_of_pairwise (le := fun a b : Int => decide (a ≤ b) = true) (fun a b _ _ h3 h4 => by simp at h3 h4; omega) hs hs2 ((List.mergeSort_perm _ _).trans hp)
/-- A sort of numbers, whatever slice of the call's own holds them. -/
theorem sortN_out {k : Nat} {d : D} {base ex : List (Sh × D)} {l m : List Nat} {tk : List Bool} (ho : OutX 3 k d ex (l.map natK)) (hk : base.length = k) (hl : l.length < 1000000000) (hn : l.Nodup) (hm : RiseN m) (hlm : ∀ z, z ∈ l ↔ z ∈ m) :
    ASpec Try.prog CT 60 [d] ⟨base ++ ex, tk⟩ fun r h' => r = .tup [] ∧ ∃ ex', h' = ⟨base ++ ex', tk⟩ ∧ OutX 3 k d ex' (m.map natK) := by
  obtain ⟨hpu, hpl, ho⟩ := ho
  have hsr := sortI_rise hn hm hlm
  have nd : m.Nodup := hm.imp fun {a b} hab => by omega
  have hml : m.length = l.length := ((List.perm_ext_iff_of_nodup hn nd).2 hlm).length_eq.symm
  rcases ho with ⟨rfl, hnil⟩ | ⟨j, N, L, rfl, hj, hL, hlN, hN, htk⟩
  · refine (sort_nil .full _ tk).mono ?_
    rintro r h' ⟨rfl, rfl⟩
    obtain rfl : l = [] := by simpa using hnil
    obtain rfl : m = [] := List.length_eq_zero_iff.1 hml
    exact ⟨rfl, ex, rfl, hpu, trivial, .inl ⟨rfl, rfl⟩⟩
  · have hjl : j < ex.length := (List.getElem?_eq_some_iff.1 hj).1
    have hbx : (base ++ ex)[k + j]? = some (.arr N (CT.sh 3), .agg L) := by rw [List.getElem?_append_right (by omega), hk, Nat.add_sub_cancel_left]; exact hj
    simp only [List.length_map] at hlN htk hL ⊢
    have hsort := sort_sl (natI l) (by rw [natI_len]; omega) tk hbx (by rw [natI_len]; omega) (by rw [natI_len, htk, natK_ints])
    rw [natI_len] at hsort
    refine hsort.mono ?_
    rintro r h' ⟨rfl, rfl⟩
    have hset : ∀ z, (base ++ ex).set (k + j) z = base ++ ex.set j z := fun z => by rw [List.set_append_right _ _ (by omega), hk, Nat.add_sub_cancel_left]
    rw [hset]
    have hpL : pureL L := hpu _ _ _ (List.mem_of_getElem? hj)
    rw [hsr, natK_ints]
    refine ⟨rfl, _, rfl, ?_, pure_natK _, .inr ⟨j, N, _, by rw [List.length_map, hml], List.getElem?_set_self hjl, ?_, by rw [List.length_map, hml]; exact hlN, hN, ?_⟩⟩
    · intro N' s' L' hm
      rcases List.mem_or_eq_of_mem_set hm with h' | h'
      · exact hpu _ _ _ h'
      · simp only [Prod.mk.injEq, D.agg.injEq] at h'
        obtain ⟨_, rfl⟩ := h'
        exact pureL_ov hpL (pure_natK _)
    · simp [overL, hml]; omega
    · have := overL_take (L := L) (m := m.map natK) (n := 0) (by simp [hml]; omega)
      simp only [Nat.zero_add, List.length_map, List.take_zero, List.nil_append] at this
      rw [List.length_map]; exact this
end Go.Ab
set_option linter.unusedSimpArgs false
namespace Go.Ab
open Go.Proofs

theorem placeG_nat {l : List TxR} {i : Int} (h : placeG l i = true) : ∃ p : Nat, i = p ∧ p < l.length := by
  have hi2 : 0 ≤ i ∧ i < (l.length : Int) := by simpa [placeG] using h
  exact ⟨i.toNat, by omega, by omega⟩
theorem nrm_natK (t : TypeId) (k : Nat) : nrm CT t (natK k) = natK k := Eq.trans rfl rfl
theorem ints_ofX (l : List Nat) : D.lst 3 (l.map natK) .no = intsL (natI l) .no := by simp only [intsL, natK_ints]
set_option maxRecDepth 8000 in
set_option maxHeartbeats 1000000 in
theorem graph_past (l : List TxR) (ho : TxsOk l) (hl : l.length < 100000000) (i : Int) : PSpec Try.prog CT 19 [txsD l, .lit (.int .i64 i)] (· = intsL (natI (pastG l i)) .no) := by
  refine PSpec.freeze (R := fun r h' => ∃ k ex base tk, base.length = k ∧ h' = ⟨base ++ ex, tk⟩ ∧ OutX 3 k r ex ((pastG l i).map natK)) ?_ ?_
  · refine ASpec.of hT Try.func19 rfl (by kernel_rfl) rfl rfl ?_
    simp only [Try.f19, go_sem, Nat.reduceAdd, Nat.reduceSub, Nat.reduceMul, Nat.reduceLT, Nat.reduceLeDiff, ↓reduceIte, reduceCtorEq, Nat.reduceEqDiff, Int.reduceToNat, Int.reduceLT, Int.reduceLE, Int.reduceEq, beq_self_eq_true, noHeap]
    refine callK_a (graph_woven l ho hl [] []) ?_
    rintro r h' (⟨h1, rfl, rfl⟩ | ⟨h1, ex, b, tk2, rfl, rfl, hw⟩)
    · have e : pastG l i = [] := by rw [pastG, h1]; rfl
      simp only [go_sem, Nat.reduceAdd, Nat.reduceSub, Nat.reduceMul, Nat.reduceLT, Nat.reduceLeDiff, ↓reduceIte, reduceCtorEq, Nat.reduceEqDiff, Int.reduceToNat, Int.reduceLT, Int.reduceLE, Int.reduceEq, beq_self_eq_true]
      rw [e]
      exact ⟨_, [], [], [], rfl, rfl, outX_nil _ _⟩
    · simp only [List.nil_append] at hw ⊢
      simp only [go_sem, Nat.reduceAdd, Nat.reduceSub, Nat.reduceMul, Nat.reduceLT, Nat.reduceLeDiff, ↓reduceIte, reduceCtorEq, Nat.reduceEqDiff, Int.reduceToNat, Int.reduceLT, Int.reduceLE, Int.reduceEq, beq_self_eq_true]
      refine callK_a (web_place l i ex tk2 b hw) ?_
      rintro r h' ⟨rfl, rfl⟩
      cases h2 : placeG l i with
      | false =>
        have e : pastG l i = [] := by rw [pastG, h2, Bool.and_false]; rfl
        simp only [go_sem, Nat.reduceAdd, Nat.reduceSub, Nat.reduceMul, Nat.reduceLT, Nat.reduceLeDiff, ↓reduceIte, reduceCtorEq, Nat.reduceEqDiff, Int.reduceToNat, Int.reduceLT, Int.reduceLE, Int.reduceEq, beq_self_eq_true, Bool.not_false]
        rw [e]
        exact ⟨_, [], _, _, rfl, by rw [List.append_nil], outX_nil _ _⟩
      | true =>
      obtain ⟨a, rfl, ha⟩ := placeG_nat h2
      simp only [go_sem, Nat.reduceAdd, Nat.reduceSub, Nat.reduceMul, Nat.reduceLT, Nat.reduceLeDiff, ↓reduceIte, reduceCtorEq, Nat.reduceEqDiff, Int.reduceToNat, Int.reduceLT, Int.reduceLE, Int.reduceEq, beq_self_eq_true, Bool.not_true]
      refine callK_a (web_past l hl ex tk2 b a hw ha) ?_
      rintro r h' ⟨M, q, ex2, rfl, rfl, hmb, hwk⟩
      have hK := keyNat
      have hmem : ∀ z, z ∈ M ↔ z ∈ pastG l a := fun z => by rw [walked_all hwk, mem_pastG, Int.toNat_natCast]; simp [h1, h2]
      have hMl : M.length ≤ l.length := nodup_len _ _ hwk.nd hwk.lt
      generalize ex ++ ex2 = B at *
      generalize ex.length + 1 = mb at *
      simp only [go_sem, Nat.reduceAdd, Nat.reduceSub, Nat.reduceMul, Nat.reduceLT, Nat.reduceLeDiff, ↓reduceIte, reduceCtorEq, Nat.reduceEqDiff, Int.reduceToNat, Int.reduceLT, Int.reduceLE, Int.reduceEq, beq_self_eq_true]
      refine setRange_g hK (e := 4) rfl hmb ?_
      simp only [go_sem, Nat.reduceAdd, Nat.reduceSub, Nat.reduceMul, Nat.reduceLT, Nat.reduceLeDiff, ↓reduceIte, reduceCtorEq, Nat.reduceEqDiff, Int.reduceToNat, Int.reduceLT, Int.reduceLE, Int.reduceEq, beq_self_eq_true]
      refine awp_loop (fun n s => ∃ (x ox : List (Sh × D)) (d : D) (ms : List Nat) (g : Nat → D), s = ⟨[g 0, g 1, g 2, g 3, g 4, g 5, g 6, d, g 8, g 9, g 10, g 11, g 12, g 13, g 14, g 15, g 16, g 17, g 18, g 19, g 20, g 21, g 22, g 23, g 24, .ptr B.length [], g 26, g 27, g 28, g 29, g 30, g 31, g 32, g 33, g 34, g 35, g 36], ⟨x, tk2⟩⟩ ∧ n = M.length - ms.length ∧ x = (B ++ [(.obj 2, .it mb q (ms.map natK))]) ++ ox ∧ OutX 3 (B.length + 1) d ox (ms.map natK) ∧ ms.Nodup ∧ (∀ a ∈ ms, a ∈ M)) M.length ⟨_, [], _, [], reg_intro rfl rfl ⟨by simp, by simp, outX_nil _ _, by simp, by simp⟩⟩ ?_
      rintro n st ⟨x, ox, d, ms, g, rfl, hn, hx, hox, hnd, hsub⟩
      have hml := hnd.length_le_of_subset hsub
      have hbl : mb < B.length := (List.getElem?_eq_some_iff.1 hmb).1
      have hxm : ∀ y, ((B ++ [y]) ++ ox)[mb]? = some (.obj 1, setG natK M q) := fun y => by rw [List.append_assoc, List.getElem?_append_left hbl]; exact hmb
      have hxi : ∀ y, ((B ++ [y]) ++ ox)[B.length]? = some y := fun y => by rw [List.append_assoc, List.getElem?_append_right (by omega), Nat.sub_self]; rfl
      have hxs : ∀ y y', ((B ++ [y]) ++ ox).set B.length y' = (B ++ [y']) ++ ox := fun y y' => by
        rw [List.append_assoc, List.set_append_right _ _ (by omega), Nat.sub_self, List.append_assoc]; rfl
      simp only [go_sem, Nat.reduceAdd, Nat.reduceSub, Nat.reduceMul, Nat.reduceLT, Nat.reduceLeDiff, ↓reduceIte, reduceCtorEq, Nat.reduceEqDiff, Int.reduceToNat, Int.reduceLT, Int.reduceLE, Int.reduceEq, beq_self_eq_true]
      subst hx
      refine setNext_g hK (hxm _) (hxi _) (fun a haM hna => ?_) (fun hall => ?_)
      · have hnd2 : (ms ++ [a]).Nodup := List.nodup_append.2 ⟨hnd, by simp, fun x hx y hy => by rw [List.mem_singleton] at hy; subst hy; rintro rfl; exact hna hx⟩
        have hsub2 : ∀ b ∈ ms ++ [a], b ∈ M := fun b hb => by
          rcases List.mem_append.1 hb with hb | hb
          · exact hsub b hb
          · rw [List.mem_singleton] at hb; rw [hb]; exact haM
        have hml2 := hnd2.length_le_of_subset hsub2
        rw [List.length_append, List.length_singleton] at hml2
        rw [hxs]
        generalize hx2 : (B ++ [((.obj 2 : Sh), D.it mb q ((ms ++ [a]).map natK))]) ++ ox = x2
        have he := setEntry_g (tk := tk2) (bs := x2) (b := mb) (i := B.length) (m := ms) (a := a) hK (by rw [← hx2]; exact hxm _) (by rw [← hx2]; exact hxi _) haM
        simp only [go_sem, Nat.reduceAdd, Nat.reduceSub, Nat.reduceMul, Nat.reduceLT, Nat.reduceLeDiff, ↓reduceIte, reduceCtorEq, Nat.reduceEqDiff, Int.reduceToNat, Int.reduceLT, Int.reduceLE, Int.reduceEq, beq_self_eq_true]
        simp only [go_sem, Nat.reduceAdd, Nat.reduceSub, Nat.reduceMul, Nat.reduceLT, Nat.reduceLeDiff, ↓reduceIte, reduceCtorEq, Nat.reduceEqDiff, Int.reduceToNat, Int.reduceLT, Int.reduceLE, Int.reduceEq, beq_self_eq_true, he, outX_nrm hox, natK]
        subst hx2
        refine outX_app (x := natK a) _ hox (by simp) (by rw [List.length_map]; omega) ⟨by decide, by decide⟩ trivial trivial fun d' ox' hox' _ => ?_
        simp only [go_sem, Nat.reduceAdd, Nat.reduceSub, Nat.reduceMul, Nat.reduceLT, Nat.reduceLeDiff, ↓reduceIte, reduceCtorEq, Nat.reduceEqDiff, Int.reduceToNat, Int.reduceLT, Int.reduceLE, Int.reduceEq, beq_self_eq_true, outX_nrm hox']
        exact ⟨M.length - (ms.length + 1), by omega, _, ox', d', ms ++ [a], reg_intro rfl rfl ⟨by simp, rfl, by simpa using hox', hnd2, hsub2⟩⟩
      · simp only [go_sem, Nat.reduceAdd, Nat.reduceSub, Nat.reduceMul, Nat.reduceLT, Nat.reduceLeDiff, ↓reduceIte, reduceCtorEq, Nat.reduceEqDiff, Int.reduceToNat, Int.reduceLT, Int.reduceLE, Int.reduceEq, beq_self_eq_true, outX_nrm hox]
        refine callK_a (sortN_out (m := pastG l a) hox (by simp) (by omega) hnd (pastG_rise l a) fun z => ⟨fun hz => (hmem z).1 (hsub z hz), fun hz => hall z ((hmem z).2 hz)⟩) ?_
        rintro r h' ⟨rfl, ox', rfl, hox'⟩
        simp only [go_sem, Nat.reduceAdd, Nat.reduceSub, Nat.reduceMul, Nat.reduceLT, Nat.reduceLeDiff, ↓reduceIte, reduceCtorEq, Nat.reduceEqDiff, Int.reduceToNat, Int.reduceLT, Int.reduceLE, Int.reduceEq, beq_self_eq_true, outX_nrm hox, outX_nrm hox']
        exact ⟨_, ox', _, tk2, by simp, rfl, hox'⟩
  · rintro r h' ⟨k, ex, base, tk, hk, rfl, hx⟩
    rcases hx.2.2 with ⟨rfl, h⟩ | ⟨j, N, L, rfl, hj, hL, hlN, hN, htk⟩
    · rw [List.map_eq_nil_iff] at h
      refine .inl ⟨trivial, ?_⟩
      rw [h]; rfl
    · refine .inr ⟨_, _, _, _, _, N, _, L, rfl, by rw [List.getElem?_append_right (by omega), hk, Nat.add_sub_cancel_left]; exact hj, ?_, ?_⟩
      · rw [List.drop_zero, htk]
        intro d hd
        obtain ⟨n, _, rfl⟩ := List.mem_map.1 hd
        trivial
      · rw [List.drop_zero, htk, ints_ofX]
end Go.Ab
set_option linter.unusedSimpArgs false
namespace Go.Ab
open Go.Proofs

def intK (n : Int) : D := .lit (.int .i64 n)
theorem keyIntK : KeyEnc CT 3 intK := keyInt rfl
theorem setG_int (M : List Nat) (q : Nat) : setG natK M q = setG intK (natI M) q := by simp [setG, mapG, natI, natK, intK, Function.comp_def]
theorem past_set {l : List TxR} {a : Nat} {M : List Nat} (h1 : checkG l = true) (ha : a < l.length) (h : Walked l a (intoG l a) [] M) (i : Int) : decide (i ∈ natI M) = aheadG l i a := by
  have hp : placeG l (a : Int) = true := by simp [placeG]; omega
  have hm : ∀ z, z ∈ M ↔ z ∈ pastG l a := fun z => by rw [walked_all h, mem_pastG, Int.toNat_natCast]; simp [h1, hp]
  rw [aheadG, decide_eq_decide]
  simp only [natI, List.mem_map, hm]
theorem past_no {l : List TxR} {k : Int} (h : (checkG l && placeG l k) = false) (i : Int) : aheadG l i k = false := by
  rw [aheadG, pastG, h]; simp [natI]
set_option maxRecDepth 8000 in
set_option maxHeartbeats 1000000 in
theorem graph_ahead (l : List TxR) (ho : TxsOk l) (hl : l.length < 100000000) (i k : Int) : PSpec Try.prog CT 21 [txsD l, .lit (.int .i64 i), .lit (.int .i64 k)] (· = .bool (aheadG l i k)) := by
  refine ASpec.of hT Try.func21 rfl (by kernel_rfl) rfl rfl ?_
  simp only [Try.f21, go_sem, Nat.reduceAdd, Nat.reduceSub, Nat.reduceMul, Nat.reduceLT, Nat.reduceLeDiff, ↓reduceIte, reduceCtorEq, Nat.reduceEqDiff, Int.reduceToNat, Int.reduceLT, Int.reduceLE, Int.reduceEq, beq_self_eq_true, noHeap]
  refine callK_a (graph_woven l ho hl [] []) ?_
  rintro r h' (⟨h1, rfl, rfl⟩ | ⟨h1, ex, b, tk2, rfl, rfl, hw⟩)
  · rw [past_no (by rw [h1]; rfl)]
    simp only [go_sem, Nat.reduceAdd, Nat.reduceSub, Nat.reduceMul, Nat.reduceLT, Nat.reduceLeDiff, ↓reduceIte, reduceCtorEq, Nat.reduceEqDiff, Int.reduceToNat, Int.reduceLT, Int.reduceLE, Int.reduceEq, beq_self_eq_true]
  · simp only [List.nil_append] at hw ⊢
    simp only [go_sem, Nat.reduceAdd, Nat.reduceSub, Nat.reduceMul, Nat.reduceLT, Nat.reduceLeDiff, ↓reduceIte, reduceCtorEq, Nat.reduceEqDiff, Int.reduceToNat, Int.reduceLT, Int.reduceLE, Int.reduceEq, beq_self_eq_true]
    refine callK_a (web_place l k ex tk2 b hw) ?_
    rintro r h' ⟨rfl, rfl⟩
    cases h2 : placeG l k with
    | false =>
      rw [past_no (by rw [h2, Bool.and_false])]
      simp only [go_sem, Nat.reduceAdd, Nat.reduceSub, Nat.reduceMul, Nat.reduceLT, Nat.reduceLeDiff, ↓reduceIte, reduceCtorEq, Nat.reduceEqDiff, Int.reduceToNat, Int.reduceLT, Int.reduceLE, Int.reduceEq, beq_self_eq_true]
    | true =>
    obtain ⟨a, rfl, ha⟩ := placeG_nat h2
    simp only [go_sem, Nat.reduceAdd, Nat.reduceSub, Nat.reduceMul, Nat.reduceLT, Nat.reduceLeDiff, ↓reduceIte, reduceCtorEq, Nat.reduceEqDiff, Int.reduceToNat, Int.reduceLT, Int.reduceLE, Int.reduceEq, beq_self_eq_true]
    refine callK_a (web_past l hl ex tk2 b a hw ha) ?_
    rintro r h' ⟨M, q, ex2, rfl, rfl, hmb, hwk⟩
    rw [setG_int] at hmb
    simp only [go_sem, Nat.reduceAdd, Nat.reduceSub, Nat.reduceMul, Nat.reduceLT, Nat.reduceLeDiff, ↓reduceIte, reduceCtorEq, Nat.reduceEqDiff, Int.reduceToNat, Int.reduceLT, Int.reduceLE, Int.reduceEq, beq_self_eq_true]
    rw [setLook_g keyIntK (t := 85) rfl rfl hmb i (x := .lit (.int .i64 i)) rfl]
    simp only [go_sem, Nat.reduceAdd, Nat.reduceSub, Nat.reduceMul, Nat.reduceLT, Nat.reduceLeDiff, ↓reduceIte, reduceCtorEq, Nat.reduceEqDiff, Int.reduceToNat, Int.reduceLT, Int.reduceLE, Int.reduceEq, beq_self_eq_true, past_set h1 ha hwk]
set_option maxRecDepth 8000 in
set_option maxHeartbeats 1000000 in
theorem graph_apart (l : List TxR) (ho : TxsOk l) (hl : l.length < 100000000) (i k : Int) : PSpec Try.prog CT 23 [txsD l, .lit (.int .i64 i), .lit (.int .i64 k)] (· = .bool (apartG l i k)) := by
  refine ASpec.of hT Try.func23 rfl (by kernel_rfl) rfl rfl ?_
  simp only [Try.f23, go_sem, Nat.reduceAdd, Nat.reduceSub, Nat.reduceMul, Nat.reduceLT, Nat.reduceLeDiff, ↓reduceIte, reduceCtorEq, Nat.reduceEqDiff, Int.reduceToNat, Int.reduceLT, Int.reduceLE, Int.reduceEq, beq_self_eq_true, noHeap]
  refine callK_a (graph_woven l ho hl [] []) ?_
  rintro r h' (⟨h1, rfl, rfl⟩ | ⟨h1, ex, b, tk2, rfl, rfl, hw⟩)
  · rw [apartG, h1]
    simp only [go_sem, Nat.reduceAdd, Nat.reduceSub, Nat.reduceMul, Nat.reduceLT, Nat.reduceLeDiff, ↓reduceIte, reduceCtorEq, Nat.reduceEqDiff, Int.reduceToNat, Int.reduceLT, Int.reduceLE, Int.reduceEq, beq_self_eq_true, Bool.false_and]
  · simp only [List.nil_append] at hw ⊢
    rw [apartG, h1]
    simp only [go_sem, Nat.reduceAdd, Nat.reduceSub, Nat.reduceMul, Nat.reduceLT, Nat.reduceLeDiff, ↓reduceIte, reduceCtorEq, Nat.reduceEqDiff, Int.reduceToNat, Int.reduceLT, Int.reduceLE, Int.reduceEq, beq_self_eq_true, Bool.true_and]
    by_cases h0 : i = k
    · subst h0
      simp only [go_sem, Nat.reduceAdd, Nat.reduceSub, Nat.reduceMul, Nat.reduceLT, Nat.reduceLeDiff, ↓reduceIte, reduceCtorEq, Nat.reduceEqDiff, Int.reduceToNat, Int.reduceLT, Int.reduceLE, Int.reduceEq, beq_self_eq_true, decide_true, Bool.not_true, Bool.and_false, Bool.false_and]
    · have h0' : decide (i = k) = false := decide_eq_false h0
      simp only [go_sem, Nat.reduceAdd, Nat.reduceSub, Nat.reduceMul, Nat.reduceLT, Nat.reduceLeDiff, ↓reduceIte, reduceCtorEq, Nat.reduceEqDiff, Int.reduceToNat, Int.reduceLT, Int.reduceLE, Int.reduceEq, beq_self_eq_true, h0', Bool.not_false, Bool.and_true]
      refine callK_a (web_place l i ex tk2 b hw) ?_
      rintro r h' ⟨rfl, rfl⟩
      cases h2 : placeG l i with
      | false => simp only [go_sem, Nat.reduceAdd, Nat.reduceSub, Nat.reduceMul, Nat.reduceLT, Nat.reduceLeDiff, ↓reduceIte, reduceCtorEq, Nat.reduceEqDiff, Int.reduceToNat, Int.reduceLT, Int.reduceLE, Int.reduceEq, beq_self_eq_true, Bool.false_and]
      | true =>
      simp only [go_sem, Nat.reduceAdd, Nat.reduceSub, Nat.reduceMul, Nat.reduceLT, Nat.reduceLeDiff, ↓reduceIte, reduceCtorEq, Nat.reduceEqDiff, Int.reduceToNat, Int.reduceLT, Int.reduceLE, Int.reduceEq, beq_self_eq_true, Bool.true_and]
      refine callK_a (web_place l k ex tk2 b hw) ?_
      rintro r h' ⟨rfl, rfl⟩
      cases h3 : placeG l k with
      | false => simp only [go_sem, Nat.reduceAdd, Nat.reduceSub, Nat.reduceMul, Nat.reduceLT, Nat.reduceLeDiff, ↓reduceIte, reduceCtorEq, Nat.reduceEqDiff, Int.reduceToNat, Int.reduceLT, Int.reduceLE, Int.reduceEq, beq_self_eq_true, Bool.false_and]
      | true =>
      obtain ⟨a, rfl, ha⟩ := placeG_nat h2
      obtain ⟨c, rfl, hc⟩ := placeG_nat h3
      simp only [go_sem, Nat.reduceAdd, Nat.reduceSub, Nat.reduceMul, Nat.reduceLT, Nat.reduceLeDiff, ↓reduceIte, reduceCtorEq, Nat.reduceEqDiff, Int.reduceToNat, Int.reduceLT, Int.reduceLE, Int.reduceEq, beq_self_eq_true, Bool.true_and]
      refine callK_a (web_past l hl ex tk2 b a hw ha) ?_
      rintro r h' ⟨M, q, ex2, rfl, rfl, hmb, hwk⟩
      rw [setG_int] at hmb
      have hw2 : WebAt l (ex ++ ex2) b := web_more hw
      generalize ex ++ ex2 = B at *
      simp only [go_sem, Nat.reduceAdd, Nat.reduceSub, Nat.reduceMul, Nat.reduceLT, Nat.reduceLeDiff, ↓reduceIte, reduceCtorEq, Nat.reduceEqDiff, Int.reduceToNat, Int.reduceLT, Int.reduceLE, Int.reduceEq, beq_self_eq_true]
      rw [setLook_g keyIntK (t := 85) rfl rfl hmb c (x := .lit (.int .i64 c)) rfl]
      simp only [go_sem, Nat.reduceAdd, Nat.reduceSub, Nat.reduceMul, Nat.reduceLT, Nat.reduceLeDiff, ↓reduceIte, reduceCtorEq, Nat.reduceEqDiff, Int.reduceToNat, Int.reduceLT, Int.reduceLE, Int.reduceEq, beq_self_eq_true, past_set h1 ha hwk]
      cases h4 : aheadG l c a with
      | true => simp only [go_sem, Nat.reduceAdd, Nat.reduceSub, Nat.reduceMul, Nat.reduceLT, Nat.reduceLeDiff, ↓reduceIte, reduceCtorEq, Nat.reduceEqDiff, Int.reduceToNat, Int.reduceLT, Int.reduceLE, Int.reduceEq, beq_self_eq_true, Bool.not_true, Bool.and_false]
      | false =>
      simp only [go_sem, Nat.reduceAdd, Nat.reduceSub, Nat.reduceMul, Nat.reduceLT, Nat.reduceLeDiff, ↓reduceIte, reduceCtorEq, Nat.reduceEqDiff, Int.reduceToNat, Int.reduceLT, Int.reduceLE, Int.reduceEq, beq_self_eq_true, Bool.not_false, Bool.and_true]
      refine callK_a (web_past l hl B tk2 b c hw2 hc) ?_
      rintro r h' ⟨M2, q2, ex3, rfl, rfl, hmb2, hwk2⟩
      rw [setG_int] at hmb2
      simp only [go_sem, Nat.reduceAdd, Nat.reduceSub, Nat.reduceMul, Nat.reduceLT, Nat.reduceLeDiff, ↓reduceIte, reduceCtorEq, Nat.reduceEqDiff, Int.reduceToNat, Int.reduceLT, Int.reduceLE, Int.reduceEq, beq_self_eq_true]
      rw [setLook_g keyIntK (t := 85) rfl rfl hmb2 a (x := .lit (.int .i64 a)) rfl]
      simp only [go_sem, Nat.reduceAdd, Nat.reduceSub, Nat.reduceMul, Nat.reduceLT, Nat.reduceLeDiff, ↓reduceIte, reduceCtorEq, Nat.reduceEqDiff, Int.reduceToNat, Int.reduceLT, Int.reduceLE, Int.reduceEq, beq_self_eq_true, past_set h1 hc hwk2]
end Go.Ab
set_option linter.unusedSimpArgs false
namespace Go.Ab
open Go.Proofs

/-- Which places are met in the first rows. -/
def SeenIn (l : List TxR) (a j : Nat) (M : List Nat) : Prop := ∀ k, k ∈ M ↔ (∃ i, i < a ∧ k ∈ intoG l i) ∨ k ∈ (intoG l a).take j
theorem seen_all {l : List TxR} {M : List Nat} (h : SeenIn l l.length 0 M) {k : Nat} (hk : k < l.length) : decide (k ∈ M) = seenG l k := by
  rw [seenG, Bool.eq_iff_iff, decide_eq_true_eq, h k, List.any_eq_true]
  constructor
  · rintro (⟨i, hi, hm⟩ | hm)
    · simp only [intoG, List.mem_filter, List.mem_range] at hm
      exact ⟨i, List.mem_range.2 hi, hm.2⟩
    · simp at hm
  · rintro ⟨i, hi, hm⟩
    exact .inl ⟨i, List.mem_range.1 hi, List.mem_filter.2 ⟨List.mem_range.2 hk, hm⟩⟩
theorem seen_next {l : List TxR} {a : Nat} {M : List Nat} (h : SeenIn l a (intoG l a).length M) : SeenIn l (a + 1) 0 M := fun k => by
  rw [h k, List.take_length, List.take_zero]
  constructor
  · rintro (⟨i, hi, hm⟩ | hm)
    · exact .inl ⟨i, by omega, hm⟩
    · exact .inl ⟨a, by omega, hm⟩
  · rintro (⟨i, hi, hm⟩ | hm)
    · by_cases e : i = a
      · subst e; exact .inr hm
      · exact .inl ⟨i, by omega, hm⟩
    · simp at hm
theorem take_nat {L : List Nat} {j : Nat} (hj : j < L.length) : L.take (j + 1) = L.take j ++ [L.getD j 0] := by
  rw [List.take_add_one, List.getElem?_eq_getElem hj, List.getD_eq_getElem?_getD, List.getElem?_eq_getElem hj]; rfl
theorem seen_put {l : List TxR} {a j : Nat} {M M' : List Nat} (hj : j < (intoG l a).length) (h : SeenIn l a j M) (hm : ∀ k, k ∈ M' ↔ k ∈ M ∨ k = (intoG l a).getD j 0) : SeenIn l a (j + 1) M' := fun k => by
  rw [hm, h k, take_nat hj]
  simp only [List.mem_append, List.mem_singleton]
  exact or_assoc
set_option maxRecDepth 8000 in
set_option maxHeartbeats 1000000 in
theorem graph_heads (l : List TxR) (ho : TxsOk l) (hl : l.length < 100000000) : PSpec Try.prog CT 25 [txsD l] (· = intsL (natI (headsG l)) .no) := by
  refine PSpec.freeze (R := fun r h' => ∃ u, r = intsL (natI (headsG l)) u) ?_ (by rintro r h' ⟨u, rfl⟩; exact .inl ⟨trivial, rfl⟩)
  refine ASpec.of hT Try.func25 rfl (by kernel_rfl) rfl rfl ?_
  simp only [Try.f25, go_sem, Nat.reduceAdd, Nat.reduceSub, Nat.reduceMul, Nat.reduceLT, Nat.reduceLeDiff, ↓reduceIte, reduceCtorEq, Nat.reduceEqDiff, Int.reduceToNat, Int.reduceLT, Int.reduceLE, Int.reduceEq, beq_self_eq_true, noHeap]
  refine callK_a (graph_woven l ho hl [] []) ?_
  rintro r h' (⟨h1, rfl, rfl⟩ | ⟨h1, ex, b, tk2, rfl, rfl, hw⟩)
  · have e : headsG l = [] := by rw [headsG, h1]; rfl
    simp only [go_sem, Nat.reduceAdd, Nat.reduceSub, Nat.reduceMul, Nat.reduceLT, Nat.reduceLeDiff, ↓reduceIte, reduceCtorEq, Nat.reduceEqDiff, Int.reduceToNat, Int.reduceLT, Int.reduceLE, Int.reduceEq, beq_self_eq_true]
    rw [e]
    exact ⟨_, rfl⟩
  · have e : headsG l = (List.range l.length).filter fun i => !seenG l i := by rw [headsG, h1]; rfl
    have hl2 : l.length ≤ 4096 := by simp only [checkG, Bool.and_eq_true, decide_eq_true_eq] at h1; exact h1.1
    have hK := keyNat
    simp only [List.nil_append] at hw ⊢
    simp only [go_sem, Nat.reduceAdd, Nat.reduceSub, Nat.reduceMul, Nat.reduceLT, Nat.reduceLeDiff, ↓reduceIte, reduceCtorEq, Nat.reduceEqDiff, Int.reduceToNat, Int.reduceLT, Int.reduceLE, Int.reduceEq, beq_self_eq_true]
    refine ⟨isMap_ok rfl, ?_⟩
    obtain ⟨c, L, k1, k2, k3, k4⟩ := hw
    have hcl := (List.getElem?_eq_some_iff.1 k2).1
    have hbl := (List.getElem?_eq_some_iff.1 k1).1
    have g1 : ∀ y, (ex ++ [y])[b]? = some (webSh, webD l c) := fun y => by rw [List.getElem?_append_left hbl]; exact k1
    have g2 : ∀ y, (ex ++ [y])[c]? = some (.arr l.length .leaf, .agg L) := fun y => by rw [List.getElem?_append_left hcl]; exact k2
    have g3 : ∀ y, (ex ++ [y])[ex.length]? = some y := fun y => by simp
    have hset : ∀ y z, (ex ++ [y]).set ex.length z = ex ++ [z] := fun y z => by simp
    simp only [go_sem, Nat.reduceAdd, Nat.reduceSub, Nat.reduceMul, Nat.reduceLT, Nat.reduceLeDiff, ↓reduceIte, reduceCtorEq, Nat.reduceEqDiff, Int.reduceToNat, Int.reduceLT, Int.reduceLE, Int.reduceEq, beq_self_eq_true, nil_ptr, g1]
    refine awp_loop (fun n s => ∃ (i : Nat) (M : List Nat) (q : Nat) (x : List (Sh × D)) (g : Nat → D), s = ⟨[txsD l, g 1, g 2, g 3, g 4, .mref ex.length, g 6, g 7, g 8, g 9, g 10, g 11, g 12, g 13, g 14, g 15, g 16, g 17, g 18, g 19, g 20, g 21, g 22, .sl 25 c 0 l.length l.length, .lit (.int .i64 l.length), .lit (.int .i64 i), g 26, g 27, g 28, g 29, g 30, g 31, g 32, g 33, g 34, g 35, g 36, g 37, g 38, g 39, g 40, g 41, g 42, g 43, g 44, g 45, g 46, g 47, g 48, g 49, g 50, g 51, g 52, g 53], ⟨x, tk2⟩⟩ ∧ n = l.length - i ∧ i ≤ l.length ∧ x = ex ++ [(.obj 1, setG natK M q)] ∧ SeenIn l i 0 M) l.length ⟨0, [], 0, _, reg_intro rfl rfl ⟨by simp, by omega, rfl, fun k => by simp⟩⟩ ?_
    rintro n st ⟨i, M, q, x, g, rfl, hn, hi, hx, hsn⟩
    subst hx
    simp only [go_sem, Nat.reduceAdd, Nat.reduceSub, Nat.reduceMul, Nat.reduceLT, Nat.reduceLeDiff, ↓reduceIte, reduceCtorEq, Nat.reduceEqDiff, Int.reduceToNat, Int.reduceLT, Int.reduceLE, Int.reduceEq, beq_self_eq_true]
    refine condK_split (fun hc => ?_) (fun hc => ?_)
    · have hi' : i < l.length := by have := of_decide_eq_true hc; omega
      obtain ⟨t, hrow⟩ := k4 i hi'
      have hrl : (intoG l i).length ≤ l.length := by have := List.length_filter_le (fun k => leadG l k i) (List.range l.length); simpa [intoG] using this
      simp only [go_sem, Nat.reduceAdd, Nat.reduceSub, Nat.reduceMul, Nat.reduceLT, Nat.reduceLeDiff, ↓reduceIte, reduceCtorEq, Nat.reduceEqDiff, Int.reduceToNat, Int.reduceLT, Int.reduceLE, Int.reduceEq, beq_self_eq_true, g2, hi', hrow, indexAddr_sl_t, Nat.zero_add, natI_len]
      refine awp_loop (fun m s => ∃ (j : Nat) (M : List Nat) (q : Nat) (x : List (Sh × D)) (g : Nat → D), s = ⟨[txsD l, g 1, g 2, g 3, g 4, .mref ex.length, g 6, g 7, g 8, g 9, g 10, g 11, g 12, g 13, g 14, g 15, g 16, g 17, g 18, g 19, g 20, g 21, g 22, .sl 25 c 0 l.length l.length, .lit (.int .i64 l.length), .lit (.int .i64 i), g 26, g 27, g 28, intsL (natI (intoG l i)) t, .lit (.int .i64 (intoG l i).length), .lit (.int .i64 j), g 32, g 33, g 34, g 35, g 36, g 37, g 38, g 39, g 40, g 41, g 42, g 43, g 44, g 45, g 46, g 47, g 48, g 49, g 50, g 51, g 52, g 53], ⟨x, tk2⟩⟩ ∧ m = (intoG l i).length - j ∧ j ≤ (intoG l i).length ∧ x = ex ++ [(.obj 1, setG natK M q)] ∧ SeenIn l i j M) (intoG l i).length ⟨0, M, q, _, reg_intro rfl rfl ⟨by simp, by omega, rfl, hsn⟩⟩ ?_
      clear hsn
      rintro m st ⟨j, M, q, x, g, rfl, hm, hj, hx, hsn⟩
      subst hx
      simp only [go_sem, Nat.reduceAdd, Nat.reduceSub, Nat.reduceMul, Nat.reduceLT, Nat.reduceLeDiff, ↓reduceIte, reduceCtorEq, Nat.reduceEqDiff, Int.reduceToNat, Int.reduceLT, Int.reduceLE, Int.reduceEq, beq_self_eq_true]
      refine condK_split (fun hc2 => ?_) (fun hc2 => ?_)
      · have hj' : j < (intoG l i).length := by have := of_decide_eq_true hc2; omega
        obtain ⟨y, hy⟩ : ∃ y, (intoG l i).getD j 0 = y := ⟨_, rfl⟩
        simp only [go_sem, Nat.reduceAdd, Nat.reduceSub, Nat.reduceMul, Nat.reduceLT, Nat.reduceLeDiff, ↓reduceIte, reduceCtorEq, Nat.reduceEqDiff, Int.reduceToNat, Int.reduceLT, Int.reduceLE, Int.reduceEq, beq_self_eq_true, hj', natI_len, get_nat, hy]
        refine setUpd_g hK (e := 4) rfl (g3 _) y rfl ?_
        intro M' q' hcase
        have hmm : ∀ k, k ∈ M' ↔ k ∈ M ∨ k = (intoG l i).getD j 0 := fun k => by
          rw [hy]
          rcases hcase with ⟨h5, rfl, _⟩ | ⟨_, rfl, _⟩
          · constructor
            · exact .inl
            · rintro (h | rfl)
              · exact h
              · exact h5
          · simp
        simp only [go_sem, Nat.reduceAdd, Nat.reduceSub, Nat.reduceMul, Nat.reduceLT, Nat.reduceLeDiff, ↓reduceIte, reduceCtorEq, Nat.reduceEqDiff, Int.reduceToNat, Int.reduceLT, Int.reduceLE, Int.reduceEq, beq_self_eq_true, hset, wrapNat j (by omega)]
        exact ⟨(intoG l i).length - (j + 1), by omega, j + 1, M', q', _, reg_intro rfl rfl ⟨rfl, by omega, rfl, seen_put hj' hsn hmm⟩⟩
      · have hi3 := of_decide_eq_false hc2
        obtain rfl : j = (intoG l i).length := by omega
        simp only [go_sem, Nat.reduceAdd, Nat.reduceSub, Nat.reduceMul, Nat.reduceLT, Nat.reduceLeDiff, ↓reduceIte, reduceCtorEq, Nat.reduceEqDiff, Int.reduceToNat, Int.reduceLT, Int.reduceLE, Int.reduceEq, beq_self_eq_true, wrapNat i (by omega)]
        exact ⟨l.length - (i + 1), by omega, i + 1, M, q, _, reg_intro rfl rfl ⟨rfl, by omega, rfl, seen_next hsn⟩⟩
    · have hi2 := of_decide_eq_false hc
      obtain rfl : i = l.length := by omega
      simp only [go_sem, Nat.reduceAdd, Nat.reduceSub, Nat.reduceMul, Nat.reduceLT, Nat.reduceLeDiff, ↓reduceIte, reduceCtorEq, Nat.reduceEqDiff, Int.reduceToNat, Int.reduceLT, Int.reduceLE, Int.reduceEq, beq_self_eq_true]
      rw [e]
      refine awp_loop (fun m s => ∃ (p : Nat) (u : Tok) (tk : List Bool) (g : Nat → D), s = ⟨[txsD l, g 1, g 2, g 3, g 4, .mref ex.length, g 6, g 7, g 8, g 9, intsL (natI ((List.range p).filter fun i => !seenG l i)) u, g 11, g 12, g 13, g 14, g 15, g 16, g 17, g 18, g 19, g 20, g 21, g 22, g 23, g 24, g 25, g 26, g 27, g 28, g 29, g 30, g 31, g 32, g 33, g 34, g 35, g 36, g 37, g 38, txsD l, .lit (.int .i64 l.length), .lit (.int .i64 p), g 42, g 43, g 44, g 45, g 46, g 47, g 48, g 49, g 50, g 51, g 52, g 53], ⟨ex ++ [(.obj 1, setG natK M q)], tk2 ++ tk⟩⟩ ∧ m = l.length - p ∧ p ≤ l.length ∧ liveH u tk2 tk) l.length ⟨0, .full, [], by rw [List.append_nil]; exact reg_intro rfl rfl ⟨by simp, by omega, trivial, trivial⟩⟩ ?_
      rintro m st ⟨p, u, tk, g, rfl, hm, hp, hu⟩
      simp only [go_sem, Nat.reduceAdd, Nat.reduceSub, Nat.reduceMul, Nat.reduceLT, Nat.reduceLeDiff, ↓reduceIte, reduceCtorEq, Nat.reduceEqDiff, Int.reduceToNat, Int.reduceLT, Int.reduceLE, Int.reduceEq, beq_self_eq_true]
      refine condK_split (fun hc2 => ?_) (fun hc2 => ?_)
      · have hp' : p < l.length := by have := of_decide_eq_true hc2; omega
        have hsnoc := heads_snoc l p
        have hfl : ((List.range p).filter fun i => !seenG l i).length ≤ p := by have := List.length_filter_le (fun i => !seenG l i) (List.range p); simpa using this
        simp only [go_sem, Nat.reduceAdd, Nat.reduceSub, Nat.reduceMul, Nat.reduceLT, Nat.reduceLeDiff, ↓reduceIte, reduceCtorEq, Nat.reduceEqDiff, Int.reduceToNat, Int.reduceLT, Int.reduceLE, Int.reduceEq, beq_self_eq_true]
        rw [setLook_g hK (t := 85) rfl rfl (g3 _) p (x := .lit (.int .i64 p)) rfl]
        simp only [go_sem, Nat.reduceAdd, Nat.reduceSub, Nat.reduceMul, Nat.reduceLT, Nat.reduceLeDiff, ↓reduceIte, reduceCtorEq, Nat.reduceEqDiff, Int.reduceToNat, Int.reduceLT, Int.reduceLE, Int.reduceEq, beq_self_eq_true, seen_all hsn hp']
        cases h5 : seenG l p with
        | true =>
          rw [h5, if_pos rfl, List.append_nil] at hsnoc
          simp only [go_sem, Nat.reduceAdd, Nat.reduceSub, Nat.reduceMul, Nat.reduceLT, Nat.reduceLeDiff, ↓reduceIte, reduceCtorEq, Nat.reduceEqDiff, Int.reduceToNat, Int.reduceLT, Int.reduceLE, Int.reduceEq, beq_self_eq_true, Bool.not_true, wrapNat p (by omega)]
          exact ⟨l.length - (p + 1), by omega, p + 1, u, tk, by rw [hsnoc]; exact reg_intro rfl rfl ⟨rfl, by omega, hu⟩⟩
        | false =>
          rw [h5, if_neg (by simp)] at hsnoc
          simp only [go_sem, Nat.reduceAdd, Nat.reduceSub, Nat.reduceMul, Nat.reduceLT, Nat.reduceLeDiff, ↓reduceIte, reduceCtorEq, Nat.reduceEqDiff, Int.reduceToNat, Int.reduceLT, Int.reduceLE, Int.reduceEq, beq_self_eq_true, Bool.not_false]
          refine appK_liveH _ _ _ _ _ _ _ _ hu (by simp) (by simp only [go_sem, Nat.reduceAdd, Nat.reduceSub, Nat.reduceMul, Nat.reduceLT, Nat.reduceLeDiff, ↓reduceIte, reduceCtorEq, Nat.reduceEqDiff, Int.reduceToNat, Int.reduceLT, Int.reduceLE, Int.reduceEq, beq_self_eq_true]) (by simp only [go_sem, Nat.reduceAdd, Nat.reduceSub, Nat.reduceMul, Nat.reduceLT, Nat.reduceLeDiff, ↓reduceIte, reduceCtorEq, Nat.reduceEqDiff, Int.reduceToNat, Int.reduceLT, Int.reduceLE, Int.reduceEq, beq_self_eq_true, natI_len, List.length_singleton]; omega) (fun u' tk' hu' => ?_)
          simp only [go_sem, Nat.reduceAdd, Nat.reduceSub, Nat.reduceMul, Nat.reduceLT, Nat.reduceLeDiff, ↓reduceIte, reduceCtorEq, Nat.reduceEqDiff, Int.reduceToNat, Int.reduceLT, Int.reduceLE, Int.reduceEq, beq_self_eq_true, wrapNat p (by omega), ints_snoc, natI_snoc]
          exact ⟨l.length - (p + 1), by omega, p + 1, u', tk', by rw [hsnoc]; exact reg_intro rfl rfl ⟨rfl, by omega, hu'⟩⟩
      · have hi3 := of_decide_eq_false hc2
        obtain rfl : p = l.length := by omega
        simp only [go_sem, Nat.reduceAdd, Nat.reduceSub, Nat.reduceMul, Nat.reduceLT, Nat.reduceLeDiff, ↓reduceIte, reduceCtorEq, Nat.reduceEqDiff, Int.reduceToNat, Int.reduceLT, Int.reduceLE, Int.reduceEq, beq_self_eq_true]
        exact ⟨u, rfl⟩
end Go.Ab
