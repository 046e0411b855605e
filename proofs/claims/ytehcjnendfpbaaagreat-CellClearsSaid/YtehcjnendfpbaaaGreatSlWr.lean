/- Slices of writes: which is the first such one; a copy; some are taken out; one is put in. Conditions: none. -/
import Derived.Test.YtehcjnendfpbaaaGreatReA
open Nat (reduceAdd reduceSub reduceMul reduceLT reduceLeDiff reduceEqDiff)
open Int (reduceToNat reduceLE reduceEq)
set_option linter.unusedSimpArgs false
namespace Go.Ab
open Go.Proofs

abbrev rows_wr (l : List WriteR) (t : Tok) : D := .lst 64 (l.map wrD) t
theorem sh_wr : CT.sh 64 = (.pair (.pair (.pair .leaf (.pair .leaf .unit)) (.pair .leaf .unit)) (.pair .leaf (.pair .leaf .unit))) := rfl
theorem bytes_wr : CT.bytes 64 = 48 := rfl
theorem pureL_wr (l : List WriteR) : pureL (l.map wrD) = True := pureL_map _ _ fun _ => by simp [pureD, pureL]
theorem pure_wr (l : List WriteR) : pureL (l.map wrD) := of_eq_true (pureL_wr l)
set_option maxRecDepth 8000 in
theorem indexFunc_wr {f : FuncId} {caps : List D} {p : WriteR → Bool} (l : List WriteR) (t : Tok) (hl : l.length < 4000000000) (bs : List (Sh × D)) (hp : PredF f caps wrD p bs) :
    HSpec Tryz.prog CT 141 [rows_wr l t, .fn (.func f) caps] bs fun r b' => r = .lit (.int .i64 (idxF p l)) ∧ b' = bs := by
  refine HSpec.of hT Tryz.func141 rfl (by kernel_rfl) rfl rfl fun tk => ?_
  simp only [Tryz.f141, go_sem, reduceAdd, reduceSub, reduceMul, reduceLT, reduceLeDiff, ↓reduceIte, reduceCtorEq, reduceEqDiff, reduceToNat, Int.reduceLT, reduceLE, reduceEq]
  refine awp_loop (fun n s => ∃ (k : Nat) (g : Nat → D), s = ⟨[rows_wr l t, .fn (.func f) caps, g 2, g 3, g 4, g 5, g 6, .lit (.int .i64 l.length), .lit (.int .i64 k), g 9, g 10, g 11, g 12, g 13, g 14, g 15, g 16, g 17, g 18], ⟨bs, tk⟩⟩ ∧ n = l.length - k ∧ k ≤ l.length ∧ ∀ q, q < k → p (l.getD q default) = false) l.length ⟨0, reg_intro rfl rfl ⟨by simp, by omega, by simp⟩⟩ ?_
  rintro n s ⟨k, g, rfl, hn, hk, h0⟩
  simp only [go_sem, reduceAdd, reduceSub, reduceMul, reduceLT, reduceLeDiff, ↓reduceIte, reduceCtorEq, reduceEqDiff, reduceToNat, Int.reduceLT, reduceLE, reduceEq]
  refine condK_split (fun hc => ?_) (fun hc => ?_)
  · have hk' : k < l.length := by have := of_decide_eq_true hc; omega
    simp only [go_sem, reduceAdd, reduceSub, reduceMul, reduceLT, reduceLeDiff, ↓reduceIte, reduceCtorEq, reduceEqDiff, reduceToNat, Int.reduceLT, reduceLE, reduceEq, hk', get_enc]
    refine callK_h (hp (l.getD k default) bs fun _ _ => rfl) ?_
    rintro r b' ⟨rfl, rfl⟩
    simp only [go_sem, reduceAdd, reduceSub, reduceMul, reduceLT, reduceLeDiff, ↓reduceIte, reduceCtorEq, reduceEqDiff, reduceToNat, Int.reduceLT, reduceLE, reduceEq]
    refine condK_split (fun h1 => ?_) (fun h1 => ?_)
    · simp only [go_sem, reduceAdd, reduceSub, reduceMul, reduceLT, reduceLeDiff, ↓reduceIte, reduceCtorEq, reduceEqDiff, reduceToNat, Int.reduceLT, reduceLE, reduceEq]
      exact finH_lit ⟨by rw [idxF_at hk' h0 h1], rfl⟩
    · simp only [go_sem, reduceAdd, reduceSub, reduceMul, reduceLT, reduceLeDiff, ↓reduceIte, reduceCtorEq, reduceEqDiff, reduceToNat, Int.reduceLT, reduceLE, reduceEq, wrapNat k (by omega)]
      refine ⟨l.length - (k + 1), by omega, k + 1, reg_intro rfl rfl ⟨rfl, by omega, fun q hq => ?_⟩⟩
      by_cases e : q = k
      · subst e; exact h1
      · exact h0 q (by omega)
  · have hi := of_decide_eq_false hc
    obtain rfl : k = l.length := by omega
    simp only [go_sem, reduceAdd, reduceSub, reduceMul, reduceLT, reduceLeDiff, ↓reduceIte, reduceCtorEq, reduceEqDiff, reduceToNat, Int.reduceLT, reduceLE, reduceEq]
    exact finH_lit ⟨by rw [idxF_none h0], rfl⟩
theorem containsFunc_wr {f : FuncId} {caps : List D} {p : WriteR → Bool} (l : List WriteR) (t : Tok) (hl : l.length < 4000000000) (bs : List (Sh × D)) (hp : PredF f caps wrD p bs) :
    HSpec Tryz.prog CT 136 [rows_wr l t, .fn (.func f) caps] bs fun r b' => r = .bool (l.any p) ∧ b' = bs := by
  refine HSpec.of hT Tryz.func136 rfl (by kernel_rfl) rfl rfl fun tk => ?_
  simp only [Tryz.f136, go_sem, reduceAdd, reduceSub, reduceMul, reduceLT, reduceLeDiff, ↓reduceIte, reduceCtorEq, reduceEqDiff, reduceToNat, Int.reduceLT, reduceLE, reduceEq]
  refine callK_h (indexFunc_wr l t hl bs hp) ?_
  rintro r b' ⟨rfl, rfl⟩
  simp only [go_sem, reduceAdd, reduceSub, reduceMul, reduceLT, reduceLeDiff, ↓reduceIte, reduceCtorEq, reduceEqDiff, reduceToNat, Int.reduceLT, reduceLE, reduceEq, idxF_ge]
  exact finH_lit ⟨rfl, rfl⟩
theorem clone_wr (l : List WriteR) (t : Tok) (hl : l.length < 1000000000) (bs : List (Sh × D)) (tk : List Bool) :
    ASpec Tryz.prog CT 134 [rows_wr l t] ⟨bs, tk⟩ fun r h' => ∃ ex, h' = ⟨bs ++ ex, tk⟩ ∧ OutL 64 bs.length r ex (l.map wrD) := by
  refine ASpec.of hT Tryz.func134 rfl (by kernel_rfl) rfl rfl ?_
  simp only [Tryz.f134, go_sem, reduceAdd, reduceSub, reduceMul, reduceLT, reduceLeDiff, ↓reduceIte, reduceCtorEq, reduceEqDiff, reduceToNat, Int.reduceLT, reduceLE, reduceEq]
  refine aop_nilcmp _ _ _ _ _ _ _ _ _ _ _ _ ⟨⟨_, rfl⟩, .inl rfl, rfl, ?_⟩
  intro b hb
  simp only [go_sem, reduceAdd, reduceSub, reduceMul, reduceLT, reduceLeDiff, ↓reduceIte, reduceCtorEq, reduceEqDiff, reduceToNat, Int.reduceLT, reduceLE, reduceEq]
  refine condK_split (fun h1 => ?_) (fun h1 => ?_)
  · have hl0 : l = [] := by have := hb h1; simpa using this
    subst hl0
    simp only [go_sem, reduceAdd, reduceSub, reduceMul, reduceLT, reduceLeDiff, ↓reduceIte, reduceCtorEq, reduceEqDiff, reduceToNat, Int.reduceLT, reduceLE, reduceEq]
    exact ⟨[], by simp, .inl ⟨rfl, rfl, rfl⟩⟩
  · simp only [go_sem, reduceAdd, reduceSub, reduceMul, reduceLT, reduceLeDiff, ↓reduceIte, reduceCtorEq, reduceEqDiff, reduceToNat, Int.reduceLT, reduceLE, reduceEq]
    by_cases hl0 : l = []
    · subst hl0
      refine appK_mut _ _ _ 64 _ _ _ _ ⟨[], [], rfl, rfl, by rw [bytes_wr]; omega, by rw [bytes_wr]; simp, trivial, fun _ => ?_, (by intro b lo n c N s L h; cases h), fun _ h => absurd rfl h⟩
      simp only [go_sem, reduceAdd, reduceSub, reduceMul, reduceLT, reduceLeDiff, ↓reduceIte, reduceCtorEq, reduceEqDiff, reduceToNat, Int.reduceLT, reduceLE, reduceEq]
      exact ⟨[], by simp, .inl ⟨rfl, rfl, rfl⟩⟩
    · refine appK_mut _ _ _ 64 _ _ _ _ ⟨[], l.map wrD, rfl, rfl, by rw [bytes_wr]; omega, by rw [bytes_wr]; simp; omega, trivial, fun h => absurd h (by simpa using hl0), (by intro b lo n c N s L h; cases h), fun _ _ N h1 h2 => ?_⟩
      simp only [go_sem, reduceAdd, reduceSub, reduceMul, reduceLT, reduceLeDiff, ↓reduceIte, reduceCtorEq, reduceEqDiff, reduceToNat, Int.reduceLT, reduceLE, reduceEq, List.length_nil, Nat.zero_add, List.nil_append, Heap.var]
      simp only [List.length_nil, Nat.zero_add] at h1
      refine ⟨_, rfl, .inr ⟨0, N, l.map wrD ++ List.replicate (N - l.length) (CT.zero 64), by simp, rfl, by simp at h1 ⊢; omega, h1, h2, by simp, ?_⟩⟩
      intro N' s' L' hm
      simp only [List.mem_singleton, Prod.mk.injEq, D.agg.injEq] at hm
      obtain ⟨_, rfl⟩ := hm
      exact pureL_app (pure_wr l) (pure_rep _ _ (by simp [zero64, pureD, pureL]))
theorem sl_at_wr {l : List WriteR} {L : List D} (h : L.take l.length = l.map wrD) {k : Nat} (hk : k < l.length) : L[k]? = some (wrD (l.getD k default)) := by
  have h1 : (L.take l.length)[k]? = L[k]? := by rw [List.getElem?_take, if_pos hk]
  rw [← h1, h]
  simp [hk]
set_option maxRecDepth 8000 in
theorem indexSl_wr {f : FuncId} {caps : List D} {p : WriteR → Bool} (l : List WriteR) (hl : l.length < 1000000000) (bs base : List (Sh × D)) (hpre : ∀ i, i < base.length → bs[i]? = base[i]?) (hp : PredF f caps wrD p base) {b N : Nat} {L : List D}
    (hb : bs[b]? = some (.arr N (CT.sh 64), .agg L)) (hL : L.length = N) (hlN : l.length ≤ N) (hlL : L.take l.length = l.map wrD) :
    HSpec Tryz.prog CT 141 [.sl 64 b 0 l.length N, .fn (.func f) caps] bs fun r b' => r = .lit (.int .i64 (idxF p l)) ∧ b' = bs := by
  refine HSpec.of hT Tryz.func141 rfl (by kernel_rfl) rfl rfl fun tk => ?_
  simp only [Tryz.f141, go_sem, reduceAdd, reduceSub, reduceMul, reduceLT, reduceLeDiff, ↓reduceIte, reduceCtorEq, reduceEqDiff, reduceToNat, Int.reduceLT, reduceLE, reduceEq]
  refine awp_loop (fun n s => ∃ (k : Nat) (g : Nat → D), s = ⟨[.sl 64 b 0 l.length N, .fn (.func f) caps, g 2, g 3, g 4, g 5, g 6, .lit (.int .i64 l.length), .lit (.int .i64 k), g 9, g 10, g 11, g 12, g 13, g 14, g 15, g 16, g 17, g 18], ⟨bs, tk⟩⟩ ∧ n = l.length - k ∧ k ≤ l.length ∧ ∀ q, q < k → p (l.getD q default) = false) l.length ⟨0, reg_intro rfl rfl ⟨by simp, by omega, by simp⟩⟩ ?_
  rintro n s ⟨k, g, rfl, hn, hk, h0⟩
  simp only [go_sem, reduceAdd, reduceSub, reduceMul, reduceLT, reduceLeDiff, ↓reduceIte, reduceCtorEq, reduceEqDiff, reduceToNat, Int.reduceLT, reduceLE, reduceEq]
  refine condK_split (fun hc => ?_) (fun hc => ?_)
  · have hk' : k < l.length := by have := of_decide_eq_true hc; omega
    have hkN : k < N := by omega
    have hx := sl_at_wr hlL hk'
    rw [sh_wr] at hb
    simp only [go_sem, reduceAdd, reduceSub, reduceMul, reduceLT, reduceLeDiff, ↓reduceIte, reduceCtorEq, reduceEqDiff, reduceToNat, Int.reduceLT, reduceLE, reduceEq, hk', indexAddr_sl_t, hb, hkN, hx, Nat.zero_add]
    refine callK_h (hp (l.getD k default) bs hpre) ?_
    rintro r b' ⟨rfl, rfl⟩
    simp only [go_sem, reduceAdd, reduceSub, reduceMul, reduceLT, reduceLeDiff, ↓reduceIte, reduceCtorEq, reduceEqDiff, reduceToNat, Int.reduceLT, reduceLE, reduceEq]
    refine condK_split (fun h1 => ?_) (fun h1 => ?_)
    · simp only [go_sem, reduceAdd, reduceSub, reduceMul, reduceLT, reduceLeDiff, ↓reduceIte, reduceCtorEq, reduceEqDiff, reduceToNat, Int.reduceLT, reduceLE, reduceEq]
      exact finH_lit ⟨by rw [idxF_at hk' h0 h1], rfl⟩
    · simp only [go_sem, reduceAdd, reduceSub, reduceMul, reduceLT, reduceLeDiff, ↓reduceIte, reduceCtorEq, reduceEqDiff, reduceToNat, Int.reduceLT, reduceLE, reduceEq, wrapNat k (by omega)]
      refine ⟨l.length - (k + 1), by omega, k + 1, reg_intro rfl rfl ⟨rfl, by omega, fun q hq => ?_⟩⟩
      by_cases e : q = k
      · subst e; exact h1
      · exact h0 q (by omega)
  · have hi := of_decide_eq_false hc
    obtain rfl : k = l.length := by omega
    simp only [go_sem, reduceAdd, reduceSub, reduceMul, reduceLT, reduceLeDiff, ↓reduceIte, reduceCtorEq, reduceEqDiff, reduceToNat, Int.reduceLT, reduceLE, reduceEq]
    exact finH_lit ⟨by rw [idxF_none h0], rfl⟩
set_option maxRecDepth 8000 in
set_option maxHeartbeats 1000000 in
theorem del_wr {f : FuncId} {caps : List D} {p : WriteR → Bool} (l : List WriteR) (hl : l.length < 1000000000) (base ex : List (Sh × D)) (hp : PredF f caps wrD p base) {d : D} (ho : OutL 64 base.length d ex (l.map wrD)) :
    HSpec Tryz.prog CT 133 [d, .fn (.func f) caps] (base ++ ex) fun r b' => ∃ ex', b' = base ++ ex' ∧ OutM 64 base.length r ex' ((keptL p l).map wrD) := by
  have hpre : ∀ z i, i < base.length → (base ++ z)[i]? = base[i]? := fun z i hi => by rw [List.getElem?_append_left hi]
  rcases ho with ⟨rfl, h2, rfl⟩ | ⟨jx, N, L, rfl, hj, hL, hlN, hN, hlL, hpu⟩
  · obtain rfl : l = [] := by simpa using h2
    rw [List.append_nil]
    refine HSpec.of hT Tryz.func133 rfl (by kernel_rfl) rfl rfl fun tk => ?_
    simp only [Tryz.f133, go_sem, reduceAdd, reduceSub, reduceMul, reduceLT, reduceLeDiff, ↓reduceIte, reduceCtorEq, reduceEqDiff, reduceToNat, Int.reduceLT, reduceLE, reduceEq]
    refine callK_h (indexFunc_wr (p := p) [] .full (by simp) base hp) ?_
    rintro r b' ⟨rfl, rfl⟩
    simp only [go_sem, reduceAdd, reduceSub, reduceMul, reduceLT, reduceLeDiff, ↓reduceIte, reduceCtorEq, reduceEqDiff, reduceToNat, Int.reduceLT, reduceLE, reduceEq, idxF, List.any_nil, Bool.false_eq_true, decide_true]
    exact finH_keep (by simp) (fun j x h => .inr (.inr h)) (by simp [meltD, lowD]) ⟨[], by simp, .inl ⟨by simp [meltD], rfl, rfl⟩⟩
  · simp only [List.length_map] at hlN hlL ⊢
    have hjl : jx < ex.length := (List.getElem?_eq_some_iff.1 hj).1
    generalize hb : base.length + jx = b
    generalize hbs : base ++ ex = bs
    have hbl : b < bs.length := by rw [← hbs, ← hb]; simp; omega
    have hbx : bs[b]? = some (.arr N (CT.sh 64), .agg L) := by rw [← hbs, ← hb, List.getElem?_append_right (by omega), Nat.add_sub_cancel_left]; exact hj
    have hset : ∀ y, bs.set b y = base ++ ex.set jx y := fun y => by rw [← hbs, ← hb, List.set_append_right _ _ (by omega), Nat.add_sub_cancel_left]
    have hpL : pureL L := hpu _ _ _ (List.mem_of_getElem? hj)
    have hpb : ∀ i, i < base.length → bs[i]? = base[i]? := fun i hi => by rw [← hbs]; exact hpre _ i hi
    refine HSpec.of hT Tryz.func133 rfl (by kernel_rfl) rfl rfl fun tk => ?_
    simp only [Tryz.f133, go_sem, reduceAdd, reduceSub, reduceMul, reduceLT, reduceLeDiff, ↓reduceIte, reduceCtorEq, reduceEqDiff, reduceToNat, Int.reduceLT, reduceLE, reduceEq]
    refine callK_h (indexSl_wr l hl bs base hpb hp hbx hL hlN hlL) ?_
    rintro r b' ⟨rfl, rfl⟩
    simp only [go_sem, reduceAdd, reduceSub, reduceMul, reduceLT, reduceLeDiff, ↓reduceIte, reduceCtorEq, reduceEqDiff, reduceToNat, Int.reduceLT, reduceLE, reduceEq]
    refine condK_split (fun h1 => ?_) (fun h1 => ?_)
    · have hany : l.any p = false := by
        have := of_decide_eq_true h1
        unfold idxF at this
        split at this
        · omega
        · rename_i h; simpa using h
      simp only [go_sem, reduceAdd, reduceSub, reduceMul, reduceLT, reduceLeDiff, ↓reduceIte, reduceCtorEq, reduceEqDiff, reduceToNat, Int.reduceLT, reduceLE, reduceEq]
      have e1 : meltD b' b'.length (.sl 64 b 0 l.length N) = .sl 64 b 0 l.length N := by simp only [meltD]; rw [if_neg (by omega)]
      refine finH_keep (by omega) (fun j x h => .inr (.inr h)) (by rw [e1]; exact hbl) ?_
      rw [e1, kept_none hany]
      exact ⟨ex, hbs.symm, .inr ⟨jx, N, L, by rw [hb, List.length_map], hj, hL, by simpa using hlN, hN, by simpa using hlL, hpu⟩⟩
    · have hany : l.any p = true := by
        have := of_decide_eq_false h1
        unfold idxF at this
        cases h : l.any p with
        | true => rfl
        | false => rw [h] at this; simp at this
      obtain ⟨hk1, hk2⟩ := kept_start hany
      have hix : idxF p l = (l.findIdx p : Nat) := by simp [idxF, hany]
      have hlen0 : (l.take (l.findIdx p)).length = l.findIdx p := by rw [List.length_take]; omega
      simp only [go_sem, reduceAdd, reduceSub, reduceMul, reduceLT, reduceLeDiff, ↓reduceIte, reduceCtorEq, reduceEqDiff, reduceToNat, Int.reduceLT, reduceLE, reduceEq, hix, wrapNat _ (show l.findIdx p < 4000000000 by omega)]
      have hbx0 : b'.set b (.arr N ((.pair (.pair (.pair .leaf (.pair .leaf .unit)) (.pair .leaf .unit)) (.pair .leaf (.pair .leaf .unit)))), .agg L) = b' := by
        refine List.ext_getElem? fun i => ?_
        rw [List.getElem?_set]
        split
        · rename_i e; subst e; rw [hbx, sh_wr]
        · rfl
      have hg : ∀ y (vs : List (Sh × D)), (b'.set b y ++ vs)[b]? = some y := fun y vs => by rw [List.getElem?_append_left (by simp; omega), List.getElem?_set_self hbl]
      have hs : ∀ y y' (vs : List (Sh × D)), (b'.set b y ++ vs).set b y' = b'.set b y' ++ vs := fun y y' vs => by rw [List.set_append_left _ _ (by simp; omega), List.set_set]
      have hg2 : ∀ y (vs : List (Sh × D)) v, (b'.set b y ++ vs ++ [v])[b]? = some y := fun y vs v => by rw [List.append_assoc]; exact hg _ _
      have hs2 : ∀ y y' (vs : List (Sh × D)) v, (b'.set b y ++ vs ++ [v]).set b y' = b'.set b y' ++ vs ++ [v] := fun y y' vs v => by rw [List.append_assoc, hs, List.append_assoc]
      have hpz : ∀ y (z : List (Sh × D)) i, i < base.length → (b'.set b y ++ z)[i]? = base[i]? := fun y z i hi => by
        rw [List.getElem?_append_left (by simp; omega), List.getElem?_set_ne (by omega)]; exact hpb i hi
      refine awp_loop (fun n s => ∃ (j i : Nat) (x : List (Sh × D)) (L' : List D) (vs : List (Sh × D)) (g : Nat → D), s = ⟨[.sl 64 b 0 l.length N, .fn (.func f) caps, g 2, g 3, g 4, .lit (.int .i64 i), .lit (.int .i64 j), g 7, g 8, g 9, g 10, g 11, g 12, g 13, g 14, g 15, g 16, g 17, g 18, g 19, g 20, g 21, g 22, g 23, g 24, g 25, g 26, g 27, g 28, g 29, g 30, g 31, g 32, g 33, g 34, g 35, g 36, g 37, g 38, g 39, g 40, g 41], ⟨x, tk⟩⟩ ∧ n = l.length - j ∧ x = b'.set b (.arr N ((.pair (.pair (.pair .leaf (.pair .leaf .unit)) (.pair .leaf .unit)) (.pair .leaf (.pair .leaf .unit)))), .agg L') ++ vs ∧ i = (keptL p (l.take j)).length ∧ j ≤ l.length ∧ i < j ∧ L'.length = N ∧ L'.take i = (keptL p (l.take j)).map wrD ∧ (∀ k, j ≤ k → L'[k]? = L[k]?) ∧ pureL L' ∧ ∀ x ∈ vs, x.1 = (.pair (.pair (.pair .leaf (.pair .leaf .unit)) (.pair .leaf .unit)) (.pair .leaf (.pair .leaf .unit)))) (l.length - (l.findIdx p + 1)) ⟨l.findIdx p + 1, l.findIdx p, b', L, [], reg_intro rfl rfl ⟨rfl, by rw [hbx0, List.append_nil], by rw [hk1, hlen0], by omega, by omega, hL, ?_, fun _ _ => rfl, hpL, by simp⟩⟩ ?_
      · rw [hk1]
        have := congrArg (List.take (l.findIdx p)) hlL
        rw [List.take_take, Nat.min_eq_left (by omega), ← List.map_take] at this
        exact this
      rintro n s ⟨j, i, x, L', vs, g, rfl, hn, rfl, hi, hj', hij, hL', hlL', hup, hpu', hvs⟩
      have hli : i ≤ l.length := by omega
      simp only [go_sem, reduceAdd, reduceSub, reduceMul, reduceLT, reduceLeDiff, ↓reduceIte, reduceCtorEq, reduceEqDiff, reduceToNat, Int.reduceLT, reduceLE, reduceEq]
      refine condK_split (fun hc => ?_) (fun hc => ?_)
      · have hjk : j < l.length := by have := of_decide_eq_true hc; omega
        have hjN : j < N := by omega
        have hiN : i < N := by omega
        have hx : L'[j]? = some (wrD (l.getD j default)) := by rw [hup j (Nat.le_refl _)]; exact sl_at_wr hlL hjk
        simp only [go_sem, reduceAdd, reduceSub, reduceMul, reduceLT, reduceLeDiff, ↓reduceIte, reduceCtorEq, reduceEqDiff, reduceToNat, Int.reduceLT, reduceLE, reduceEq, hjk, hg, hjN, hx, Nat.zero_add, get_last, set_last]
        refine callK_h (hp (l.getD j default) _ fun q hq => by rw [List.append_assoc]; exact hpz _ _ q hq) ?_
        rintro r b2 ⟨rfl, rfl⟩
        simp only [go_sem, reduceAdd, reduceSub, reduceMul, reduceLT, reduceLeDiff, ↓reduceIte, reduceCtorEq, reduceEqDiff, reduceToNat, Int.reduceLT, reduceLE, reduceEq]
        have hil : i < l.length := by omega
        have hks := kept_snoc (p := p) hjk
        refine condK_split (fun h3 => ?_) (fun h3 => ?_)
        · have hpf : p (l.getD j default) = false := by simpa using h3
          rw [hpf, if_neg (by simp)] at hks
          obtain ⟨y0, hy0⟩ : ∃ y0, L'[i]? = some y0 := ⟨_, List.getElem?_eq_getElem (by omega)⟩
          simp only [go_sem, reduceAdd, reduceSub, reduceMul, reduceLT, reduceLeDiff, ↓reduceIte, reduceCtorEq, reduceEqDiff, reduceToNat, Int.reduceLT, reduceLE, reduceEq, hil, hiN, hg2, hs2, hy0, get_last, set_last, wrapNat i (by omega), wrapNat j (by omega), Nat.zero_add]
          refine ⟨l.length - (j + 1), by omega, j + 1, i + 1, _, L'.set i (wrD (l.getD j default)), vs ++ [((.pair (.pair (.pair .leaf (.pair .leaf .unit)) (.pair .leaf .unit)) (.pair .leaf (.pair .leaf .unit))), wrD (l.getD j default))], reg_intro rfl rfl ⟨rfl, by rw [List.append_assoc], by rw [hks, hi]; simp, by omega, by omega, by simpa using hL', ?_, ?_, pureL_set hpu' (by simp [pureD, pureL]), ?_⟩⟩
          · have hlen : ((keptL p (l.take j)).map wrD).length = i := by rw [List.length_map, hi]
            have := take_set_snoc (L := L') (l := (keptL p (l.take j)).map wrD) (d := wrD (l.getD j default)) (by rw [hlen]; exact hlL') (by rw [hlen]; omega)
            rw [hlen] at this
            rw [this, hks]; simp
          · intro q hq
            rw [List.getElem?_set_ne (by omega)]; exact hup q (by omega)
          · intro y hy
            rcases List.mem_append.1 hy with hy | hy
            · exact hvs y hy
            · rw [List.mem_singleton] at hy; rw [hy]
        · have hpt : p (l.getD j default) = true := by simpa using h3
          rw [hpt, if_pos rfl, List.append_nil] at hks
          simp only [go_sem, reduceAdd, reduceSub, reduceMul, reduceLT, reduceLeDiff, ↓reduceIte, reduceCtorEq, reduceEqDiff, reduceToNat, Int.reduceLT, reduceLE, reduceEq, wrapNat j (by omega)]
          refine ⟨l.length - (j + 1), by omega, j + 1, i, _, L', vs ++ [((.pair (.pair (.pair .leaf (.pair .leaf .unit)) (.pair .leaf .unit)) (.pair .leaf (.pair .leaf .unit))), wrD (l.getD j default))], reg_intro rfl rfl ⟨rfl, by rw [List.append_assoc], by rw [hks, hi], by omega, by omega, hL', by rw [hks]; exact hlL', fun q hq => hup q (by omega), hpu', ?_⟩⟩
          intro y hy
          rcases List.mem_append.1 hy with hy | hy
          · exact hvs y hy
          · rw [List.mem_singleton] at hy; rw [hy]
      · have hjl' : j = l.length := by have := of_decide_eq_false hc; omega
        subst hjl'
        rw [List.take_length] at hi hlL'
        have hle := kept_len p l
        simp only [go_sem, reduceAdd, reduceSub, reduceMul, reduceLT, reduceLeDiff, ↓reduceIte, reduceCtorEq, reduceEqDiff, reduceToNat, Int.reduceLT, reduceLE, reduceEq, hli, slice_sl_lo_t, hlN, Nat.zero_add]
        refine aop_clear _ _ _ _ _ _ _ _ _ _ ⟨64, b, _, _, _, N, _, L', rfl, rfl, hg _ _, ?_⟩
        have hiN : i ≤ N := by omega
        simp only [go_sem, reduceAdd, reduceSub, reduceMul, reduceLT, reduceLeDiff, ↓reduceIte, reduceCtorEq, reduceEqDiff, reduceToNat, Int.reduceLT, reduceLE, reduceEq, hs, hiN]
        have hoL : (overL L' i (List.replicate (l.length - i) (CT.zero 64))).length = N := by simp [overL]; omega
        have e1 : meltD (b'.set b (.arr N ((.pair (.pair (.pair .leaf (.pair .leaf .unit)) (.pair .leaf .unit)) (.pair .leaf (.pair .leaf .unit)))), .agg (overL L' i (List.replicate (l.length - i) (CT.zero 64)))) ++ vs) (b'.set b (.arr N ((.pair (.pair (.pair .leaf (.pair .leaf .unit)) (.pair .leaf .unit)) (.pair .leaf (.pair .leaf .unit)))), .agg (overL L' i (List.replicate (l.length - i) (CT.zero 64))))).length (.sl 64 b 0 i N) = .sl 64 b 0 i N := by
          simp only [meltD]; rw [if_neg (by rw [List.length_set]; omega)]
        have hpo : pureL (overL L' i (List.replicate (l.length - i) (CT.zero 64))) := pureL_over hpu' (pure_rep _ _ (by simp [zero64, pureD, pureL]))
        refine ⟨_, b'.set b (.arr N ((.pair (.pair (.pair .leaf (.pair .leaf .unit)) (.pair .leaf .unit)) (.pair .leaf (.pair .leaf .unit)))), .agg (overL L' i (List.replicate (l.length - i) (CT.zero 64)))), vs, [], rfl, rfl, by simp, by simp, ?_, ?_, by rw [e1]; simp only [lowD, List.length_set]; exact hbl, ?_⟩
        · intro q y hq
          rw [List.getElem?_set] at hq
          split at hq
          · cases hq; exact .inr (.inl (low_of_pure (.agg _) hpo))
          · exact .inr (.inr hq)
        · intro q N' s' L'' hq hm
          rw [List.getElem?_append_right hq] at hm
          have := hvs _ (List.mem_of_getElem? hm)
          cases this
        · rw [e1]
          refine ⟨ex.set jx _, hset _, .inr ⟨jx, N, _, by rw [hb, List.length_map, ← hi], by rw [sh_wr]; exact List.getElem?_set_self hjl, hoL, by rw [List.length_map, ← hi]; omega, hN, ?_, ?_⟩⟩
          · rw [List.length_map, ← hi, overL, List.append_assoc, List.take_append_of_le_length (by simp; omega), List.take_take, Nat.min_self]
            exact hlL'
          · intro N' s' L'' hm
            rcases List.mem_or_eq_of_mem_set hm with h' | h'
            · exact hpu _ _ _ h'
            · simp only [Prod.mk.injEq, D.agg.injEq] at h'
              obtain ⟨_, rfl⟩ := h'
              exact hpo
theorem overlaps_wr (l : List D) (t : Tok) (bs : List (Sh × D)) (tk : List Bool) {b lo n c N : Nat} {s : Sh} {L : List D} (hb : bs[b]? = some (.arr N s, .agg L)) :
    XSpec Tryz.prog CT 142 [.lst 64 l t, .sl 64 b lo n c] ⟨bs, tk⟩ fun r h' => r = .bool false ∧ h' = ⟨bs, tk⟩ := by
  intro ρ w vs hr hv
  have hvl : vs.toList.length = 2 := hv.1
  obtain ⟨v1, v2, hvs⟩ : ∃ v1 v2, vs.toList = [v1, v2] := by
    match h : vs.toList, hvl with
    | [v1, v2], _ => exact ⟨v1, v2, rfl⟩
  obtain rfl : vs = #[v1, v2] := by apply Array.ext'; simpa using hvs
  have hv1 : VV CT.sh ρ v1 (.lst 64 l t) := hv.2 0 _ _ rfl rfl
  have hv2 : VV CT.sh ρ v2 (.sl 64 b lo n c) := hv.2 1 _ _ rfl rfl
  obtain ⟨B, N', o, rfl, hbox, hc, hn, hm, ho⟩ := vv_sl hv2
  obtain ⟨e1, hsh, cc, tt, hw, ha⟩ := real_box hr hbox hb rfl
  obtain ⟨_, _, hS, _⟩ := hr.box b B _ _ _ hbox hb (by simp)
  have hfw := hT 23 (by rw [ty23]; simp)
  have hf := hfw.desc
  rw [ty23] at hf
  obtain ⟨_, hu, hub, husz⟩ := hf
  have fin : ∀ (la ca : Nat) (x : Option Addr), v1 = .slice x la ca → (Extern.SlicesOverlaps.overlaps #[23, 23] #[4] #[v1, .slice (some ⟨B, o, none⟩) n c]).run Tryz.prog w = .ok (.bool false) w →
      ∃ v w' r h' ρ', (callFunc 142 #[v1, .slice (some ⟨B, o, none⟩) n c]).run Tryz.prog w = .ok (.value v) w' ∧ Ext ρ w ρ' w' ∧ Real CT.sh ρ' h' w' ∧ VV CT.sh ρ' v r ∧ (r = .bool false ∧ h' = ⟨bs, tk⟩) := by
    intro la ca x _ hrun
    refine ⟨.bool false, w, .bool false, ⟨bs, tk⟩, ρ, ?_, .refl _ _, hr, .lit _, rfl, rfl⟩
    rw [run_callFunc_extern Tryz.func142 (by kernel_rfl) (by kernel_rfl) (by kernel_rfl) (e := Extern.SlicesOverlaps.overlaps #[23, 23] #[4]) (by kernel_rfl), hrun]
    rfl
  rcases vv_lst hv1 with ⟨rfl, hl0⟩ | ⟨ad, cap, cs, rfl, hrow, hl, hall, hshl, hcap, _, _⟩
  · refine fin 0 0 none rfl ?_
    exact run_overlaps_none w _ _ _ hu _ (fun w => (hT _ hub).run_sizeOf w) _ _ _ _ _
  · by_cases hl0 : l = []
    · subst hl0
      refine fin 0 cap (some ad) rfl ?_
      exact run_overlaps_zero w _ _ _ hu _ (fun w => (hT _ hub).run_sizeOf w) _ _ _ _ _
    · have hcs : 0 < cs.length := by
        rw [hl, leavesL_length_const (n := (CT.sh 64).size) fun x hx => leaves_length (hshl x hx)]
        exact Nat.mul_pos (List.length_pos_iff.2 hl0) (Nat.pos_of_ne_zero husz)
      have hr0 := hrow 0 _ (List.getElem?_eq_getElem hcs)
      obtain ⟨c1, e2, fr, hA, hA2⟩ := hr.st _ _ _ hr0.2
      have hne : ad.block ≠ B := by
        rintro h0
        have := hr0.2
        rw [h0, hS] at this; cases this
      refine fin _ _ _ rfl ?_
      exact run_overlaps_own w 23 4 64 hu _ (fun w => (hT _ hub).run_sizeOf w) ad ⟨B, o, none⟩ l.length cap n c hne hA hw (by
        have := (Array.getElem?_eq_some_iff.1 hA2).1; omega)
theorem take_insAt_wr {l : List WriteR} {x : WriteR} {i : Nat} (hi : i ≤ l.length) {L L' : List D} (hL : L.take l.length = l.map wrD) (h1 : ∀ q, q < i → L'[q]? = L[q]?) (h2 : L'[i]? = some (wrD x)) (h3 : ∀ q, i ≤ q → q < l.length → L'[q + 1]? = L[q]?) :
    L'.take (l.length + 1) = (insAt l i x).map wrD := by
  have hLq : ∀ q, q < l.length → L[q]? = (l.map wrD)[q]? := fun q hq => by rw [← hL, List.getElem?_take, if_pos hq]
  refine List.ext_getElem? fun q => ?_
  rw [List.getElem?_take]
  simp only [insAt, List.map_append, List.map_take, List.map_cons, List.map_drop]
  have hti : ((l.map wrD).take i).length = i := by simp; omega
  by_cases hq : q < l.length + 1
  · rw [if_pos hq]
    rcases Nat.lt_trichotomy q i with h | h | h
    · rw [List.getElem?_append_left (by omega), List.getElem?_take, if_pos h, h1 q h, hLq q (by omega)]
    · subst h
      rw [List.getElem?_append_right (by omega), hti, Nat.sub_self, h2]; rfl
    · rw [List.getElem?_append_right (by omega), hti]
      obtain ⟨q', rfl⟩ : ∃ q', q = q' + 1 := ⟨q - 1, by omega⟩
      rw [show q' + 1 - i = (q' - i) + 1 by omega, List.getElem?_cons_succ, List.getElem?_drop, h3 q' (by omega) (by omega), hLq q' (by omega)]
      congr 1; omega
  · rw [if_neg hq, List.getElem?_eq_none]
    simp; omega
set_option maxRecDepth 8000 in
set_option maxHeartbeats 2000000 in
theorem insert_wr (l : List WriteR) (x : WriteR) (t : Tok) (i : Nat) (hi : i ≤ l.length) (hl : l.length < 1000000000) (base ex : List (Sh × D)) (tk : List Bool) {d : D} (ho : OutL 64 base.length d ex (l.map wrD)) :
    ASpec Tryz.prog CT 138 [d, .lit (.int .i64 i), rows_wr [x] t] ⟨base ++ ex, tk⟩ fun r h' => ∃ ex', h' = ⟨base ++ ex', tk⟩ ∧ OutM 64 base.length r ex' ((insAt l i x).map wrD) := by
  have hpx : pureL [wrD x] := by simp [pureD, pureL]
  have hpz : pureD (CT.zero 64) := by simp [zero64, pureD, pureL]
  refine ASpec.of hT Tryz.func138 rfl (by kernel_rfl) rfl rfl ?_
  rcases ho with ⟨rfl, h2, rfl⟩ | ⟨jx, N, L, rfl, hj, hL, hlN, hN, hlL, hpu⟩
  · obtain rfl : l = [] := by simpa using h2
    obtain rfl : i = 0 := by simpa using hi
    simp only [Tryz.f138, go_sem, reduceAdd, reduceSub, reduceMul, reduceLT, reduceLeDiff, ↓reduceIte, reduceCtorEq, reduceEqDiff, reduceToNat, Int.reduceLT, reduceLE, reduceEq, List.map_cons, List.map_nil]
    refine condK_split (fun h => absurd (of_decide_eq_true h) (by omega)) (fun _ => ?_)
    simp only [go_sem, reduceAdd, reduceSub, reduceMul, reduceLT, reduceLeDiff, ↓reduceIte, reduceCtorEq, reduceEqDiff, reduceToNat, Int.reduceLT, reduceLE, reduceEq]
    refine appK_mut _ _ _ 64 _ _ _ _ ⟨[], [wrD x], rfl, rfl, by rw [bytes_wr]; omega, by rw [bytes_wr]; simp, trivial, (by intro h; cases h), (by intro b lo n c N s L h; cases h), fun _ _ N h1 h2 => ?_⟩
    simp only [go_sem, reduceAdd, reduceSub, reduceMul, reduceLT, reduceLeDiff, ↓reduceIte, reduceCtorEq, reduceEqDiff, reduceToNat, Int.reduceLT, reduceLE, reduceEq, List.length_nil, Nat.zero_add, List.nil_append, Heap.var]
    simp only [List.length_nil, Nat.zero_add, List.length_cons] at h1
    refine ⟨_, rfl, .inr ⟨0, N, [wrD x] ++ List.replicate (N - 1) (CT.zero 64), by simp [insAt], rfl, by simp; omega, by simp [insAt]; omega, h2, by simp [insAt], ?_⟩⟩
    intro N' s' L' hm
    simp only [List.mem_singleton, Prod.mk.injEq, D.agg.injEq] at hm
    obtain ⟨_, rfl⟩ := hm
    exact pureL_app hpx (pure_rep _ _ hpz)
  · simp only [List.length_map] at hlN hlL ⊢
    have hjl : jx < ex.length := (List.getElem?_eq_some_iff.1 hj).1
    have hbx : (base ++ ex)[base.length + jx]? = some (.arr N (CT.sh 64), .agg L) := by rw [List.getElem?_append_right (by omega), Nat.add_sub_cancel_left]; exact hj
    have hset : ∀ y, (base ++ ex).set (base.length + jx) y = base ++ ex.set jx y := fun y => by rw [List.set_append_right _ _ (by omega), Nat.add_sub_cancel_left]
    have hpL : pureL L := hpu _ _ _ (List.mem_of_getElem? hj)
    have hLtl : (L.take l.length).length = l.length := by rw [List.length_take]; omega
    generalize hb : base.length + jx = b at hbx hset ⊢
    simp only [Tryz.f138, go_sem, reduceAdd, reduceSub, reduceMul, reduceLT, reduceLeDiff, ↓reduceIte, reduceCtorEq, reduceEqDiff, reduceToNat, Int.reduceLT, reduceLE, reduceEq, List.map_cons, List.map_nil, slice_sl_lo_t, hi, hlN]
    refine condK_split (fun h => absurd (of_decide_eq_true h) (by omega)) (fun _ => ?_)
    simp only [go_sem, reduceAdd, reduceSub, reduceMul, reduceLT, reduceLeDiff, ↓reduceIte, reduceCtorEq, reduceEqDiff, reduceToNat, Int.reduceLT, reduceLE, reduceEq]
    refine condK_split (fun hin => ?_) (fun hin => ?_)
    · obtain rfl : i = l.length := by have := of_decide_eq_true hin; omega
      simp only [go_sem, reduceAdd, reduceSub, reduceMul, reduceLT, reduceLeDiff, ↓reduceIte, reduceCtorEq, reduceEqDiff, reduceToNat, Int.reduceLT, reduceLE, reduceEq]
      have hins : insAt l l.length x = l ++ [x] := by simp [insAt]
      rw [hins]
      refine appK_mut _ _ _ 64 _ _ _ _ ⟨L.take l.length, [wrD x], by simp only [rowOf, hbx, List.drop_zero], rfl, by rw [bytes_wr]; omega, by rw [bytes_wr, hLtl]; simp; omega, trivial, (by intro h; cases h), ?_, ?_⟩
      · intro b1 lo1 n1 c1 N1 s1 L1 h1 _ h2 h3
        cases h1
        simp only at h3
        rw [hbx] at h3; cases h3
        simp only [go_sem, reduceAdd, reduceSub, reduceMul, reduceLT, reduceLeDiff, ↓reduceIte, reduceCtorEq, reduceEqDiff, reduceToNat, Int.reduceLT, reduceLE, reduceEq, List.length_cons, List.length_nil, Nat.zero_add]
        have hfit : l.length + 1 ≤ N := by simpa using h2
        refine ⟨ex.set jx (.arr N (CT.sh 64), .agg (overL L l.length [wrD x])), by rw [hset]; rfl, .inr ⟨jx, N, overL L l.length [wrD x], by rw [hb]; simp, List.getElem?_set_self hjl, by rw [overL_len (by simp; omega)]; exact hL, by simp; omega, hN, ?_, ?_⟩⟩
        · have := overL_take (L := L) (m := [wrD x]) (n := l.length) (by simp; omega)
          simp only [List.length_singleton] at this
          simp only [List.length_map, List.length_append, List.length_singleton]
          rw [this, hlL]; simp
        · intro N' s' L' hm
          rcases List.mem_or_eq_of_mem_set hm with h' | h'
          · exact hpu _ _ _ h'
          · simp only [Prod.mk.injEq, D.agg.injEq] at h'
            obtain ⟨_, rfl⟩ := h'
            exact pureL_over hpL hpx
      · intro h1 _ N' h2 h3
        rw [hLtl] at h2
        simp only [List.length_singleton] at h2
        simp only [go_sem, reduceAdd, reduceSub, reduceMul, reduceLT, reduceLeDiff, ↓reduceIte, reduceCtorEq, reduceEqDiff, reduceToNat, Int.reduceLT, reduceLE, reduceEq, List.length_cons, List.length_nil, Nat.zero_add, hLtl, Heap.var]
        refine ⟨ex ++ [(.arr N' (CT.sh 64), .agg (L.take l.length ++ [wrD x] ++ List.replicate (N' - (l.length + 1)) (CT.zero 64)))], by rw [List.append_assoc]; rfl, .inr ⟨ex.length, N', L.take l.length ++ [wrD x] ++ List.replicate (N' - (l.length + 1)) (CT.zero 64), by simp, by simp, by simp; omega, by simp; omega, h3, ?_, ?_⟩⟩
        · rw [List.length_map, List.length_append, List.take_append_of_le_length (by simp [hLtl]), List.take_of_length_le (by simp [hLtl]), hlL]; simp
        · intro N'' s' L' hm
          rcases List.mem_append.1 hm with h' | h'
          · exact hpu _ _ _ h'
          · simp only [List.mem_singleton, Prod.mk.injEq, D.agg.injEq] at h'
            obtain ⟨_, rfl⟩ := h'
            exact pureL_app (pureL_app (pureL_take _ hpL) hpx) (pure_rep _ _ hpz)
    · have hin' : i < l.length := by have := of_decide_eq_false hin; omega
      have w1 : IntKind.i64.wrap ((l.length : Int) + ((1 : Nat) : Int)) = ((l.length + 1 : Nat) : Int) := by rw [wrap64] <;> omega
      simp only [go_sem, reduceAdd, reduceSub, reduceMul, reduceLT, reduceLeDiff, ↓reduceIte, reduceCtorEq, reduceEqDiff, reduceToNat, Int.reduceLT, reduceLE, reduceEq, w1]
      refine condK_split (fun hg => ?_) (fun hg => ?_)
      · have hgr : N < l.length + 1 := by have := of_decide_eq_true hg; omega
        have w2 : IntKind.i64.wrap (((l.length + 1 : Nat) : Int) - (i : Int)) = ((l.length + 1 - i : Nat) : Int) := by rw [wrap64] <;> omega
        have hiN : i ≤ N := by omega
        simp only [go_sem, reduceAdd, reduceSub, reduceMul, reduceLT, reduceLeDiff, ↓reduceIte, reduceCtorEq, reduceEqDiff, reduceToNat, Int.reduceLT, reduceLE, reduceEq, w1, w2, hiN]
        apply aop_growth
        refine ⟨64, .i64, rfl, rfl, .inr ⟨.i64, l.length + 1 - i, b, 0, i, N, N, _, L, rfl, rfl, hbx, by omega, by omega, by rw [bytes_wr]; omega, by rw [bytes_wr]; omega, fun M h1 h2 => ?_⟩⟩
        have e1 : i + (l.length + 1 - i) = l.length + 1 := by omega
        rw [e1] at h1
        have hi1 : i ≤ l.length + 1 := by omega
        have hi2 : i + 1 ≤ l.length + 1 := by omega
        have w3 : IntKind.i64.wrap ((i : Int) + ((1 : Nat) : Int)) = ((i + 1 : Nat) : Int) := by rw [wrap64] <;> omega
        simp only [go_sem, reduceAdd, reduceSub, reduceMul, reduceLT, reduceLeDiff, ↓reduceIte, reduceCtorEq, reduceEqDiff, reduceToNat, Int.reduceLT, reduceLE, reduceEq, e1, Heap.var, slice_sl_lo_t, hi1, h1, List.drop_zero, Nat.zero_add]
        have ht1 : [wrD x].take (l.length + 1 - i) = [wrD x] := List.take_of_length_le (by simp; omega)
        refine aop_copy _ _ _ _ _ _ _ _ _ _ _ ⟨64, (base ++ ex).length, _, _, _, M, _, _, [wrD x], rfl, rfl, get_last _ _, rfl, ?_⟩
        simp only [go_sem, reduceAdd, reduceSub, reduceMul, reduceLT, reduceLeDiff, ↓reduceIte, reduceCtorEq, reduceEqDiff, reduceToNat, Int.reduceLT, reduceLE, reduceEq, set_last, ht1]
        refine .inl ⟨by kernel_rfl, ?_⟩
        simp only [go_sem, reduceAdd, reduceSub, reduceMul, reduceLT, reduceLeDiff, ↓reduceIte, reduceCtorEq, reduceEqDiff, reduceToNat, Int.reduceLT, reduceLE, reduceEq, slice_sl_lo_t, hi1, hi2, h1, hi, hlN, w3, Nat.zero_add]
        have hl0 : (L.take i ++ List.replicate (M - i) (CT.zero 64)).length = M := by simp; omega
        have hl1 : (overL (L.take i ++ List.replicate (M - i) (CT.zero 64)) i [wrD x]).length = M := by rw [overL_len (by rw [hl0]; simp; omega), hl0]
        have hsrc : ((L.drop i).take (l.length - i)).length = l.length - i := by simp; omega
        have ht2 : ((L.drop i).take (l.length - i)).take (l.length + 1 - (i + 1)) = (L.drop i).take (l.length - i) := List.take_of_length_le (by rw [hsrc]; omega)
        refine aopD_copy _ _ _ _ _ _ _ _ _ _ _ ⟨64, (base ++ ex).length, _, _, _, M, _, _, (L.drop i).take (l.length - i), rfl, rfl, get_last _ _, ?_, ?_⟩
        · have : ∀ y, (base ++ ex ++ [y])[b]? = some (.arr N (CT.sh 64), .agg L) := fun y => by
            rw [List.getElem?_append_left (List.getElem?_eq_some_iff.1 hbx).1]; exact hbx
          show rowOf _ (.sl 64 b i (l.length - i) (N - i)) = _
          simp only [rowOf, this]
        simp only [go_sem, reduceAdd, reduceSub, reduceMul, reduceLT, reduceLeDiff, ↓reduceIte, reduceCtorEq, reduceEqDiff, reduceToNat, Int.reduceLT, reduceLE, reduceEq, set_last, ht2]
        have hg2 : ∀ q, (overL (overL (L.take i ++ List.replicate (M - i) (CT.zero 64)) i [wrD x]) (i + 1) ((L.drop i).take (l.length - i)))[q]? = if q < i + 1 then (if q < i then L[q]? else some (wrD x)) else if q < l.length + 1 then L[q - 1]? else (overL (overL (L.take i ++ List.replicate (M - i) (CT.zero 64)) i [wrD x]) (i + 1) ((L.drop i).take (l.length - i)))[q]? := by
          intro q
          by_cases hq1 : q < i + 1
          · rw [if_pos hq1, overL_get (by rw [hsrc, hl1]; omega), if_pos hq1, overL_get (by rw [hl0]; simp; omega)]
            by_cases hq2 : q < i
            · rw [if_pos hq2, if_pos hq2, List.getElem?_append_left (by simp; omega), List.getElem?_take, if_pos hq2]
            · rw [if_neg hq2, if_neg hq2, if_pos (by simp; omega)]
              have : q - i = 0 := by omega
              rw [this]; rfl
          · rw [if_neg hq1]
            by_cases hq3 : q < l.length + 1
            · rw [if_pos hq3, overL_get (by rw [hsrc, hl1]; omega), if_neg hq1, if_pos (by rw [hsrc]; omega), List.getElem?_take, if_pos (by omega), List.getElem?_drop]
              congr 1; omega
            · rw [if_neg hq3]
        refine ⟨ex ++ [(.arr M (CT.sh 64), .agg (overL (overL (L.take i ++ List.replicate (M - i) (CT.zero 64)) i [wrD x]) (i + 1) ((L.drop i).take (l.length - i))))], by rw [List.append_assoc]; rfl, .inr ⟨ex.length, M, overL (overL (L.take i ++ List.replicate (M - i) (CT.zero 64)) i [wrD x]) (i + 1) ((L.drop i).take (l.length - i)), by simp [insAt_len _ _ _ hi], by simp, by rw [overL_len (by rw [hsrc, hl1]; omega), hl1], by simp [insAt_len _ _ _ hi]; omega, h2, ?_, ?_⟩⟩
        · rw [List.length_map, insAt_len _ _ _ hi]
          refine take_insAt_wr hi hlL (fun q hq => ?_) ?_ (fun q hq1 hq2 => ?_)
          · rw [hg2, if_pos (by omega), if_pos hq]
          · rw [hg2, if_pos (by omega), if_neg (by omega)]
          · rw [hg2, if_neg (by omega), if_pos (by omega), Nat.add_sub_cancel]
        · intro N'' s' L' hm
          rcases List.mem_append.1 hm with h' | h'
          · exact hpu _ _ _ h'
          · simp only [List.mem_singleton, Prod.mk.injEq, D.agg.injEq] at h'
            obtain ⟨_, rfl⟩ := h'
            exact pureL_over (pureL_over (pureL_app (pureL_take _ hpL) (pure_rep _ _ hpz)) hpx) (pureL_take _ (pureL_drop _ hpL))
      · have hro : l.length + 1 ≤ N := by have := of_decide_eq_false hg; omega
        have hi1 : i ≤ l.length + 1 := by omega
        have hi2 : i + 1 ≤ l.length + 1 := by omega
        have w3 : IntKind.i64.wrap ((i : Int) + ((1 : Nat) : Int)) = ((i + 1 : Nat) : Int) := by rw [wrap64] <;> omega
        have hbl : b < (base ++ ex).length := (List.getElem?_eq_some_iff.1 hbx).1
        simp only [go_sem, reduceAdd, reduceSub, reduceMul, reduceLT, reduceLeDiff, ↓reduceIte, reduceCtorEq, reduceEqDiff, reduceToNat, Int.reduceLT, reduceLE, reduceEq, w1, w3, hro, slice_sl_lo_t, hi2, hi1, Nat.zero_add]
        refine callK_x (overlaps_wr _ _ _ _ hbx) ?_
        rintro r h' ⟨rfl, rfl⟩
        simp only [go_sem, reduceAdd, reduceSub, reduceMul, reduceLT, reduceLeDiff, ↓reduceIte, reduceCtorEq, reduceEqDiff, reduceToNat, Int.reduceLT, reduceLE, reduceEq, Bool.not_false]
        refine .inl ⟨by kernel_rfl, ?_⟩
        simp only [go_sem, reduceAdd, reduceSub, reduceMul, reduceLT, reduceLeDiff, ↓reduceIte, reduceCtorEq, reduceEqDiff, reduceToNat, Int.reduceLT, reduceLE, reduceEq, slice_sl_lo_t, hi1, hi2, hro, w3, Nat.zero_add]
        have hsrc : (((L.drop i).take (l.length + 1 - i)).take (l.length + 1 - (i + 1))).length = l.length - i := by simp; omega
        refine aopD_copy _ _ _ _ _ _ _ _ _ _ _ ⟨64, b, _, _, _, N, _, L, (L.drop i).take (l.length + 1 - i), rfl, rfl, hbx, (by show rowOf _ (.sl 64 b i (l.length + 1 - i) (N - i)) = _; simp only [rowOf, hbx]), ?_⟩
        have hl1 : (overL L (i + 1) (((L.drop i).take (l.length + 1 - i)).take (l.length + 1 - (i + 1)))).length = N := by rw [overL_len (by rw [hsrc]; omega), hL]
        have ht1 : [wrD x].take (l.length + 1 - i) = [wrD x] := List.take_of_length_le (by simp; omega)
        simp only [go_sem, reduceAdd, reduceSub, reduceMul, reduceLT, reduceLeDiff, ↓reduceIte, reduceCtorEq, reduceEqDiff, reduceToNat, Int.reduceLT, reduceLE, reduceEq, slice_sl_lo_t, hi1, hro, Nat.zero_add]
        refine aop_copy _ _ _ _ _ _ _ _ _ _ _ ⟨64, b, _, _, _, N, _, _, [wrD x], rfl, rfl, List.getElem?_set_self hbl, rfl, ?_⟩
        simp only [go_sem, reduceAdd, reduceSub, reduceMul, reduceLT, reduceLeDiff, ↓reduceIte, reduceCtorEq, reduceEqDiff, reduceToNat, Int.reduceLT, reduceLE, reduceEq, ht1, List.set_set]
        have hg2 : ∀ q, q < l.length + 1 → (overL (overL L (i + 1) (((L.drop i).take (l.length + 1 - i)).take (l.length + 1 - (i + 1)))) i [wrD x])[q]? = if q < i then L[q]? else if q < i + 1 then some (wrD x) else L[q - 1]? := by
          intro q hq
          rw [overL_get (by rw [hl1]; simp; omega)]
          by_cases hq1 : q < i
          · rw [if_pos hq1, if_pos hq1, overL_get (by rw [hsrc]; omega), if_pos (by omega)]
          · rw [if_neg hq1, if_neg hq1]
            by_cases hq2 : q < i + 1
            · rw [if_pos hq2, if_pos (by simpa using hq2)]
              have : q - i = 0 := by omega
              rw [this]; rfl
            · rw [if_neg hq2, if_neg (by simpa using hq2), overL_get (by rw [hsrc]; omega), if_neg hq2, if_pos (by rw [hsrc]; omega), List.getElem?_take, if_pos (by omega), List.getElem?_take, if_pos (by omega), List.getElem?_drop]
              congr 1; omega
        refine ⟨ex.set jx (.arr N (CT.sh 64), .agg (overL (overL L (i + 1) (((L.drop i).take (l.length + 1 - i)).take (l.length + 1 - (i + 1)))) i [wrD x])), by rw [hset]; rfl, .inr ⟨jx, N, overL (overL L (i + 1) (((L.drop i).take (l.length + 1 - i)).take (l.length + 1 - (i + 1)))) i [wrD x], by rw [hb]; simp [insAt_len _ _ _ hi], List.getElem?_set_self hjl, by rw [overL_len (by rw [hl1]; simp; omega), hl1], by simp [insAt_len _ _ _ hi]; omega, hN, ?_, ?_⟩⟩
        · rw [List.length_map, insAt_len _ _ _ hi]
          refine take_insAt_wr hi hlL (fun q hq => ?_) ?_ (fun q hq1 hq2 => ?_)
          · rw [hg2 q (by omega), if_pos hq]
          · rw [hg2 i (by omega), if_neg (by omega), if_pos (by omega)]
          · rw [hg2 (q + 1) (by omega), if_neg (by omega), if_neg (by omega), Nat.add_sub_cancel]
        · intro N'' s' L' hm
          rcases List.mem_or_eq_of_mem_set hm with h' | h'
          · exact hpu _ _ _ h'
          · simp only [Prod.mk.injEq, D.agg.injEq] at h'
            obtain ⟨_, rfl⟩ := h'
            exact pureL_over (pureL_over hpL (pureL_take _ (pureL_take _ (pureL_drop _ hpL)))) hpx
end Go.Ab
