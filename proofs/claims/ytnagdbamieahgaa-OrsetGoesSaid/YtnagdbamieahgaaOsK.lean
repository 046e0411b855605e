/- Sets: the program's Fold. Conditions: none. -/
import Derived.Test.YtnagdbamieahgaaOsI
import Derived.Test.YtnagdbamieahgaaSlMe
set_option linter.unusedSimpArgs false
namespace Go.Ab
open Go.Proofs

theorem outX_ofL {e : TypeId} {k : Nat} {d : D} {ex : List (Sh × D)} {l : List D} (ho : OutL e k d ex l) (hp : pureL l) : OutX e k d ex l := by
  rcases ho with ⟨rfl, rfl, rfl⟩ | ⟨j, N, L, h1, h2, h3, h4, h5, h6, h7⟩
  · exact outX_nil _ _
  · exact ⟨h7, hp, .inr ⟨j, N, L, h1, h2, h3, h4, h5, h6⟩⟩
theorem pureL_st {L : List D} {k : Nat} {d : D} (h : pureL L) (hd : pureD d) : pureL (L.set k d) := by
  induction L generalizing k with
  | nil => simpa using h
  | cons x r ih => cases k with
    | zero => exact ⟨hd, h.2⟩
    | succ k => exact ⟨h.1, ih h.2⟩
/-- An element of such a slice is written. -/
theorem outX_upd {e : TypeId} {K : Nat} {d : D} {base ex : List (Sh × D)} {l : List D} (ho : OutX e K d ex l) (hk : base.length = K) {k : Nat} (hl : k < l.length) :
    ∃ b N L, d = .sl e b 0 l.length N ∧ K ≤ b ∧ (base ++ ex)[b]? = some (.arr N (CT.sh e), .agg L) ∧ k < N ∧ L[k]? = l[k]? ∧
      ∀ y, pureD y → ∃ ex', (base ++ ex).set b (.arr N (CT.sh e), .agg (L.set k y)) = base ++ ex' ∧ OutX e K d ex' (l.set k y) := by
  obtain ⟨hpu, hpl, ⟨rfl, h⟩ | ⟨j, N, L, rfl, hj, hL, hlN, hN, htk⟩⟩ := ho
  · rw [h] at hl; simp at hl
  · have hjl : j < ex.length := (List.getElem?_eq_some_iff.1 hj).1
    refine ⟨K + j, N, L, rfl, by omega, by rw [List.getElem?_append_right (by omega), hk, Nat.add_sub_cancel_left]; exact hj, by omega, ?_, fun y hy => ⟨ex.set j (.arr N (CT.sh e), .agg (L.set k y)), ?_, ?_, pureL_st hpl hy, .inr ⟨j, N, L.set k y, by rw [List.length_set], List.getElem?_set_self hjl, by simpa using hL, by simpa using hlN, hN, ?_⟩⟩⟩
    · conv => rhs; rw [← htk]
      rw [List.getElem?_take, if_pos hl]
    · rw [List.set_append_right _ _ (by omega), hk, Nat.add_sub_cancel_left]
    · intro N' s' L' hm
      rcases List.mem_or_eq_of_mem_set hm with h' | h'
      · exact hpu _ _ _ h'
      · simp only [Prod.mk.injEq, D.agg.injEq] at h'
        obtain ⟨_, rfl⟩ := h'
        exact pureL_st (hpu _ _ _ (List.mem_of_getElem? hj)) hy
    · rw [List.length_set, List.take_set, htk]
def curF (c : CellR) (cut : List Int) (k : Nat) : List MemberR := (c.me.take k).map (foldMe cut) ++ c.me.drop k
theorem curF_len (c : CellR) (cut : List Int) {k : Nat} (hk : k ≤ c.me.length) : (curF c cut k).length = c.me.length := by simp [curF]; omega
theorem curF_at (c : CellR) (cut : List Int) {k : Nat} (hk : k < c.me.length) : (curF c cut k)[k]? = some (meAt c k) := by
  rw [curF, List.getElem?_append_right (by simp; omega)]
  have : k - ((c.me.take k).map (foldMe cut)).length = 0 := by simp; omega
  rw [this, List.getElem?_drop, Nat.add_zero, List.getElem?_eq_getElem hk, meAt, List.getD_eq_getElem?_getD, List.getElem?_eq_getElem hk]; rfl
theorem curF_next (c : CellR) (cut : List Int) {k : Nat} (hk : k < c.me.length) : (curF c cut k).set k (foldMe cut (meAt c k)) = curF c cut (k + 1) := by
  have h1 : ((c.me.take k).map (foldMe cut)).length = k := by simp; omega
  rw [curF, List.set_append_right _ _ (by omega), h1, Nat.sub_self, List.drop_eq_getElem_cons hk, List.set_cons_zero, curF, take_snocG c.me k hk, List.map_append, List.append_assoc]
  rfl
theorem list_set_map {α : Type} (f : α → D) (l : List α) (k : Nat) (x : α) : (l.map f).set k (f x) = (l.set k x).map f := by simp

abbrev cellO (c : CellR) (d : D) : D := .agg [.lit (.int .i64 c.kind), .lit (.int .i64 c.base), .lst 107 (c.am.map amD) .no, .lst 95 (c.wr.map wrD) .no, d, .lst 97 (c.el.map elD) .no]
set_option maxRecDepth 8000 in
set_option maxHeartbeats 2000000 in
theorem orset_fold (c : CellR) (cut : List Int) (hd : cut.length = 13) (hw : c.me.length < 100000) (hm : ∀ m ∈ c.me, m.marks.length < 10000000) :
    PSpec Try.prog CT 46 [cellD c, ints cut] (· = cellD (foldS c cut)) := by
  refine HSpec.pure (HSpec.of hT Try.func46 rfl (by kernel_rfl) rfl rfl fun tk => ?_)
  simp only [Try.f46, go_sem, Nat.reduceAdd, Nat.reduceSub, Nat.reduceMul, Nat.reduceLT, Nat.reduceLeDiff, ↓reduceIte, reduceCtorEq, Nat.reduceEqDiff, Int.reduceToNat, Int.reduceLT, Int.reduceLE, Int.reduceEq, beq_self_eq_true, hd]
  refine callK_pure (args' := [cellD c]) (orset_check c (by omega) (fun m h => by have := hm m h; omega)) (by first | rfl | (simp only [go_sem, Nat.reduceAdd, Nat.reduceSub, Nat.reduceMul, Nat.reduceLT, Nat.reduceLeDiff, ↓reduceIte, reduceCtorEq, Nat.reduceEqDiff, Int.reduceToNat, Int.reduceLT, Int.reduceLE, Int.reduceEq, beq_self_eq_true]; done)) (by first | (simp only [go_sem, Nat.reduceAdd, Nat.reduceSub, Nat.reduceMul, Nat.reduceLT, Nat.reduceLeDiff, ↓reduceIte, reduceCtorEq, Nat.reduceEqDiff, Int.reduceToNat, Int.reduceLT, Int.reduceLE, Int.reduceEq, beq_self_eq_true]; done) | (simp [pureL, pureD]; done)) ?_
  cases hck : checkS c with
  | false =>
    have e : foldS c cut = c := by rw [foldS, if_pos hck]
    simp only [go_sem, Nat.reduceAdd, Nat.reduceSub, Nat.reduceMul, Nat.reduceLT, Nat.reduceLeDiff, ↓reduceIte, reduceCtorEq, Nat.reduceEqDiff, Int.reduceToNat, Int.reduceLT, Int.reduceLE, Int.reduceEq, beq_self_eq_true, hd, Bool.not_false]
    rw [e]
    refine finH_all ?_ (melt_cell _ _) (pure_cell _) ⟨pure_cell _, rfl⟩
    intro N s' L hmm
    simp at hmm
    rw [hmm.2]; exact pureL_all fun d hd => by obtain ⟨n, _, rfl⟩ := List.mem_map.1 hd; trivial
  | true =>
  have e : foldS c cut = { c with me := c.me.map (foldMe cut) } := by rw [foldS, if_neg (by rw [hck]; simp)]
  simp only [go_sem, Nat.reduceAdd, Nat.reduceSub, Nat.reduceMul, Nat.reduceLT, Nat.reduceLeDiff, ↓reduceIte, reduceCtorEq, Nat.reduceEqDiff, Int.reduceToNat, Int.reduceLT, Int.reduceLE, Int.reduceEq, beq_self_eq_true, hd, Bool.not_true]
  refine callK_a (clone_me c.me .no (by omega) _ _) ?_
  rintro d h' ⟨ex0, rfl, ho0⟩
  have ho1 := outX_ofL ho0 (pure_meL _)
  simp only [go_sem, Nat.reduceAdd, Nat.reduceSub, Nat.reduceMul, Nat.reduceLT, Nat.reduceLeDiff, ↓reduceIte, reduceCtorEq, Nat.reduceEqDiff, Int.reduceToNat, Int.reduceLT, Int.reduceLE, Int.reduceEq, beq_self_eq_true, hd, outX_nrm ho1, outX_leaf ho1, outX_len ho1 (t := 46) rfl, List.length_map]
  refine awp_loop (fun n s => ∃ (x ex : List (Sh × D)) (k : Nat) (g : Nat → D), s = ⟨[g 0, g 1, .ptr 0 [], .ptr 1 [], .ptr 2 [], g 5, g 6, g 7, g 8, g 9, g 10, g 11, g 12, g 13, g 14, g 15, g 16, d, .lit (.int .i64 c.me.length), .lit (.int .i64 k), g 20, g 21, g 22, g 23, g 24, g 25, g 26, g 27, g 28, g 29, g 30, g 31, g 32, g 33, g 34, g 35, g 36, g 37, g 38, g 39, g 40, g 41, g 42, g 43, g 44, g 45, g 46, g 47, g 48, g 49, g 50], ⟨x, tk⟩⟩ ∧ n = c.me.length - k ∧ x = [(cellSh, cellO c d), ((.arr 13 .leaf), ints cut), (cellSh, CT.zero 49)] ++ ex ∧ k ≤ c.me.length ∧ OutX 55 3 d ex ((curF c cut k).map meD)) c.me.length ⟨_, ex0, 0, reg_intro rfl rfl ⟨by simp, rfl, by omega, by simpa [curF] using ho1⟩⟩ ?_
  rintro n st ⟨x, ex, k, g, rfl, hn, hx, hk, ho⟩
  simp only [go_sem, Nat.reduceAdd, Nat.reduceSub, Nat.reduceMul, Nat.reduceLT, Nat.reduceLeDiff, ↓reduceIte, reduceCtorEq, Nat.reduceEqDiff, Int.reduceToNat, Int.reduceLT, Int.reduceLE, Int.reduceEq, beq_self_eq_true]
  refine condK_split (fun hc => ?_) (fun hc => ?_)
  · have hk' : k < c.me.length := by have := of_decide_eq_true hc; omega
    have hcl := curF_len c cut hk
    have hmk : (meAt c k).marks.length < 10000000 := hm_ok hm hk'
    have hop := outX_push ho [(((.pair .leaf (.pair .leaf (.pair .leaf .unit))) : Sh), meD (meAt c k))] (by simp)
    obtain ⟨b, N, L, rfl, hb3, hXb, hkN, hLk, hupd⟩ := outX_upd (base := [(cellSh, cellO c d), (((.arr 13 .leaf) : Sh), ints cut), (cellSh, CT.zero 49)]) hop rfl (k := k) (by rw [List.length_map, hcl]; exact hk')
    rw [List.length_map, hcl] at *
    rw [List.getElem?_map, curF_at c cut hk', Option.map_some] at hLk
    obtain ⟨ex', hset, ho'⟩ := hupd (meD (foldMe cut (meAt c k))) (pure_meD _)
    rw [list_set_map, curF_next c cut hk'] at ho'
    rw [← List.append_assoc, ← hx] at hXb hset
    have hsh : CT.sh 55 = (.pair .leaf (.pair .leaf (.pair .leaf .unit))) := rfl
    rw [hsh] at hXb hset
    have hx0 : ∀ y, (x ++ [y])[0]? = some (cellSh, cellO c (.sl 55 b 0 c.me.length N)) := fun y => by rw [hx]; rfl
    have hx1 : ∀ y, (x ++ [y])[1]? = some ((.arr 13 .leaf), ints cut) := fun y => by rw [hx]; rfl
    have hxb : x[b]? = some (.arr N ((.pair .leaf (.pair .leaf (.pair .leaf .unit)))), .agg L) := by
      rcases Nat.lt_or_ge b x.length with h | h
      · rwa [List.getElem?_append_left h] at hXb
      · rw [List.getElem?_append_right h] at hXb
        obtain ⟨_, h2⟩ := List.getElem?_eq_some_iff.1 hXb
        have : b - x.length = 0 := by have := (List.getElem?_eq_some_iff.1 hXb).1; simp at this; omega
        simp only [this, List.getElem_cons_zero] at h2
        cases h2
    have hbx := (List.getElem?_eq_some_iff.1 hxb).1
    have hyb : ∀ y, (x ++ [y])[b]? = some (.arr N ((.pair .leaf (.pair .leaf (.pair .leaf .unit)))), .agg L) := fun y => by rw [List.getElem?_append_left hbx]; exact hxb
    simp only [go_sem, Nat.reduceAdd, Nat.reduceSub, Nat.reduceMul, Nat.reduceLT, Nat.reduceLeDiff, ↓reduceIte, reduceCtorEq, Nat.reduceEqDiff, Int.reduceToNat, Int.reduceLT, Int.reduceLE, Int.reduceEq, beq_self_eq_true, hx0, hx1, hxb, hLk, hkN, hcl, hk', indexAddr_sl_t, Nat.zero_add]
    refine callK_h (orset_without (p := hasM cut) (meAt c k).marks (by omega) _ (pred_fold cut hd _ (hx1 _))) ?_
    rintro r b' ⟨rfl, rfl⟩
    simp only [go_sem, Nat.reduceAdd, Nat.reduceSub, Nat.reduceMul, Nat.reduceLT, Nat.reduceLeDiff, ↓reduceIte, reduceCtorEq, Nat.reduceEqDiff, Int.reduceToNat, Int.reduceLT, Int.reduceLE, Int.reduceEq, beq_self_eq_true, hx0, hx1, hyb, hLk, hkN, hcl, hk', indexAddr_sl_t, Nat.zero_add]
    have hs0 : ∀ y v, ((x ++ [y]).set b v)[0]? = some (cellSh, cellO c (.sl 55 b 0 c.me.length N)) := fun y v => by rw [List.getElem?_set_ne (by omega)]; exact hx0 y
    have hsb : ∀ y v, ((x ++ [y]).set b v)[b]? = some v := fun y v => List.getElem?_set_self (by simp; omega)
    have hLs : ∀ v, (L.set k v)[k]? = some v := fun v => List.getElem?_set_self (List.getElem?_eq_some_iff.1 hLk).1
    have hkp : keptL (hasM cut) (meAt c k).marks = foldM (meAt c k).marks cut := rfl
    cases hbs : (meAt c k).base with
    | true =>
      simp only [go_sem, Nat.reduceAdd, Nat.reduceSub, Nat.reduceMul, Nat.reduceLT, Nat.reduceLeDiff, ↓reduceIte, reduceCtorEq, Nat.reduceEqDiff, Int.reduceToNat, Int.reduceLT, Int.reduceLE, Int.reduceEq, beq_self_eq_true, hx0, hx1, hyb, hLk, hkN, hcl, hk', indexAddr_sl_t, Nat.zero_add, hs0, hsb, hLs, List.set_set, hkp, wrapNat k (by omega)]
      exact ⟨c.me.length - (k + 1), by omega, _, ex', k + 1, reg_intro rfl rfl ⟨rfl, by refine Eq.trans ?_ hset; simp [meD, foldMe, hbs, marksD], by omega, ho'⟩⟩
    | false =>
      simp only [go_sem, Nat.reduceAdd, Nat.reduceSub, Nat.reduceMul, Nat.reduceLT, Nat.reduceLeDiff, ↓reduceIte, reduceCtorEq, Nat.reduceEqDiff, Int.reduceToNat, Int.reduceLT, Int.reduceLE, Int.reduceEq, beq_self_eq_true, hx0, hx1, hyb, hLk, hkN, hcl, hk', indexAddr_sl_t, Nat.zero_add, hs0, hsb, hLs, List.set_set, hkp, wrapNat k (by omega)]
      exact ⟨c.me.length - (k + 1), by omega, _, ex', k + 1, reg_intro rfl rfl ⟨rfl, by refine Eq.trans ?_ hset; simp [meD, foldMe, hbs, marksD], by omega, ho'⟩⟩
  · have hi := of_decide_eq_false hc
    obtain rfl : k = c.me.length := by omega
    have hcur : curF c cut c.me.length = c.me.map (foldMe cut) := by simp [curF]
    rw [hcur] at ho
    have hx0 : x[0]? = some (cellSh, cellO c d) := by rw [hx]; rfl
    have hx2 : x[2]? = some (cellSh, CT.zero 49) := by rw [hx]; rfl
    have hxg : ∀ y, (x.set 2 y)[2]? = some y := fun y => List.getElem?_set_self (List.getElem?_eq_some_iff.1 hx2).1
    simp only [go_sem, Nat.reduceAdd, Nat.reduceSub, Nat.reduceMul, Nat.reduceLT, Nat.reduceLeDiff, ↓reduceIte, reduceCtorEq, Nat.reduceEqDiff, Int.reduceToNat, Int.reduceLT, Int.reduceLE, Int.reduceEq, beq_self_eq_true, hx0, hx2, hxg, outX_leaf ho, outX_nrm ho]
    have hb3 : ∀ y : Sh × D, x.set 2 y = [(cellSh, cellO c d), ((.arr 13 .leaf), ints cut), y] ++ ex := fun y => by rw [hx]; rfl
    rw [hb3]
    have hm3 : ∀ y : Sh × D, meltD ([(cellSh, cellO c d), ((.arr 13 .leaf), ints cut), y] ++ ex) 0 (cellO c d) = cellD (foldS c cut) := fun y => by
      have h1 := outX_melt (base := [(cellSh, cellO c d), ((.arr 13 .leaf), ints cut), y]) ho rfl (Nat.zero_le 3)
      rw [e]; simp only [meltD, meltL, cellO, cellD, wrsD, h1]
    refine finH_all ?_ (hm3 _) (pure_cell _) ⟨pure_cell _, rfl⟩
    intro N s' L hmm
    rcases List.mem_append.1 hmm with h | h
    · simp at h
      rw [h.2]; exact pureL_all fun d hd => by obtain ⟨n, _, rfl⟩ := List.mem_map.1 hd; trivial
    · exact ho.1 _ _ _ h
end Go.Ab
