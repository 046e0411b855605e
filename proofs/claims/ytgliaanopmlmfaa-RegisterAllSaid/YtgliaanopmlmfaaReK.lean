/- Registers: the program's functions. Conditions: none. -/
import Derived.Test.YtgliaanopmlmfaaReI
import Derived.Test.YtgliaanopmlmfaaReF
set_option linter.unusedSimpArgs false
namespace Go.Ab
open Go.Proofs

theorem pred_clear (t : TxR) (i : Int) (hd : t.deps.length = 13) (base : List (Sh × D)) {bt bi : Nat} (ht : base[bt]? = some (txSh, txD t)) (hi : base[bi]? = some (.leaf, .lit (.int .i64 i))) :
    PredF 106 [.ptr bt [], .ptr bi []] wrD (bef t i) base := by
  intro x bs hbs
  have ht' : bs[bt]? = some (txSh, txD t) := by rw [hbs _ (List.getElem?_eq_some_iff.1 ht).1]; exact ht
  have hi' : bs[bi]? = some (.leaf, .lit (.int .i64 i)) := by rw [hbs _ (List.getElem?_eq_some_iff.1 hi).1]; exact hi
  have hlt := (List.getElem?_eq_some_iff.1 ht').1
  have hli := (List.getElem?_eq_some_iff.1 hi').1
  have gt : ∀ y, (bs ++ [y])[bt]? = some (txSh, txD t) := fun y => by rw [List.getElem?_append_left hlt]; exact ht'
  have gi : ∀ y, (bs ++ [y])[bi]? = some (.leaf, .lit (.int .i64 i)) := fun y => by rw [List.getElem?_append_left hli]; exact hi'
  refine HSpec.of hT Try.func106 rfl (by kernel_rfl) rfl rfl fun tk => ?_
  simp only [Try.f106, go_sem, Nat.reduceAdd, Nat.reduceSub, Nat.reduceMul, Nat.reduceLT, Nat.reduceLeDiff, ↓reduceIte, reduceCtorEq, Nat.reduceEqDiff, Int.reduceToNat, Int.reduceLT, Int.reduceLE, Int.reduceEq, beq_self_eq_true, gt, gi, hd]
  refine callK_pure (args' := [x.m.d, txD t, .lit (.int .i64 i)]) (ops_before x.m.p x.m.s x.m.i t i hd) (by first | rfl | (simp only [go_sem, Nat.reduceAdd, Nat.reduceSub, Nat.reduceMul, Nat.reduceLT, Nat.reduceLeDiff, ↓reduceIte, reduceCtorEq, Nat.reduceEqDiff, Int.reduceToNat, Int.reduceLT, Int.reduceLE, Int.reduceEq, beq_self_eq_true, hd]; done)) (by first | (simp only [go_sem, Nat.reduceAdd, Nat.reduceSub, Nat.reduceMul, Nat.reduceLT, Nat.reduceLeDiff, ↓reduceIte, reduceCtorEq, Nat.reduceEqDiff, Int.reduceToNat, Int.reduceLT, Int.reduceLE, Int.reduceEq, beq_self_eq_true, hd]; done) | (simp [pureL, pureD]; done)) ?_
  simp only [go_sem, Nat.reduceAdd, Nat.reduceSub, Nat.reduceMul, Nat.reduceLT, Nat.reduceLeDiff, ↓reduceIte, reduceCtorEq, Nat.reduceEqDiff, Int.reduceToNat, Int.reduceLT, Int.reduceLE, Int.reduceEq, beq_self_eq_true]
  have e := finH_drop (ex := [((.pair (.pair (.pair .leaf (.pair .leaf .unit)) (.pair .leaf .unit)) (.pair .leaf (.pair .leaf .unit))), wrD x)]) (bs := bs) (tk := tk) (r := .bool (before x.m.p x.m.s x.m.i t i)) (R := fun r b' => r = .bool (bef t i x) ∧ b' = bs) (by simp) (by simp [meltD, lowD]) ⟨by simp [meltD, bef], rfl⟩ []
  simpa using e

theorem decM (a b : MarkR) : (decide (a.p = b.p) && (decide (a.s = b.s) && decide (a.i = b.i))) = decide (a = b) := by
  rw [Bool.eq_iff_iff]
  cases a; cases b
  simp [MarkR.mk.injEq]
theorem pred_same (x : WriteR) (base : List (Sh × D)) {b : Nat} (hb : base[b]? = some ((.pair (.pair (.pair .leaf (.pair .leaf .unit)) (.pair .leaf .unit)) (.pair .leaf (.pair .leaf .unit))), wrD x)) : PredF 99 [.ptr b []] wrD (sameM x) base := by
  intro w bs hbs
  have hb' : bs[b]? = some ((.pair (.pair (.pair .leaf (.pair .leaf .unit)) (.pair .leaf .unit)) (.pair .leaf (.pair .leaf .unit))), wrD x) := by rw [hbs _ (List.getElem?_eq_some_iff.1 hb).1]; exact hb
  have hlt := (List.getElem?_eq_some_iff.1 hb').1
  have gb : ∀ y, (bs ++ [y])[b]? = some ((.pair (.pair (.pair .leaf (.pair .leaf .unit)) (.pair .leaf .unit)) (.pair .leaf (.pair .leaf .unit))), wrD x) := fun y => by rw [List.getElem?_append_left hlt]; exact hb'
  refine HSpec.of hT Try.func99 rfl (by kernel_rfl) rfl rfl fun tk => ?_
  simp only [Try.f99, go_sem, Nat.reduceAdd, Nat.reduceSub, Nat.reduceMul, Nat.reduceLT, Nat.reduceLeDiff, ↓reduceIte, reduceCtorEq, Nat.reduceEqDiff, Int.reduceToNat, Int.reduceLT, Int.reduceLE, Int.reduceEq, beq_self_eq_true, gb, eqB_mk]
  have e := finH_drop (ex := [((.pair (.pair (.pair .leaf (.pair .leaf .unit)) (.pair .leaf .unit)) (.pair .leaf (.pair .leaf .unit))), wrD w)]) (bs := bs) (tk := tk) (r := .bool (decide (w.m.p = x.m.p) && (decide (w.m.s = x.m.s) && decide (w.m.i = x.m.i)))) (R := fun r b' => r = .bool (sameM x w) ∧ b' = bs) (by simp) (by simp [meltD, lowD]) ⟨by simp only [meltD, sameM, decM], rfl⟩ []
  simpa using e
theorem melt_out {l : List D} {base ex : List (Sh × D)} {d : D} {k : Nat} (hb : base.length = k) (ho : OutM 65 k d ex l) : meltD (base ++ ex) 0 d = .lst 65 l .no := by
  subst hb
  rcases ho with ⟨rfl, rfl, rfl⟩ | ⟨j, N, L, rfl, hj, hL, hlN, hN, hlL, _⟩
  · simp [meltD]
  · have : (base ++ ex)[base.length + j]? = some (.arr N (CT.sh 65), .agg L) := by rw [List.getElem?_append_right (by omega), Nat.add_sub_cancel_left]; exact hj
    simp only [meltD]
    rw [if_pos (by omega), this]
    simp only [List.drop_zero, hlL]
theorem outM_pure {l : List D} {ex : List (Sh × D)} {d : D} {k : Nat} (ho : OutM 65 k d ex l) : ∀ N s L, (Sh.arr N s, D.agg L) ∈ ex → pureL L := by
  rcases ho with ⟨_, _, rfl⟩ | ⟨_, _, _, _, _, _, _, _, _, h⟩
  · simp
  · exact h
theorem finH_all {r : D} {bs : List (Sh × D)} {tk : List Bool} {R : D → List (Sh × D) → Prop} (h3 : ∀ (N : Nat) (s' : Sh) (L : List D), (Sh.arr N s', D.agg L) ∈ bs → pureL L)
    {q : D} (hq : meltD bs 0 r = q) (hp : pureD q) (h5 : R q []) : finH (some r) [] tk R bs tk := by
  have := finH_drop (bs := []) (ex := bs) (tk := tk) (r := r) (R := R) h3 (by simp only [List.nil_append, List.length_nil]; rw [hq]; exact low_of_pure _ hp) (by simp only [List.nil_append, List.length_nil]; rw [hq]; exact h5) []
  simpa using this
theorem pure_cell (c : CellR) : pureD (cellD c) := by simp [pureD, pureL]
theorem melt_cell (bs : List (Sh × D)) (c : CellR) : meltD bs 0 (cellD c) = cellD c := by simp [meltD, meltL]
theorem out_nrmM {k : Nat} {d : D} {ex : List (Sh × D)} {l : List D} (ho : OutM 65 k d ex l) (t : TypeId) : nrm CT t d = d := by
  rcases ho with ⟨rfl, _⟩ | ⟨j, N, L, rfl, _⟩
  · simp only [nrm_lst]
  · simp only [nrm_sl]
theorem out_nrmL {k : Nat} {d : D} {ex : List (Sh × D)} {l : List D} (ho : OutL 65 k d ex l) (t : TypeId) : nrm CT t d = d := by
  rcases ho with ⟨rfl, _⟩ | ⟨j, N, L, rfl, _⟩
  · simp only [nrm_lst]
  · simp only [nrm_sl]
theorem out_leaf {k : Nat} {d : D} {ex : List (Sh × D)} {l : List D} (ho : OutM 65 k d ex l) : hasSh .leaf d := by
  rcases ho with ⟨rfl, _⟩ | ⟨j, N, L, rfl, _⟩ <;> simp [hasSh, D.isLeaf]

set_option maxRecDepth 8000 in
theorem register_clear (c : CellR) (t : TxR) (i : Int) (hd : t.deps.length = 13) (hw : c.wr.length < 1000000000) :
    PSpec Try.prog CT 53 [cellD c, txD t, .lit (.int .i64 i)] (· = cellD (clearR c t i)) := by
  refine HSpec.pure (HSpec.of hT Try.func53 rfl (by kernel_rfl) rfl rfl fun tk => ?_)
  simp only [Try.f53, go_sem, Nat.reduceAdd, Nat.reduceSub, Nat.reduceMul, Nat.reduceLT, Nat.reduceLeDiff, ↓reduceIte, reduceCtorEq, Nat.reduceEqDiff, Int.reduceToNat, Int.reduceLT, Int.reduceLE, Int.reduceEq, beq_self_eq_true, hd]
  refine callK_pure (args' := [cellD c]) (register_check c (by omega)) (by first | rfl | (simp only [go_sem, Nat.reduceAdd, Nat.reduceSub, Nat.reduceMul, Nat.reduceLT, Nat.reduceLeDiff, ↓reduceIte, reduceCtorEq, Nat.reduceEqDiff, Int.reduceToNat, Int.reduceLT, Int.reduceLE, Int.reduceEq, beq_self_eq_true]; done)) (by first | (simp only [go_sem, Nat.reduceAdd, Nat.reduceSub, Nat.reduceMul, Nat.reduceLT, Nat.reduceLeDiff, ↓reduceIte, reduceCtorEq, Nat.reduceEqDiff, Int.reduceToNat, Int.reduceLT, Int.reduceLE, Int.reduceEq, beq_self_eq_true]; done) | (simp [pureL, pureD]; done)) ?_
  simp only [go_sem, Nat.reduceAdd, Nat.reduceSub, Nat.reduceMul, Nat.reduceLT, Nat.reduceLeDiff, ↓reduceIte, reduceCtorEq, Nat.reduceEqDiff, Int.reduceToNat, Int.reduceLT, Int.reduceLE, Int.reduceEq, beq_self_eq_true]
  refine condK_split (fun h1 => ?_) (fun h1 => ?_)
  · simp only [go_sem, Nat.reduceAdd, Nat.reduceSub, Nat.reduceMul, Nat.reduceLT, Nat.reduceLeDiff, ↓reduceIte, reduceCtorEq, Nat.reduceEqDiff, Int.reduceToNat, Int.reduceLT, Int.reduceLE, Int.reduceEq, beq_self_eq_true, hd]
    refine callK_a (clone_wr c.wr .no hw _ _) ?_
    rintro r h' ⟨ex, rfl, ho⟩
    simp only [go_sem, Nat.reduceAdd, Nat.reduceSub, Nat.reduceMul, Nat.reduceLT, Nat.reduceLeDiff, ↓reduceIte, reduceCtorEq, Nat.reduceEqDiff, Int.reduceToNat, Int.reduceLT, Int.reduceLE, Int.reduceEq, beq_self_eq_true, hd, out_nrmL ho]
    refine callK_h (del_wr (p := bef t i) c.wr hw [((.pair .leaf (.pair .leaf (.pair .leaf (.pair .leaf (.pair .leaf (.pair .leaf .unit)))))), cellD c), (txSh, txD t), (.leaf, .lit (.int .i64 i)), ((.pair .leaf (.pair .leaf (.pair .leaf (.pair .leaf (.pair .leaf (.pair .leaf .unit)))))), CT.zero 59)] ex (pred_clear t i hd _ (bt := 1) (bi := 2) rfl rfl) ho) ?_
    rintro r2 b' ⟨ex', rfl, ho'⟩
    simp only [go_sem, Nat.reduceAdd, Nat.reduceSub, Nat.reduceMul, Nat.reduceLT, Nat.reduceLeDiff, ↓reduceIte, reduceCtorEq, Nat.reduceEqDiff, Int.reduceToNat, Int.reduceLT, Int.reduceLE, Int.reduceEq, beq_self_eq_true, hd, out_nrmM ho', out_leaf ho']
    refine finH_all ?_ (q := cellD (clearR c t i)) ?_ (pure_cell _) ⟨pure_cell _, rfl⟩
    · intro N s' L hm
      simp only [List.mem_cons, Prod.mk.injEq, reduceCtorEq, false_and, false_or] at hm
      exact outM_pure ho' N s' L hm
    · have hmo := fun x y z w => melt_out (base := [x, y, z, w]) rfl ho'
      simp only [List.cons_append, List.nil_append] at hmo
      simp only [clearR, h1, if_true, meltD, meltL, hmo]
  · simp only [go_sem, Nat.reduceAdd, Nat.reduceSub, Nat.reduceMul, Nat.reduceLT, Nat.reduceLeDiff, ↓reduceIte, reduceCtorEq, Nat.reduceEqDiff, Int.reduceToNat, Int.reduceLT, Int.reduceLE, Int.reduceEq, beq_self_eq_true]
    refine finH_all ?_ (q := cellD (clearR c t i)) ?_ (pure_cell _) ⟨pure_cell _, rfl⟩
    · intro N s' L hm
      simp at hm
    · simp only [clearR, h1, meltD, meltL, Bool.false_eq_true, if_false]
end Go.Ab
set_option linter.unusedSimpArgs false
namespace Go.Ab
open Go.Proofs

theorem insB_insAt {α : Type} [Inhabited α] {g : α → Bool} {x : α} : ∀ {l : List α} {k : Nat}, k ≤ l.length → (∀ q, q < k → g (l.getD q default) = false) → (k < l.length → g (l.getD k default) = true) → insB g x l = insAt l k x
  | [], k, hk, _, _ => by
    obtain rfl : k = 0 := by simpa using hk
    rfl
  | y :: r, 0, _, _, h => by
    have : g y = true := by simpa using h (by simp)
    simp [insB, insAt, this]
  | y :: r, k + 1, hk, h1, h2 => by
    have hy : g y = false := by simpa using h1 0 (by omega)
    have ih := insB_insAt (g := g) (x := x) (l := r) (k := k) (by simpa using hk) (fun q hq => by simpa using h1 (q + 1) (by omega)) (fun hq => by simpa using h2 (by simpa using hq))
    simp [insB, insAt, hy, ih]
theorem markLt_asymm {a b : MarkR} (h : markLt a b = true) : markLt b a = false := by
  cases hb : markLt b a with
  | false => rfl
  | true =>
    simp only [markLt, Bool.or_eq_true, Bool.and_eq_true, decide_eq_true_eq] at h hb
    omega
theorem markLt_total {a b : MarkR} (h : markLt a b = false) (hne : a ≠ b) : markLt b a = true := by
  cases hb : markLt b a with
  | true => rfl
  | false =>
    exfalso
    apply hne
    cases a; cases b
    simp only [markLt, Bool.or_eq_false_iff, Bool.and_eq_false_iff, decide_eq_false_iff_not] at h hb
    simp only [MarkR.mk.injEq]
    omega
theorem clearR_mem {c : CellR} {t : TxR} {i : Int} {w : WriteR} (h : w ∈ (clearR c t i).wr) : w ∈ c.wr := by
  unfold clearR at h
  split at h
  · exact (List.mem_filter.1 h).1
  · exact h

set_option maxRecDepth 8000 in
set_option maxHeartbeats 2000000 in
theorem register_do (c : CellR) (t : TxR) (i : Int) (sx : ByteArray) (hd : t.deps.length = 13) (hw : c.wr.length < 100000000) :
    PSpec Try.prog CT 49 [cellD c, txD t, .lit (.int .i64 i), .lit (.string sx)] (· = cellD (doR c t i sx)) := by
  refine HSpec.pure (HSpec.of hT Try.func49 rfl (by kernel_rfl) rfl rfl fun tk => ?_)
  simp only [Try.f49, go_sem, Nat.reduceAdd, Nat.reduceSub, Nat.reduceMul, Nat.reduceLT, Nat.reduceLeDiff, ↓reduceIte, reduceCtorEq, Nat.reduceEqDiff, Int.reduceToNat, Int.reduceLT, Int.reduceLE, Int.reduceEq, beq_self_eq_true, hd]
  have early : (checkR c = false ∨ 64 < (sx.size : Int) ∨ i < 1) → doR c t i sx = c := fun h => by rw [doR, if_pos h]
  have leave : ∀ bs : List (Sh × D), (∀ (N : Nat) (s' : Sh) (L : List D), (Sh.arr N s', D.agg L) ∈ bs → pureL L) → doR c t i sx = c → finH (some (cellD c)) [] tk (fun r _ => pureR r ∧ r = cellD (doR c t i sx)) bs tk := fun bs h1 h2 => by
    rw [h2]
    exact finH_all h1 (melt_cell _ _) (pure_cell _) ⟨pure_cell _, rfl⟩
  (repeat' (first | ((refine guardK_split (fun hg => ?_) (fun hg => ?_)) <;> (try simp only [go_sem, Nat.reduceAdd, Nat.reduceSub, Nat.reduceMul, Nat.reduceLT, Nat.reduceLeDiff, ↓reduceIte, reduceCtorEq, Nat.reduceEqDiff, Int.reduceToNat, Int.reduceLT, Int.reduceLE, Int.reduceEq, beq_self_eq_true, hg, hd])) | ((refine condK_split (fun hg => ?_) (fun hg => ?_)) <;> (try simp only [go_sem, Nat.reduceAdd, Nat.reduceSub, Nat.reduceMul, Nat.reduceLT, Nat.reduceLeDiff, ↓reduceIte, reduceCtorEq, Nat.reduceEqDiff, Int.reduceToNat, Int.reduceLT, Int.reduceLE, Int.reduceEq, beq_self_eq_true, hg, hd])) | (refine callK_pure (register_check c (by omega)) ?_ ?_ ?_; (focus (first | rfl | (simp only [go_sem, Nat.reduceAdd, Nat.reduceSub, Nat.reduceMul, Nat.reduceLT, Nat.reduceLeDiff, ↓reduceIte, reduceCtorEq, Nat.reduceEqDiff, Int.reduceToNat, Int.reduceLT, Int.reduceLE, Int.reduceEq, beq_self_eq_true, hd]; done))); (focus (simp only [go_sem, Nat.reduceAdd, Nat.reduceSub, Nat.reduceMul, Nat.reduceLT, Nat.reduceLeDiff, ↓reduceIte, reduceCtorEq, Nat.reduceEqDiff, Int.reduceToNat, Int.reduceLT, Int.reduceLE, Int.reduceEq, beq_self_eq_true, hd]; done)); try simp only [go_sem, Nat.reduceAdd, Nat.reduceSub, Nat.reduceMul, Nat.reduceLT, Nat.reduceLeDiff, ↓reduceIte, reduceCtorEq, Nat.reduceEqDiff, Int.reduceToNat, Int.reduceLT, Int.reduceLE, Int.reduceEq, beq_self_eq_true, hd]) | (refine callD_pure (register_check c (by omega)) ?_ ?_ ?_; (focus (first | rfl | (simp only [go_sem, Nat.reduceAdd, Nat.reduceSub, Nat.reduceMul, Nat.reduceLT, Nat.reduceLeDiff, ↓reduceIte, reduceCtorEq, Nat.reduceEqDiff, Int.reduceToNat, Int.reduceLT, Int.reduceLE, Int.reduceEq, beq_self_eq_true, hd]; done))); (focus (simp only [go_sem, Nat.reduceAdd, Nat.reduceSub, Nat.reduceMul, Nat.reduceLT, Nat.reduceLeDiff, ↓reduceIte, reduceCtorEq, Nat.reduceEqDiff, Int.reduceToNat, Int.reduceLT, Int.reduceLE, Int.reduceEq, beq_self_eq_true, hd]; done)); try simp only [go_sem, Nat.reduceAdd, Nat.reduceSub, Nat.reduceMul, Nat.reduceLT, Nat.reduceLeDiff, ↓reduceIte, reduceCtorEq, Nat.reduceEqDiff, Int.reduceToNat, Int.reduceLT, Int.reduceLE, Int.reduceEq, beq_self_eq_true, hd]) | ((refine Or.inl ⟨by kernel_rfl, ?_⟩) <;> (try simp only [go_sem, Nat.reduceAdd, Nat.reduceSub, Nat.reduceMul, Nat.reduceLT, Nat.reduceLeDiff, ↓reduceIte, reduceCtorEq, Nat.reduceEqDiff, Int.reduceToNat, Int.reduceLT, Int.reduceLE, Int.reduceEq, beq_self_eq_true, hd])))) <;> (first | done | (exact leave _ (by intro N s' L hm; simp at hm) (early (by first | (simp_all; done) | (simp_all; omega)))) | skip)
  have hck : checkR c = true := by simp_all
  have hne : ¬ (checkR c = false ∨ 64 < (sx.size : Int) ∨ i < 1) := by
    simp only [decide_eq_true_eq, decide_eq_false_iff_not] at *
    rintro (h | h | h)
    · rw [hck] at h; cases h
    · omega
    · omega
  refine callK_h (containsFunc_lst (p := sameM (xw t i sx)) c.wr .no (by omega) _ (pred_same (xw t i sx) _ (b := 3) rfl)) ?_
  rintro r b' ⟨rfl, rfl⟩
  simp only [go_sem, Nat.reduceAdd, Nat.reduceSub, Nat.reduceMul, Nat.reduceLT, Nat.reduceLeDiff, ↓reduceIte, reduceCtorEq, Nat.reduceEqDiff, Int.reduceToNat, Int.reduceLT, Int.reduceLE, Int.reduceEq, beq_self_eq_true, hd]
  refine condK_split (fun h2 => ?_) (fun h2 => ?_)
  · have : doR c t i sx = c := by rw [doR, if_neg hne, if_pos h2]
    simp only [go_sem, Nat.reduceAdd, Nat.reduceSub, Nat.reduceMul, Nat.reduceLT, Nat.reduceLeDiff, ↓reduceIte, reduceCtorEq, Nat.reduceEqDiff, Int.reduceToNat, Int.reduceLT, Int.reduceLE, Int.reduceEq, beq_self_eq_true]
    exact leave _ (by intro N s' L hm; simp at hm) this
  obtain ⟨s1, s2, s3, s4, s5, s6⟩ := clearR_shape c t i
  have hdo : doR c t i sx = { clearR c t i with wr := insB (goesM (xw t i sx)) (xw t i sx) (clearR c t i).wr } := by rw [doR, if_neg hne, h2]; simp
  have hnm : ∀ q, q < (clearR c t i).wr.length → ((clearR c t i).wr.getD q default).m ≠ (xw t i sx).m := by
    intro q hq he
    have hm := clearR_mem (c := c) (t := t) (i := i) (w := (clearR c t i).wr.getD q default) (by rw [List.getD_eq_getElem?_getD, List.getElem?_eq_getElem hq]; exact List.getElem_mem hq)
    have := List.any_eq_false.1 h2 _ hm
    exact this (by simp only [sameM, he, decide_true])
  simp only [go_sem, Nat.reduceAdd, Nat.reduceSub, Nat.reduceMul, Nat.reduceLT, Nat.reduceLeDiff, ↓reduceIte, reduceCtorEq, Nat.reduceEqDiff, Int.reduceToNat, Int.reduceLT, Int.reduceLE, Int.reduceEq, beq_self_eq_true, hd]
  refine callK_pure (args' := [cellD c, txD t, .lit (.int .i64 i)]) (register_clear c t i hd (by omega)) (by first | rfl | (simp only [go_sem, Nat.reduceAdd, Nat.reduceSub, Nat.reduceMul, Nat.reduceLT, Nat.reduceLeDiff, ↓reduceIte, reduceCtorEq, Nat.reduceEqDiff, Int.reduceToNat, Int.reduceLT, Int.reduceLE, Int.reduceEq, beq_self_eq_true, hd]; done)) (by first | (simp only [go_sem, Nat.reduceAdd, Nat.reduceSub, Nat.reduceMul, Nat.reduceLT, Nat.reduceLeDiff, ↓reduceIte, reduceCtorEq, Nat.reduceEqDiff, Int.reduceToNat, Int.reduceLT, Int.reduceLE, Int.reduceEq, beq_self_eq_true, hd]; done) | (simp [pureL, pureD]; done)) ?_
  generalize clearR c t i = d at *
  simp only [go_sem, Nat.reduceAdd, Nat.reduceSub, Nat.reduceMul, Nat.reduceLT, Nat.reduceLeDiff, ↓reduceIte, reduceCtorEq, Nat.reduceEqDiff, Int.reduceToNat, Int.reduceLT, Int.reduceLE, Int.reduceEq, beq_self_eq_true, hd]
  refine awp_loop (fun m s => ∃ (k : Nat) (g : Nat → D), s = ⟨[g 0, g 1, .lit (.int .i64 i), g 3, .ptr 0 [], .ptr 1 [], g 6, g 7, .ptr 2 [], .ptr 3 [], .lit (.int .i64 k), g 11, g 12, g 13, g 14, g 15, g 16, g 17, g 18, g 19, g 20, g 21, g 22, g 23, g 24, g 25, g 26, g 27, g 28, g 29, g 30, g 31, g 32, g 33, g 34, g 35, g 36, g 37, g 38, g 39, g 40, g 41, g 42, g 43, g 44, g 45, g 46, g 47, g 48, g 49, g 50, g 51, g 52, g 53, g 54, g 55, g 56, g 57, g 58, g 59, g 60, g 61, g 62, g 63, g 64, g 65, g 66, g 67], ⟨[((.pair .leaf (.pair .leaf (.pair .leaf (.pair .leaf (.pair .leaf (.pair .leaf .unit)))))), cellD d), (txSh, txD t), ((.pair .leaf (.pair .leaf (.pair .leaf (.pair .leaf (.pair .leaf (.pair .leaf .unit)))))), CT.zero 59), ((.pair (.pair (.pair .leaf (.pair .leaf .unit)) (.pair .leaf .unit)) (.pair .leaf (.pair .leaf .unit))), wrD (xw t i sx))], tk⟩⟩ ∧ m = d.wr.length - k ∧ k ≤ d.wr.length ∧ ∀ q, q < k → goesM (xw t i sx) (d.wr.getD q default) = false) d.wr.length ⟨0, reg_intro rfl rfl ⟨by simp, by omega, by simp⟩⟩ ?_
  rintro m st ⟨k, g, rfl, hn, hk, hp⟩
  have hfin : (k < d.wr.length → goesM (xw t i sx) (d.wr.getD k default) = true) → doR c t i sx = { d with wr := insAt d.wr k (xw t i sx) } := fun h => by rw [hdo, insB_insAt hk hp h]
  simp only [go_sem, Nat.reduceAdd, Nat.reduceSub, Nat.reduceMul, Nat.reduceLT, Nat.reduceLeDiff, ↓reduceIte, reduceCtorEq, Nat.reduceEqDiff, Int.reduceToNat, Int.reduceLT, Int.reduceLE, Int.reduceEq, beq_self_eq_true, hd]
  refine .inl ⟨by kernel_rfl, ?_⟩
  refine guardK_split (fun hc => ?_) (fun hc => ?_)
  · have hk' : k < d.wr.length := by have := of_decide_eq_true hc; omega
    simp only [go_sem, Nat.reduceAdd, Nat.reduceSub, Nat.reduceMul, Nat.reduceLT, Nat.reduceLeDiff, ↓reduceIte, reduceCtorEq, Nat.reduceEqDiff, Int.reduceToNat, Int.reduceLT, Int.reduceLE, Int.reduceEq, beq_self_eq_true, hd, hc, hk', get_wr]
    refine callD_pure (ops_less (wrAt d k).m ⟨t.peer, t.seq, i⟩) (by first | rfl | (simp only [go_sem, Nat.reduceAdd, Nat.reduceSub, Nat.reduceMul, Nat.reduceLT, Nat.reduceLeDiff, ↓reduceIte, reduceCtorEq, Nat.reduceEqDiff, Int.reduceToNat, Int.reduceLT, Int.reduceLE, Int.reduceEq, beq_self_eq_true]; done)) (by first | (simp only [go_sem, Nat.reduceAdd, Nat.reduceSub, Nat.reduceMul, Nat.reduceLT, Nat.reduceLeDiff, ↓reduceIte, reduceCtorEq, Nat.reduceEqDiff, Int.reduceToNat, Int.reduceLT, Int.reduceLE, Int.reduceEq, beq_self_eq_true]; done) | (simp [pureL, pureD]; done)) ?_
    simp only [go_sem, Nat.reduceAdd, Nat.reduceSub, Nat.reduceMul, Nat.reduceLT, Nat.reduceLeDiff, ↓reduceIte, reduceCtorEq, Nat.reduceEqDiff, Int.reduceToNat, Int.reduceLT, Int.reduceLE, Int.reduceEq, beq_self_eq_true, hc]
    refine condK_split (fun h3 => ?_) (fun h3 => ?_)
    · simp only [go_sem, Nat.reduceAdd, Nat.reduceSub, Nat.reduceMul, Nat.reduceLT, Nat.reduceLeDiff, ↓reduceIte, reduceCtorEq, Nat.reduceEqDiff, Int.reduceToNat, Int.reduceLT, Int.reduceLE, Int.reduceEq, beq_self_eq_true, wrapNat k (by omega)]
      exact ⟨d.wr.length - (k + 1), by omega, k + 1, reg_intro rfl rfl ⟨rfl, by omega, next_bad hp (markLt_asymm h3)⟩⟩
    · have hf := hfin fun _ => markLt_total h3 (hnm k hk')
      simp only [go_sem, Nat.reduceAdd, Nat.reduceSub, Nat.reduceMul, Nat.reduceLT, Nat.reduceLeDiff, ↓reduceIte, reduceCtorEq, Nat.reduceEqDiff, Int.reduceToNat, Int.reduceLT, Int.reduceLE, Int.reduceEq, beq_self_eq_true, hd]
      refine .inr (drawN_calls [0, 1, 3, 4, 5] [2, 6] [7, 8] (by kernel_rfl) ?_)
      simp only [go_sem, Nat.reduceAdd, Nat.reduceSub, Nat.reduceMul, Nat.reduceLT, Nat.reduceLeDiff, ↓reduceIte, reduceCtorEq, Nat.reduceEqDiff, Int.reduceToNat, Int.reduceLT, Int.reduceLE, Int.reduceEq, beq_self_eq_true, hd]
      refine callsD_call (args' := [wrsD d.wr .no]) rfl (by simp only [go_sem, Nat.reduceAdd, Nat.reduceSub, Nat.reduceMul, Nat.reduceLT, Nat.reduceLeDiff, ↓reduceIte, reduceCtorEq, Nat.reduceEqDiff, Int.reduceToNat, Int.reduceLT, Int.reduceLE, Int.reduceEq, beq_self_eq_true]) (clone_wr d.wr .no (by omega) _ _) ?_
      rintro r h' ⟨ex, rfl, ho⟩
      refine ⟨Hle.of rfl, ?_⟩
      simp only [go_sem, Nat.reduceAdd, Nat.reduceSub, Nat.reduceMul, Nat.reduceLT, Nat.reduceLeDiff, ↓reduceIte, reduceCtorEq, Nat.reduceEqDiff, Int.reduceToNat, Int.reduceLT, Int.reduceLE, Int.reduceEq, beq_self_eq_true]
      refine callsD_call (args' := [r, .lit (.int .i64 k), wrsD [xw t i sx] .full]) rfl (by simp only [go_sem, Nat.reduceAdd, Nat.reduceSub, Nat.reduceMul, Nat.reduceLT, Nat.reduceLeDiff, ↓reduceIte, reduceCtorEq, Nat.reduceEqDiff, Int.reduceToNat, Int.reduceLT, Int.reduceLE, Int.reduceEq, beq_self_eq_true, out_nrmL ho, List.map_cons, List.map_nil]; rfl) (insert_wr d.wr (xw t i sx) .full k hk (by omega) [((.pair .leaf (.pair .leaf (.pair .leaf (.pair .leaf (.pair .leaf (.pair .leaf .unit)))))), cellD d), (txSh, txD t), ((.pair .leaf (.pair .leaf (.pair .leaf (.pair .leaf (.pair .leaf (.pair .leaf .unit)))))), CT.zero 59), ((.pair (.pair (.pair .leaf (.pair .leaf .unit)) (.pair .leaf .unit)) (.pair .leaf (.pair .leaf .unit))), wrD (xw t i sx))] ex tk ho) ?_
      rintro r2 h2 ⟨ex', rfl, ho'⟩
      refine ⟨Hle.of rfl, ?_⟩
      show aopsN _ _ _ _ _ _
      simp only [go_sem, Nat.reduceAdd, Nat.reduceSub, Nat.reduceMul, Nat.reduceLT, Nat.reduceLeDiff, ↓reduceIte, reduceCtorEq, Nat.reduceEqDiff, Int.reduceToNat, Int.reduceLT, Int.reduceLE, Int.reduceEq, beq_self_eq_true]
      refine aopsN_at rfl rfl ?_
      simp only [go_sem, Nat.reduceAdd, Nat.reduceSub, Nat.reduceMul, Nat.reduceLT, Nat.reduceLeDiff, ↓reduceIte, reduceCtorEq, Nat.reduceEqDiff, Int.reduceToNat, Int.reduceLT, Int.reduceLE, Int.reduceEq, beq_self_eq_true, hd]
      refine aopsN_at rfl rfl ?_
      simp only [go_sem, Nat.reduceAdd, Nat.reduceSub, Nat.reduceMul, Nat.reduceLT, Nat.reduceLeDiff, ↓reduceIte, reduceCtorEq, Nat.reduceEqDiff, Int.reduceToNat, Int.reduceLT, Int.reduceLE, Int.reduceEq, beq_self_eq_true, hd, out_nrmM ho', out_leaf ho', aopsN_nil]
      refine finH_all ?_ (q := cellD (doR c t i sx)) ?_ (pure_cell _) ⟨pure_cell _, rfl⟩
      · intro N s' L hm
        simp only [List.mem_cons, Prod.mk.injEq, reduceCtorEq, false_and, false_or] at hm
        exact outM_pure ho' N s' L hm
      · have hmo := fun x y z w => melt_out (base := [x, y, z, w]) rfl ho'
        simp only [List.cons_append, List.nil_append] at hmo
        rw [hf]
        simp only [meltD, meltL, hmo]
  · have hf := hfin fun h => absurd h (by have := of_decide_eq_false hc; omega)
    simp only [go_sem, Nat.reduceAdd, Nat.reduceSub, Nat.reduceMul, Nat.reduceLT, Nat.reduceLeDiff, ↓reduceIte, reduceCtorEq, Nat.reduceEqDiff, Int.reduceToNat, Int.reduceLT, Int.reduceLE, Int.reduceEq, beq_self_eq_true, hd, hc]
    refine .inr (drawN_calls [0, 1, 3, 4, 5] [2, 6] [7, 8] (by kernel_rfl) ?_)
    simp only [go_sem, Nat.reduceAdd, Nat.reduceSub, Nat.reduceMul, Nat.reduceLT, Nat.reduceLeDiff, ↓reduceIte, reduceCtorEq, Nat.reduceEqDiff, Int.reduceToNat, Int.reduceLT, Int.reduceLE, Int.reduceEq, beq_self_eq_true, hd]
    refine callsD_call (args' := [wrsD d.wr .no]) rfl (by simp only [go_sem, Nat.reduceAdd, Nat.reduceSub, Nat.reduceMul, Nat.reduceLT, Nat.reduceLeDiff, ↓reduceIte, reduceCtorEq, Nat.reduceEqDiff, Int.reduceToNat, Int.reduceLT, Int.reduceLE, Int.reduceEq, beq_self_eq_true]) (clone_wr d.wr .no (by omega) _ _) ?_
    rintro r h' ⟨ex, rfl, ho⟩
    refine ⟨Hle.of rfl, ?_⟩
    simp only [go_sem, Nat.reduceAdd, Nat.reduceSub, Nat.reduceMul, Nat.reduceLT, Nat.reduceLeDiff, ↓reduceIte, reduceCtorEq, Nat.reduceEqDiff, Int.reduceToNat, Int.reduceLT, Int.reduceLE, Int.reduceEq, beq_self_eq_true]
    refine callsD_call (args' := [r, .lit (.int .i64 k), wrsD [xw t i sx] .full]) rfl (by simp only [go_sem, Nat.reduceAdd, Nat.reduceSub, Nat.reduceMul, Nat.reduceLT, Nat.reduceLeDiff, ↓reduceIte, reduceCtorEq, Nat.reduceEqDiff, Int.reduceToNat, Int.reduceLT, Int.reduceLE, Int.reduceEq, beq_self_eq_true, out_nrmL ho, List.map_cons, List.map_nil]; rfl) (insert_wr d.wr (xw t i sx) .full k hk (by omega) [((.pair .leaf (.pair .leaf (.pair .leaf (.pair .leaf (.pair .leaf (.pair .leaf .unit)))))), cellD d), (txSh, txD t), ((.pair .leaf (.pair .leaf (.pair .leaf (.pair .leaf (.pair .leaf (.pair .leaf .unit)))))), CT.zero 59), ((.pair (.pair (.pair .leaf (.pair .leaf .unit)) (.pair .leaf .unit)) (.pair .leaf (.pair .leaf .unit))), wrD (xw t i sx))] ex tk ho) ?_
    rintro r2 h2 ⟨ex', rfl, ho'⟩
    refine ⟨Hle.of rfl, ?_⟩
    show aopsN _ _ _ _ _ _
    simp only [go_sem, Nat.reduceAdd, Nat.reduceSub, Nat.reduceMul, Nat.reduceLT, Nat.reduceLeDiff, ↓reduceIte, reduceCtorEq, Nat.reduceEqDiff, Int.reduceToNat, Int.reduceLT, Int.reduceLE, Int.reduceEq, beq_self_eq_true]
    refine aopsN_at rfl rfl ?_
    simp only [go_sem, Nat.reduceAdd, Nat.reduceSub, Nat.reduceMul, Nat.reduceLT, Nat.reduceLeDiff, ↓reduceIte, reduceCtorEq, Nat.reduceEqDiff, Int.reduceToNat, Int.reduceLT, Int.reduceLE, Int.reduceEq, beq_self_eq_true, hd]
    refine aopsN_at rfl rfl ?_
    simp only [go_sem, Nat.reduceAdd, Nat.reduceSub, Nat.reduceMul, Nat.reduceLT, Nat.reduceLeDiff, ↓reduceIte, reduceCtorEq, Nat.reduceEqDiff, Int.reduceToNat, Int.reduceLT, Int.reduceLE, Int.reduceEq, beq_self_eq_true, hd, out_nrmM ho', out_leaf ho', aopsN_nil]
    refine finH_all ?_ (q := cellD (doR c t i sx)) ?_ (pure_cell _) ⟨pure_cell _, rfl⟩
    · intro N s' L hm
      simp only [List.mem_cons, Prod.mk.injEq, reduceCtorEq, false_and, false_or] at hm
      exact outM_pure ho' N s' L hm
    · have hmo := fun x y z w => melt_out (base := [x, y, z, w]) rfl ho'
      simp only [List.cons_append, List.nil_append] at hmo
      rw [hf]
      simp only [meltD, meltL, hmo]
end Go.Ab
