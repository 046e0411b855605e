/- What a vector has not of a log: the iterator, and who goes over it. Conditions: none. -/
import Derived.Test.YtebfpijbnklaiaaAbRf
import Derived.Test.YtebfpijbnklaiaaStF
set_option linter.unusedSimpArgs false
namespace Go.Ab
open Go.Proofs

/-- What a vector has not. -/
def lackR (l : List TxR) (v : List Int) : List TxR := l.filter fun t => !vhas v t.peer t.seq

theorem digest_lacking (l : List TxR) (v : List Int) (hv : v.length = 13) (bs : List (Sh × D)) : HSpec Try.prog CT 49 [txsD l, ints v] bs fun r bs' =>
    r = .fn (.func 65) [.ptr bs.length [], .ptr (bs.length + 1) []] ∧ bs' = bs ++ [(.leaf, txsD l), (.arr 13 .leaf, ints v)] := by
  refine HSpec.of hT Try.func49 rfl (by kernel_rfl) rfl rfl fun tk => ?_
  simp only [Try.f49, go_sem, Nat.reduceAdd, Nat.reduceSub, Nat.reduceMul, Nat.reduceLT, Nat.reduceLeDiff, ↓reduceIte, reduceCtorEq, Nat.reduceEqDiff, Int.reduceToNat, Int.reduceLT, Int.reduceLE, Int.reduceEq, beq_self_eq_true, hv]
  refine finH_keep (by simp) ?_ ?_ ⟨by simp [meltD], by simp⟩
  · intro p x hx
    rw [List.append_assoc, List.getElem?_append] at hx
    split at hx
    · exact .inr (.inr hx)
    · have : x ∈ ([(Sh.leaf, D.lst 33 (l.map txD) Tok.no), (Sh.arr 13 Sh.leaf, ints v)] : List (Sh × D)) := List.mem_of_getElem? hx
      simp only [List.mem_cons, List.not_mem_nil, or_false] at this
      rcases this with rfl | rfl
      · exact .inr (.inl trivial)
      · refine .inr (.inl ?_)
        simp only [lowD]
        rw [lowL_iff]
        intro x hx
        obtain ⟨n, _, rfl⟩ := List.mem_map.1 hx
        trivial
  · simp [meltD, lowD, lowL]

theorem lackR_snoc (l : List TxR) (v : List Int) (k : Nat) (hk : k < l.length) : lackR (l.take (k + 1)) v = if vhas v (txAt l k).peer (txAt l k).seq = true then lackR (l.take k) v else lackR (l.take k) v ++ [txAt l k] := by
  have : l.take (k + 1) = l.take k ++ [txAt l k] := by rw [List.take_add_one, txAt, List.getD_eq_getElem?_getD, List.getElem?_eq_getElem hk]; rfl
  rw [this]
  unfold lackR
  rw [List.filter_append]
  by_cases h : vhas v (txAt l k).peer (txAt l k).seq = true <;> simp [h]

theorem digest_lacking1 (Y : Hook) (l : List TxR) (v : List Int) (hv : v.length = 13) (ho : TxsOk l) (hl : l.length ≤ 2000) (i j y : Nat) (J : List TxR → List (Sh × D) → List Bool → Prop)
    (hJ : ∀ pre bs tk x, J pre bs tk → J pre (bs ++ [x]) tk)
    (hb : ∀ pre bs tk, J pre bs tk → bs[i]? = some (.leaf, txsD l) ∧ bs[j]? = some (.arr 13 .leaf, ints v))
    (hY : ∀ pre bs tk k, k < l.length → pre = lackR (l.take k) v → J pre bs tk → Y y [txD (txAt l k)] ⟨bs, tk⟩ fun r h' => r = .lit (.bool true) ∧ ∃ bs' tk', h' = ⟨bs', tk'⟩ ∧ J (pre ++ [txAt l k]) bs' tk')
    (bs : List (Sh × D)) (tk : List Bool) (h0 : J [] bs tk) :
    YSpec Try.prog CT 65 [.fn (.yield y) [], .ptr i [], .ptr j []] ⟨bs, tk⟩ Y fun _ h' => ∃ bs' tk', h' = ⟨bs', tk'⟩ ∧ J (lackR l v) bs' tk' := by
  refine YSpec.of hT Try.func65 rfl (by kernel_rfl) rfl rfl ?_
  obtain ⟨b1, b2⟩ := hb _ _ _ h0
  simp only [Try.f65, go_sem, Nat.reduceAdd, Nat.reduceSub, Nat.reduceMul, Nat.reduceLT, Nat.reduceLeDiff, ↓reduceIte, reduceCtorEq, Nat.reduceEqDiff, Int.reduceToNat, Int.reduceLT, Int.reduceLE, Int.reduceEq, beq_self_eq_true, hv, b1]
  refine awpY_loop _ _ _ (fun n s => ∃ (k : Nat) (bs : List (Sh × D)) (tk : List Bool) (g : Nat → D), s = ⟨[.fn (.yield y) [], .ptr i [], .ptr j [], g 3, g 4, g 5, txsD l, .lit (.int .i64 l.length), .lit (.int .i64 k), g 9, g 10, g 11, g 12, g 13, g 14, g 15, g 16, g 17, g 18, g 19, g 20, g 21, g 22, g 23], ⟨bs, tk⟩⟩ ∧ n = l.length - k ∧ k ≤ l.length ∧ J (lackR (l.take k) v) bs tk) l.length ⟨0, bs, tk, reg_intro rfl rfl ⟨by simp, by omega, h0⟩⟩ ?_
  clear b1 b2 h0 bs tk
  rintro n s ⟨k, bs, tk, g, rfl, hn, hk, hj⟩
  simp only [go_sem, Nat.reduceAdd, Nat.reduceSub, Nat.reduceMul, Nat.reduceLT, Nat.reduceLeDiff, ↓reduceIte, reduceCtorEq, Nat.reduceEqDiff, Int.reduceToNat, Int.reduceLT, Int.reduceLE, Int.reduceEq, beq_self_eq_true]
  refine condK_split (fun hc => ?_) (fun hc => ?_)
  · have hk' : k < l.length := by have := of_decide_eq_true hc; omega
    obtain ⟨hd, _⟩ := txsOk_at ho hk'
    have b2 := (hb _ _ _ (hJ _ _ _ (txSh, txD (txAt l k)) hj)).2
    simp only [go_sem, Nat.reduceAdd, Nat.reduceSub, Nat.reduceMul, Nat.reduceLT, Nat.reduceLeDiff, ↓reduceIte, reduceCtorEq, Nat.reduceEqDiff, Int.reduceToNat, Int.reduceLT, Int.reduceLE, Int.reduceEq, beq_self_eq_true, hk', get_txs, hd, b2, hv, txSh]
    refine callK_pure (vec_has v (txAt l k).peer (txAt l k).seq hv) (by simp only [go_sem, Nat.reduceAdd, Nat.reduceSub, Nat.reduceMul, Nat.reduceLT, Nat.reduceLeDiff, ↓reduceIte, reduceCtorEq, Nat.reduceEqDiff, Int.reduceToNat, Int.reduceLT, Int.reduceLE, Int.reduceEq, beq_self_eq_true, hk', get_txs, hd, b2, hv]) (by simp only [go_sem, Nat.reduceAdd, Nat.reduceSub, Nat.reduceMul, Nat.reduceLT, Nat.reduceLeDiff, ↓reduceIte, reduceCtorEq, Nat.reduceEqDiff, Int.reduceToNat, Int.reduceLT, Int.reduceLE, Int.reduceEq, beq_self_eq_true, hk', get_txs, hd, b2, hv]) ?_; simp only [go_sem, Nat.reduceAdd, Nat.reduceSub, Nat.reduceMul, Nat.reduceLT, Nat.reduceLeDiff, ↓reduceIte, reduceCtorEq, Nat.reduceEqDiff, Int.reduceToNat, Int.reduceLT, Int.reduceLE, Int.reduceEq, beq_self_eq_true, hk', get_txs, hd, b2, hv]
    refine guardK_split (fun h1 => ?_) (fun h1 => ?_)
    · simp only [Bool.not_eq_true'] at h1
      simp only [go_sem, Nat.reduceAdd, Nat.reduceSub, Nat.reduceMul, Nat.reduceLT, Nat.reduceLeDiff, ↓reduceIte, reduceCtorEq, Nat.reduceEqDiff, Int.reduceToNat, Int.reduceLT, Int.reduceLE, Int.reduceEq, beq_self_eq_true, h1, hk', get_txs, hd, hv]
      refine valK_intro _ _ _ _ (hY _ _ _ k hk' rfl (hJ _ _ _ _ hj)) ?_
      rintro r h' ⟨rfl, bs', tk', rfl, hj'⟩
      simp only [go_sem, Nat.reduceAdd, Nat.reduceSub, Nat.reduceMul, Nat.reduceLT, Nat.reduceLeDiff, ↓reduceIte, reduceCtorEq, Nat.reduceEqDiff, Int.reduceToNat, Int.reduceLT, Int.reduceLE, Int.reduceEq, beq_self_eq_true, wrapNat k (by omega)]
      refine ⟨l.length - (k + 1), by omega, k + 1, bs', tk', reg_intro rfl rfl ⟨rfl, by omega, ?_⟩⟩
      rw [lackR_snoc l v k hk', if_neg (by rw [h1]; simp)]
      exact hj'
    · simp only [Bool.not_eq_false'] at h1
      simp only [go_sem, Nat.reduceAdd, Nat.reduceSub, Nat.reduceMul, Nat.reduceLT, Nat.reduceLeDiff, ↓reduceIte, reduceCtorEq, Nat.reduceEqDiff, Int.reduceToNat, Int.reduceLT, Int.reduceLE, Int.reduceEq, beq_self_eq_true, h1, hk', get_txs, hd, hv, wrapNat k (by omega)]
      refine ⟨l.length - (k + 1), by omega, k + 1, _, tk, reg_intro rfl rfl ⟨rfl, by omega, ?_⟩⟩
      rw [lackR_snoc l v k hk', if_pos h1]
      exact hJ _ _ _ _ hj
  · have hi := of_decide_eq_false hc
    obtain rfl : k = l.length := by omega
    rw [List.take_of_length_le (Nat.le_refl _)] at hj
    simp only [go_sem, Nat.reduceAdd, Nat.reduceSub, Nat.reduceMul, Nat.reduceLT, Nat.reduceLeDiff, ↓reduceIte, reduceCtorEq, Nat.reduceEqDiff, Int.reduceToNat, Int.reduceLT, Int.reduceLE, Int.reduceEq, beq_self_eq_true]
    exact ⟨_, _, rfl, hj⟩

theorem lackR_len (l : List TxR) (v : List Int) : (lackR l v).length ≤ l.length := List.length_filter_le ..

theorem digest_extra (l : List TxR) (v : List Int) (hv : v.length = 13) (ho : TxsOk l) (hl : l.length ≤ 2000) : PSpec Try.prog CT 16 [txsD l, ints v] (· = txsD (lackR l v)) := by
  refine PSpec.ofRange hT Try.func16 rfl (by kernel_rfl) rfl rfl ?_
  simp only [Try.f16, go_sem, Nat.reduceAdd, Nat.reduceSub, Nat.reduceMul, Nat.reduceLT, Nat.reduceLeDiff, ↓reduceIte, reduceCtorEq, Nat.reduceEqDiff, Int.reduceToNat, Int.reduceLT, Int.reduceLE, Int.reduceEq, beq_self_eq_true, hv]
  refine callK_h (digest_lacking l v hv _) ?_
  rintro r bs' ⟨rfl, rfl⟩
  simp only [go_sem, Nat.reduceAdd, Nat.reduceSub, Nat.reduceMul, Nat.reduceLT, Nat.reduceLeDiff, ↓reduceIte, reduceCtorEq, Nat.reduceEqDiff, Int.reduceToNat, Int.reduceLT, Int.reduceLE, Int.reduceEq, beq_self_eq_true, hv]
  refine rangeK_fn _ _ (fun _ h' => ∃ bs' tk', h' = ⟨bs', tk'⟩ ∧ ∃ t ex, bs' = (.arr 13 .leaf, ints v) :: (.leaf, .lst 33 ((lackR l v).map txD) t) :: (.leaf, txsD l) :: (.arr 13 .leaf, ints v) :: ex ∧ live t tk') (fun y => ?_) ?_
  · refine digest_lacking1 _ l v hv ho hl 2 3 y (fun pre bs' tk' => ∃ t ex, bs' = (.arr 13 .leaf, ints v) :: (.leaf, .lst 33 (pre.map txD) t) :: (.leaf, txsD l) :: (.arr 13 .leaf, ints v) :: ex ∧ live t tk') ?_ ?_ ?_ _ _ ⟨.full, [], rfl, trivial⟩
    · rintro pre bs tk x ⟨t, ex, rfl, ht⟩
      exact ⟨t, ex ++ [x], rfl, ht⟩
    · rintro pre bs tk ⟨t, ex, rfl, ht⟩
      exact ⟨rfl, rfl⟩
    · rintro pre bs tk k hk hpre ⟨t, ex, rfl, ht⟩
      refine roundHook_intro rfl ?_
      obtain ⟨hd, _⟩ := txsOk_at ho hk
      have hpl : pre.length ≤ 2000 := by rw [hpre]; have := lackR_len (l.take k) v; simp at this; omega
      simp only [go_sem, Nat.reduceAdd, Nat.reduceSub, Nat.reduceMul, Nat.reduceLT, Nat.reduceLeDiff, ↓reduceIte, reduceCtorEq, Nat.reduceEqDiff, Int.reduceToNat, Int.reduceLT, Int.reduceLE, Int.reduceEq, beq_self_eq_true, hd, hv]
      refine appK_live _ _ _ _ _ _ _ _ _ _ ht (by simp) (by simp only [go_sem, Nat.reduceAdd, Nat.reduceSub, Nat.reduceMul, Nat.reduceLT, Nat.reduceLeDiff, ↓reduceIte, reduceCtorEq, Nat.reduceEqDiff, Int.reduceToNat, Int.reduceLT, Int.reduceLE, Int.reduceEq, beq_self_eq_true]) (by simp only [go_sem, Nat.reduceAdd, Nat.reduceSub, Nat.reduceMul, Nat.reduceLT, Nat.reduceLeDiff, ↓reduceIte, reduceCtorEq, Nat.reduceEqDiff, Int.reduceToNat, Int.reduceLT, Int.reduceLE, Int.reduceEq, beq_self_eq_true, List.length_map]; omega) (fun u tk' hu => ?_)
      simp only [go_sem, Nat.reduceAdd, Nat.reduceSub, Nat.reduceMul, Nat.reduceLT, Nat.reduceLeDiff, ↓reduceIte, reduceCtorEq, Nat.reduceEqDiff, Int.reduceToNat, Int.reduceLT, Int.reduceLE, Int.reduceEq, beq_self_eq_true, hd, hv, txs_snoc]
      exact ⟨_, _, rfl, u, _, rfl, hu⟩
  · rintro r h' ⟨bs', tk', rfl, t, ex, rfl, ht⟩
    simp only [go_sem, Nat.reduceAdd, Nat.reduceSub, Nat.reduceMul, Nat.reduceLT, Nat.reduceLeDiff, ↓reduceIte, reduceCtorEq, Nat.reduceEqDiff, Int.reduceToNat, Int.reduceLT, Int.reduceLE, Int.reduceEq, beq_self_eq_true, hv]
end Go.Ab
set_option linter.unusedSimpArgs false
namespace Go.Ab
open Go.Proofs

theorem digest_covers (a b : List Int) (ha : a.length = 13) (hb : b.length = 13) : PSpec Try.prog CT 52 [ints a, ints b] (· = .bool (vleq b a)) := by
  refine PSpec.of hT Try.func52 rfl (by kernel_rfl) rfl rfl ?_
  simp only [Try.f52, go_sem, Nat.reduceAdd, Nat.reduceSub, Nat.reduceMul, Nat.reduceLT, Nat.reduceLeDiff, ↓reduceIte, reduceCtorEq, Nat.reduceEqDiff, Int.reduceToNat, Int.reduceLT, Int.reduceLE, Int.reduceEq, beq_self_eq_true, ha, hb]
  have hj := vjoin_len b a hb ha
  (repeat' (first | ((refine guardK_split (fun hg => ?_) (fun hg => ?_)) <;> (try simp only [go_sem, Nat.reduceAdd, Nat.reduceSub, Nat.reduceMul, Nat.reduceLT, Nat.reduceLeDiff, ↓reduceIte, reduceCtorEq, Nat.reduceEqDiff, Int.reduceToNat, Int.reduceLT, Int.reduceLE, Int.reduceEq, beq_self_eq_true, hg, ha, hb, hj])) | ((refine condK_split (fun hg => ?_) (fun hg => ?_)) <;> (try simp only [go_sem, Nat.reduceAdd, Nat.reduceSub, Nat.reduceMul, Nat.reduceLT, Nat.reduceLeDiff, ↓reduceIte, reduceCtorEq, Nat.reduceEqDiff, Int.reduceToNat, Int.reduceLT, Int.reduceLE, Int.reduceEq, beq_self_eq_true, hg, ha, hb, hj])) | (refine callK_pure (vec_join b a hb ha) ?_ ?_ ?_; (focus (first | rfl | (simp only [go_sem, Nat.reduceAdd, Nat.reduceSub, Nat.reduceMul, Nat.reduceLT, Nat.reduceLeDiff, ↓reduceIte, reduceCtorEq, Nat.reduceEqDiff, Int.reduceToNat, Int.reduceLT, Int.reduceLE, Int.reduceEq, beq_self_eq_true, ha, hb, hj]; done))); (focus (simp only [go_sem, Nat.reduceAdd, Nat.reduceSub, Nat.reduceMul, Nat.reduceLT, Nat.reduceLeDiff, ↓reduceIte, reduceCtorEq, Nat.reduceEqDiff, Int.reduceToNat, Int.reduceLT, Int.reduceLE, Int.reduceEq, beq_self_eq_true, ha, hb, hj]; done)); try simp only [go_sem, Nat.reduceAdd, Nat.reduceSub, Nat.reduceMul, Nat.reduceLT, Nat.reduceLeDiff, ↓reduceIte, reduceCtorEq, Nat.reduceEqDiff, Int.reduceToNat, Int.reduceLT, Int.reduceLE, Int.reduceEq, beq_self_eq_true, ha, hb, hj]) | (refine callD_pure (vec_join b a hb ha) ?_ ?_ ?_; (focus (first | rfl | (simp only [go_sem, Nat.reduceAdd, Nat.reduceSub, Nat.reduceMul, Nat.reduceLT, Nat.reduceLeDiff, ↓reduceIte, reduceCtorEq, Nat.reduceEqDiff, Int.reduceToNat, Int.reduceLT, Int.reduceLE, Int.reduceEq, beq_self_eq_true, ha, hb, hj]; done))); (focus (simp only [go_sem, Nat.reduceAdd, Nat.reduceSub, Nat.reduceMul, Nat.reduceLT, Nat.reduceLeDiff, ↓reduceIte, reduceCtorEq, Nat.reduceEqDiff, Int.reduceToNat, Int.reduceLT, Int.reduceLE, Int.reduceEq, beq_self_eq_true, ha, hb, hj]; done)); try simp only [go_sem, Nat.reduceAdd, Nat.reduceSub, Nat.reduceMul, Nat.reduceLT, Nat.reduceLeDiff, ↓reduceIte, reduceCtorEq, Nat.reduceEqDiff, Int.reduceToNat, Int.reduceLT, Int.reduceLE, Int.reduceEq, beq_self_eq_true, ha, hb, hj]) | ((refine Or.inl ⟨by kernel_rfl, ?_⟩) <;> (try simp only [go_sem, Nat.reduceAdd, Nat.reduceSub, Nat.reduceMul, Nat.reduceLT, Nat.reduceLeDiff, ↓reduceIte, reduceCtorEq, Nat.reduceEqDiff, Int.reduceToNat, Int.reduceLT, Int.reduceLE, Int.reduceEq, beq_self_eq_true, ha, hb, hj])))) <;> (first | done | (simp_all [vleq]; done) | (simp_all [vleq]; omega) | (simp_all [vleq]; intros; omega) | (simp_all [vleq]; grind))

theorem digest_lacks (a b : List Int) (ha : a.length = 13) (hb : b.length = 13) : PSpec Try.prog CT 21 [ints a, ints b] (· = .bool (!vleq a b)) := by
  refine PSpec.of hT Try.func21 rfl (by kernel_rfl) rfl rfl ?_
  simp only [Try.f21, go_sem, Nat.reduceAdd, Nat.reduceSub, Nat.reduceMul, Nat.reduceLT, Nat.reduceLeDiff, ↓reduceIte, reduceCtorEq, Nat.reduceEqDiff, Int.reduceToNat, Int.reduceLT, Int.reduceLE, Int.reduceEq, beq_self_eq_true, ha, hb]
  refine callK_pure (digest_covers b a hb ha) (by simp only [go_sem, Nat.reduceAdd, Nat.reduceSub, Nat.reduceMul, Nat.reduceLT, Nat.reduceLeDiff, ↓reduceIte, reduceCtorEq, Nat.reduceEqDiff, Int.reduceToNat, Int.reduceLT, Int.reduceLE, Int.reduceEq, beq_self_eq_true, ha, hb]) (by simp only [go_sem, Nat.reduceAdd, Nat.reduceSub, Nat.reduceMul, Nat.reduceLT, Nat.reduceLeDiff, ↓reduceIte, reduceCtorEq, Nat.reduceEqDiff, Int.reduceToNat, Int.reduceLT, Int.reduceLE, Int.reduceEq, beq_self_eq_true, ha, hb]) ?_; simp only [go_sem, Nat.reduceAdd, Nat.reduceSub, Nat.reduceMul, Nat.reduceLT, Nat.reduceLeDiff, ↓reduceIte, reduceCtorEq, Nat.reduceEqDiff, Int.reduceToNat, Int.reduceLT, Int.reduceLE, Int.reduceEq, beq_self_eq_true, ha, hb]

theorem ref_lacks (a b : List Int) (ha : a.length = 13) (hb : b.length = 13) : PSpec Try.prog CT 22 [ints a, ints b] (· = .bool (!vleq a b)) := by
  refine PSpec.of hT Try.func22 rfl (by kernel_rfl) rfl rfl ?_
  simp only [Try.f22, go_sem, Nat.reduceAdd, Nat.reduceSub, Nat.reduceMul, Nat.reduceLT, Nat.reduceLeDiff, ↓reduceIte, reduceCtorEq, Nat.reduceEqDiff, Int.reduceToNat, Int.reduceLT, Int.reduceLE, Int.reduceEq, beq_self_eq_true, ha, hb]
  refine callK_pure (ref_leq a b ha hb) (by simp only [go_sem, Nat.reduceAdd, Nat.reduceSub, Nat.reduceMul, Nat.reduceLT, Nat.reduceLeDiff, ↓reduceIte, reduceCtorEq, Nat.reduceEqDiff, Int.reduceToNat, Int.reduceLT, Int.reduceLE, Int.reduceEq, beq_self_eq_true, ha, hb]) (by simp only [go_sem, Nat.reduceAdd, Nat.reduceSub, Nat.reduceMul, Nat.reduceLT, Nat.reduceLeDiff, ↓reduceIte, reduceCtorEq, Nat.reduceEqDiff, Int.reduceToNat, Int.reduceLT, Int.reduceLE, Int.reduceEq, beq_self_eq_true, ha, hb]) ?_; simp only [go_sem, Nat.reduceAdd, Nat.reduceSub, Nat.reduceMul, Nat.reduceLT, Nat.reduceLeDiff, ↓reduceIte, reduceCtorEq, Nat.reduceEqDiff, Int.reduceToNat, Int.reduceLT, Int.reduceLE, Int.reduceEq, beq_self_eq_true, ha, hb]

theorem ref_extra (l : List TxR) (v : List Int) (hv : v.length = 13) (ho : TxsOk l) (hl : l.length ≤ 2000) : PSpec Try.prog CT 28 [txsD l, ints v] (· = txsD (lackR l v)) := by
  refine PSpec.of hT Try.func28 rfl (by kernel_rfl) rfl rfl ?_
  simp only [Try.f28, go_sem, Nat.reduceAdd, Nat.reduceSub, Nat.reduceMul, Nat.reduceLT, Nat.reduceLeDiff, ↓reduceIte, reduceCtorEq, Nat.reduceEqDiff, Int.reduceToNat, Int.reduceLT, Int.reduceLE, Int.reduceEq, beq_self_eq_true, hv]
  refine awp_loop (fun n s => ∃ (k : Nat) (o : List TxR) (t : Tok) (tk : List Bool) (g : Nat → D), s = ⟨[txsD l, g 1, g 2, .ptr 0 [], g 4, .lst 33 (o.map txD) t, .lit (.int .i64 k), g 7, g 8, g 9, g 10, g 11, g 12, g 13, g 14, g 15, g 16, g 17, g 18, g 19, g 20, g 21, g 22, g 23, g 24, g 25, g 26, g 27, g 28], ⟨[(.arr 13 .leaf, ints v)], tk⟩⟩ ∧ n = l.length - k ∧ k ≤ l.length ∧ live t tk ∧ o = lackR (l.take k) v) l.length ⟨0, [], .full, [], reg_intro rfl rfl ⟨by simp, by omega, trivial, rfl⟩⟩ ?_
  rintro n s ⟨k, o, t, tk, g, rfl, hn, hk, ht, heq⟩
  simp only [go_sem, Nat.reduceAdd, Nat.reduceSub, Nat.reduceMul, Nat.reduceLT, Nat.reduceLeDiff, ↓reduceIte, reduceCtorEq, Nat.reduceEqDiff, Int.reduceToNat, Int.reduceLT, Int.reduceLE, Int.reduceEq, beq_self_eq_true]
  refine condK_split (fun hc => ?_) (fun hc => ?_)
  · have hk' : k < l.length := by have := of_decide_eq_true hc; omega
    obtain ⟨hd, _⟩ := txsOk_at ho hk'
    simp only [go_sem, Nat.reduceAdd, Nat.reduceSub, Nat.reduceMul, Nat.reduceLT, Nat.reduceLeDiff, ↓reduceIte, reduceCtorEq, Nat.reduceEqDiff, Int.reduceToNat, Int.reduceLT, Int.reduceLE, Int.reduceEq, beq_self_eq_true, hk', get_txs, hd, hv]
    refine .inl ⟨by kernel_rfl, ?_⟩
    refine callD_pure (ref_has v (txAt l k).peer (txAt l k).seq hv) (by simp only [go_sem, Nat.reduceAdd, Nat.reduceSub, Nat.reduceMul, Nat.reduceLT, Nat.reduceLeDiff, ↓reduceIte, reduceCtorEq, Nat.reduceEqDiff, Int.reduceToNat, Int.reduceLT, Int.reduceLE, Int.reduceEq, beq_self_eq_true, hk', get_txs, hd, hv]) (by simp only [go_sem, Nat.reduceAdd, Nat.reduceSub, Nat.reduceMul, Nat.reduceLT, Nat.reduceLeDiff, ↓reduceIte, reduceCtorEq, Nat.reduceEqDiff, Int.reduceToNat, Int.reduceLT, Int.reduceLE, Int.reduceEq, beq_self_eq_true, hk', get_txs, hd, hv]) ?_; simp only [go_sem, Nat.reduceAdd, Nat.reduceSub, Nat.reduceMul, Nat.reduceLT, Nat.reduceLeDiff, ↓reduceIte, reduceCtorEq, Nat.reduceEqDiff, Int.reduceToNat, Int.reduceLT, Int.reduceLE, Int.reduceEq, beq_self_eq_true, hk', get_txs, hd, hv]
    have hlen : o.length ≤ 2000 := by rw [heq]; have := lackR_len (l.take k) v; simp at this; omega
    have hs := lackR_snoc l v k hk'
    refine condK_split (fun h1 => ?_) (fun h1 => ?_)
    · simp only [Bool.not_eq_true'] at h1
      simp only [go_sem, Nat.reduceAdd, Nat.reduceSub, Nat.reduceMul, Nat.reduceLT, Nat.reduceLeDiff, ↓reduceIte, reduceCtorEq, Nat.reduceEqDiff, Int.reduceToNat, Int.reduceLT, Int.reduceLE, Int.reduceEq, beq_self_eq_true, h1, hk', get_txs, hd, hv]
      refine appK_live _ _ _ _ _ _ _ _ _ _ ht (by simp) (by simp only [go_sem, Nat.reduceAdd, Nat.reduceSub, Nat.reduceMul, Nat.reduceLT, Nat.reduceLeDiff, ↓reduceIte, reduceCtorEq, Nat.reduceEqDiff, Int.reduceToNat, Int.reduceLT, Int.reduceLE, Int.reduceEq, beq_self_eq_true]) (by simp only [go_sem, Nat.reduceAdd, Nat.reduceSub, Nat.reduceMul, Nat.reduceLT, Nat.reduceLeDiff, ↓reduceIte, reduceCtorEq, Nat.reduceEqDiff, Int.reduceToNat, Int.reduceLT, Int.reduceLE, Int.reduceEq, beq_self_eq_true, List.length_map]; omega) (fun u tk' hu => ?_)
      simp only [go_sem, Nat.reduceAdd, Nat.reduceSub, Nat.reduceMul, Nat.reduceLT, Nat.reduceLeDiff, ↓reduceIte, reduceCtorEq, Nat.reduceEqDiff, Int.reduceToNat, Int.reduceLT, Int.reduceLE, Int.reduceEq, beq_self_eq_true, hd, hv, txs_snoc, wrapNat k (by omega)]
      rw [if_neg (by rw [h1]; simp)] at hs
      refine ⟨l.length - (k + 1), by omega, k + 1, _, u, tk', reg_intro rfl rfl ⟨rfl, by omega, hu, by rw [hs, heq]⟩⟩
    · simp only [Bool.not_eq_false'] at h1
      simp only [go_sem, Nat.reduceAdd, Nat.reduceSub, Nat.reduceMul, Nat.reduceLT, Nat.reduceLeDiff, ↓reduceIte, reduceCtorEq, Nat.reduceEqDiff, Int.reduceToNat, Int.reduceLT, Int.reduceLE, Int.reduceEq, beq_self_eq_true, h1, hk', get_txs, hd, hv, wrapNat k (by omega)]
      rw [if_pos h1] at hs
      refine ⟨l.length - (k + 1), by omega, k + 1, o, t, tk, reg_intro rfl rfl ⟨rfl, by omega, ht, by rw [hs, heq]⟩⟩
  · have hi := of_decide_eq_false hc
    obtain rfl : k = l.length := by omega
    rw [List.take_length] at heq
    simp only [go_sem, Nat.reduceAdd, Nat.reduceSub, Nat.reduceMul, Nat.reduceLT, Nat.reduceLeDiff, ↓reduceIte, reduceCtorEq, Nat.reduceEqDiff, Int.reduceToNat, Int.reduceLT, Int.reduceLE, Int.reduceEq, beq_self_eq_true, heq, pureL_txs]

theorem digest_suffix (l : List TxR) (p v : List Int) (hp : p.length = 13) (hv : v.length = 13) (ho : TxsOk l) (hl : l.length ≤ 2000) : PSpec Try.prog CT 19 [txsD l, ints p, ints v] (· = .tup [txsD (if vleq p v then lackR l v else []), .bool (vleq p v)]) := by
  refine PSpec.of hT Try.func19 rfl (by kernel_rfl) rfl rfl ?_
  simp only [Try.f19, go_sem, Nat.reduceAdd, Nat.reduceSub, Nat.reduceMul, Nat.reduceLT, Nat.reduceLeDiff, ↓reduceIte, reduceCtorEq, Nat.reduceEqDiff, Int.reduceToNat, Int.reduceLT, Int.reduceLE, Int.reduceEq, beq_self_eq_true, hp, hv]
  refine callK_pure (digest_lacks p v hp hv) (by simp only [go_sem, Nat.reduceAdd, Nat.reduceSub, Nat.reduceMul, Nat.reduceLT, Nat.reduceLeDiff, ↓reduceIte, reduceCtorEq, Nat.reduceEqDiff, Int.reduceToNat, Int.reduceLT, Int.reduceLE, Int.reduceEq, beq_self_eq_true, hp, hv, pureL_txs]) (by simp only [go_sem, Nat.reduceAdd, Nat.reduceSub, Nat.reduceMul, Nat.reduceLT, Nat.reduceLeDiff, ↓reduceIte, reduceCtorEq, Nat.reduceEqDiff, Int.reduceToNat, Int.reduceLT, Int.reduceLE, Int.reduceEq, beq_self_eq_true, hp, hv, pureL_txs]) ?_; simp only [go_sem, Nat.reduceAdd, Nat.reduceSub, Nat.reduceMul, Nat.reduceLT, Nat.reduceLeDiff, ↓reduceIte, reduceCtorEq, Nat.reduceEqDiff, Int.reduceToNat, Int.reduceLT, Int.reduceLE, Int.reduceEq, beq_self_eq_true, hp, hv, pureL_txs]
  refine condK_split (fun h1 => ?_) (fun h1 => ?_)
  · simp only [Bool.not_eq_true'] at h1
    simp only [go_sem, Nat.reduceAdd, Nat.reduceSub, Nat.reduceMul, Nat.reduceLT, Nat.reduceLeDiff, ↓reduceIte, reduceCtorEq, Nat.reduceEqDiff, Int.reduceToNat, Int.reduceLT, Int.reduceLE, Int.reduceEq, beq_self_eq_true, hp, hv, h1, Bool.false_eq_true, if_false]; rfl
  · simp only [Bool.not_eq_false'] at h1
    simp only [go_sem, Nat.reduceAdd, Nat.reduceSub, Nat.reduceMul, Nat.reduceLT, Nat.reduceLeDiff, ↓reduceIte, reduceCtorEq, Nat.reduceEqDiff, Int.reduceToNat, Int.reduceLT, Int.reduceLE, Int.reduceEq, beq_self_eq_true, hp, hv, h1]
    (repeat' (first | ((refine guardK_split (fun hg => ?_) (fun hg => ?_)) <;> (try simp only [go_sem, Nat.reduceAdd, Nat.reduceSub, Nat.reduceMul, Nat.reduceLT, Nat.reduceLeDiff, ↓reduceIte, reduceCtorEq, Nat.reduceEqDiff, Int.reduceToNat, Int.reduceLT, Int.reduceLE, Int.reduceEq, beq_self_eq_true, hg, hp, hv, h1, pureL_txs])) | ((refine condK_split (fun hg => ?_) (fun hg => ?_)) <;> (try simp only [go_sem, Nat.reduceAdd, Nat.reduceSub, Nat.reduceMul, Nat.reduceLT, Nat.reduceLeDiff, ↓reduceIte, reduceCtorEq, Nat.reduceEqDiff, Int.reduceToNat, Int.reduceLT, Int.reduceLE, Int.reduceEq, beq_self_eq_true, hg, hp, hv, h1, pureL_txs])) | (refine callK_pure (digest_extra l v hv ho hl) ?_ ?_ ?_; (focus (first | rfl | (simp only [go_sem, Nat.reduceAdd, Nat.reduceSub, Nat.reduceMul, Nat.reduceLT, Nat.reduceLeDiff, ↓reduceIte, reduceCtorEq, Nat.reduceEqDiff, Int.reduceToNat, Int.reduceLT, Int.reduceLE, Int.reduceEq, beq_self_eq_true, hp, hv, h1, pureL_txs]; done))); (focus (simp only [go_sem, Nat.reduceAdd, Nat.reduceSub, Nat.reduceMul, Nat.reduceLT, Nat.reduceLeDiff, ↓reduceIte, reduceCtorEq, Nat.reduceEqDiff, Int.reduceToNat, Int.reduceLT, Int.reduceLE, Int.reduceEq, beq_self_eq_true, hp, hv, h1, pureL_txs]; done)); try simp only [go_sem, Nat.reduceAdd, Nat.reduceSub, Nat.reduceMul, Nat.reduceLT, Nat.reduceLeDiff, ↓reduceIte, reduceCtorEq, Nat.reduceEqDiff, Int.reduceToNat, Int.reduceLT, Int.reduceLE, Int.reduceEq, beq_self_eq_true, hp, hv, h1, pureL_txs]) | (refine callD_pure (digest_extra l v hv ho hl) ?_ ?_ ?_; (focus (first | rfl | (simp only [go_sem, Nat.reduceAdd, Nat.reduceSub, Nat.reduceMul, Nat.reduceLT, Nat.reduceLeDiff, ↓reduceIte, reduceCtorEq, Nat.reduceEqDiff, Int.reduceToNat, Int.reduceLT, Int.reduceLE, Int.reduceEq, beq_self_eq_true, hp, hv, h1, pureL_txs]; done))); (focus (simp only [go_sem, Nat.reduceAdd, Nat.reduceSub, Nat.reduceMul, Nat.reduceLT, Nat.reduceLeDiff, ↓reduceIte, reduceCtorEq, Nat.reduceEqDiff, Int.reduceToNat, Int.reduceLT, Int.reduceLE, Int.reduceEq, beq_self_eq_true, hp, hv, h1, pureL_txs]; done)); try simp only [go_sem, Nat.reduceAdd, Nat.reduceSub, Nat.reduceMul, Nat.reduceLT, Nat.reduceLeDiff, ↓reduceIte, reduceCtorEq, Nat.reduceEqDiff, Int.reduceToNat, Int.reduceLT, Int.reduceLE, Int.reduceEq, beq_self_eq_true, hp, hv, h1, pureL_txs]) | ((refine Or.inl ⟨by kernel_rfl, ?_⟩) <;> (try simp only [go_sem, Nat.reduceAdd, Nat.reduceSub, Nat.reduceMul, Nat.reduceLT, Nat.reduceLeDiff, ↓reduceIte, reduceCtorEq, Nat.reduceEqDiff, Int.reduceToNat, Int.reduceLT, Int.reduceLE, Int.reduceEq, beq_self_eq_true, hp, hv, h1, pureL_txs])))) <;> (first | done | (simp_all []; done) | (simp_all []; omega) | (simp_all []; intros; omega) | (simp_all []; grind))

theorem ref_suffix (l : List TxR) (p v : List Int) (hp : p.length = 13) (hv : v.length = 13) (ho : TxsOk l) (hl : l.length ≤ 2000) : PSpec Try.prog CT 20 [txsD l, ints p, ints v] (· = .tup [txsD (if vleq p v then lackR l v else []), .bool (vleq p v)]) := by
  refine PSpec.of hT Try.func20 rfl (by kernel_rfl) rfl rfl ?_
  simp only [Try.f20, go_sem, Nat.reduceAdd, Nat.reduceSub, Nat.reduceMul, Nat.reduceLT, Nat.reduceLeDiff, ↓reduceIte, reduceCtorEq, Nat.reduceEqDiff, Int.reduceToNat, Int.reduceLT, Int.reduceLE, Int.reduceEq, beq_self_eq_true, hp, hv]
  refine callK_pure (ref_leq p v hp hv) (by simp only [go_sem, Nat.reduceAdd, Nat.reduceSub, Nat.reduceMul, Nat.reduceLT, Nat.reduceLeDiff, ↓reduceIte, reduceCtorEq, Nat.reduceEqDiff, Int.reduceToNat, Int.reduceLT, Int.reduceLE, Int.reduceEq, beq_self_eq_true, hp, hv, pureL_txs]) (by simp only [go_sem, Nat.reduceAdd, Nat.reduceSub, Nat.reduceMul, Nat.reduceLT, Nat.reduceLeDiff, ↓reduceIte, reduceCtorEq, Nat.reduceEqDiff, Int.reduceToNat, Int.reduceLT, Int.reduceLE, Int.reduceEq, beq_self_eq_true, hp, hv, pureL_txs]) ?_; simp only [go_sem, Nat.reduceAdd, Nat.reduceSub, Nat.reduceMul, Nat.reduceLT, Nat.reduceLeDiff, ↓reduceIte, reduceCtorEq, Nat.reduceEqDiff, Int.reduceToNat, Int.reduceLT, Int.reduceLE, Int.reduceEq, beq_self_eq_true, hp, hv, pureL_txs]
  refine condK_split (fun h1 => ?_) (fun h1 => ?_)
  · simp only [Bool.not_eq_true'] at h1
    simp only [go_sem, Nat.reduceAdd, Nat.reduceSub, Nat.reduceMul, Nat.reduceLT, Nat.reduceLeDiff, ↓reduceIte, reduceCtorEq, Nat.reduceEqDiff, Int.reduceToNat, Int.reduceLT, Int.reduceLE, Int.reduceEq, beq_self_eq_true, hp, hv, h1, Bool.false_eq_true, if_false]; rfl
  · simp only [Bool.not_eq_false'] at h1
    simp only [go_sem, Nat.reduceAdd, Nat.reduceSub, Nat.reduceMul, Nat.reduceLT, Nat.reduceLeDiff, ↓reduceIte, reduceCtorEq, Nat.reduceEqDiff, Int.reduceToNat, Int.reduceLT, Int.reduceLE, Int.reduceEq, beq_self_eq_true, hp, hv, h1]
    (repeat' (first | ((refine guardK_split (fun hg => ?_) (fun hg => ?_)) <;> (try simp only [go_sem, Nat.reduceAdd, Nat.reduceSub, Nat.reduceMul, Nat.reduceLT, Nat.reduceLeDiff, ↓reduceIte, reduceCtorEq, Nat.reduceEqDiff, Int.reduceToNat, Int.reduceLT, Int.reduceLE, Int.reduceEq, beq_self_eq_true, hg, hp, hv, h1, pureL_txs])) | ((refine condK_split (fun hg => ?_) (fun hg => ?_)) <;> (try simp only [go_sem, Nat.reduceAdd, Nat.reduceSub, Nat.reduceMul, Nat.reduceLT, Nat.reduceLeDiff, ↓reduceIte, reduceCtorEq, Nat.reduceEqDiff, Int.reduceToNat, Int.reduceLT, Int.reduceLE, Int.reduceEq, beq_self_eq_true, hg, hp, hv, h1, pureL_txs])) | (refine callK_pure (ref_extra l v hv ho hl) ?_ ?_ ?_; (focus (first | rfl | (simp only [go_sem, Nat.reduceAdd, Nat.reduceSub, Nat.reduceMul, Nat.reduceLT, Nat.reduceLeDiff, ↓reduceIte, reduceCtorEq, Nat.reduceEqDiff, Int.reduceToNat, Int.reduceLT, Int.reduceLE, Int.reduceEq, beq_self_eq_true, hp, hv, h1, pureL_txs]; done))); (focus (simp only [go_sem, Nat.reduceAdd, Nat.reduceSub, Nat.reduceMul, Nat.reduceLT, Nat.reduceLeDiff, ↓reduceIte, reduceCtorEq, Nat.reduceEqDiff, Int.reduceToNat, Int.reduceLT, Int.reduceLE, Int.reduceEq, beq_self_eq_true, hp, hv, h1, pureL_txs]; done)); try simp only [go_sem, Nat.reduceAdd, Nat.reduceSub, Nat.reduceMul, Nat.reduceLT, Nat.reduceLeDiff, ↓reduceIte, reduceCtorEq, Nat.reduceEqDiff, Int.reduceToNat, Int.reduceLT, Int.reduceLE, Int.reduceEq, beq_self_eq_true, hp, hv, h1, pureL_txs]) | (refine callD_pure (ref_extra l v hv ho hl) ?_ ?_ ?_; (focus (first | rfl | (simp only [go_sem, Nat.reduceAdd, Nat.reduceSub, Nat.reduceMul, Nat.reduceLT, Nat.reduceLeDiff, ↓reduceIte, reduceCtorEq, Nat.reduceEqDiff, Int.reduceToNat, Int.reduceLT, Int.reduceLE, Int.reduceEq, beq_self_eq_true, hp, hv, h1, pureL_txs]; done))); (focus (simp only [go_sem, Nat.reduceAdd, Nat.reduceSub, Nat.reduceMul, Nat.reduceLT, Nat.reduceLeDiff, ↓reduceIte, reduceCtorEq, Nat.reduceEqDiff, Int.reduceToNat, Int.reduceLT, Int.reduceLE, Int.reduceEq, beq_self_eq_true, hp, hv, h1, pureL_txs]; done)); try simp only [go_sem, Nat.reduceAdd, Nat.reduceSub, Nat.reduceMul, Nat.reduceLT, Nat.reduceLeDiff, ↓reduceIte, reduceCtorEq, Nat.reduceEqDiff, Int.reduceToNat, Int.reduceLT, Int.reduceLE, Int.reduceEq, beq_self_eq_true, hp, hv, h1, pureL_txs]) | ((refine Or.inl ⟨by kernel_rfl, ?_⟩) <;> (try simp only [go_sem, Nat.reduceAdd, Nat.reduceSub, Nat.reduceMul, Nat.reduceLT, Nat.reduceLeDiff, ↓reduceIte, reduceCtorEq, Nat.reduceEqDiff, Int.reduceToNat, Int.reduceLT, Int.reduceLE, Int.reduceEq, beq_self_eq_true, hp, hv, h1, pureL_txs])))) <;> (first | done | (simp_all []; done) | (simp_all []; omega) | (simp_all []; intros; omega) | (simp_all []; grind))

def mergeR (m p t b : List Int) : Int := if vleq t m then 0 else if vleq b m then 1 else if vleq p t then 2 else 3

theorem digest_mergeable (m p t b : List Int) (hm : m.length = 13) (hp : p.length = 13) (ht : t.length = 13) (hb : b.length = 13) :
    PSpec Try.prog CT 26 [ints m, ints p, ints t, ints b] (· = .lit (.int .i64 (mergeR m p t b))) := by
  refine PSpec.of hT Try.func26 rfl (by kernel_rfl) rfl rfl ?_
  simp only [Try.f26, go_sem, Nat.reduceAdd, Nat.reduceSub, Nat.reduceMul, Nat.reduceLT, Nat.reduceLeDiff, ↓reduceIte, reduceCtorEq, Nat.reduceEqDiff, Int.reduceToNat, Int.reduceLT, Int.reduceLE, Int.reduceEq, beq_self_eq_true, hm, hp, ht, hb]
  refine callK_pure (digest_lacks t m ht hm) (by simp only [go_sem, Nat.reduceAdd, Nat.reduceSub, Nat.reduceMul, Nat.reduceLT, Nat.reduceLeDiff, ↓reduceIte, reduceCtorEq, Nat.reduceEqDiff, Int.reduceToNat, Int.reduceLT, Int.reduceLE, Int.reduceEq, beq_self_eq_true, hm, hp, ht, hb]) (by simp only [go_sem, Nat.reduceAdd, Nat.reduceSub, Nat.reduceMul, Nat.reduceLT, Nat.reduceLeDiff, ↓reduceIte, reduceCtorEq, Nat.reduceEqDiff, Int.reduceToNat, Int.reduceLT, Int.reduceLE, Int.reduceEq, beq_self_eq_true, hm, hp, ht, hb]) ?_; simp only [go_sem, Nat.reduceAdd, Nat.reduceSub, Nat.reduceMul, Nat.reduceLT, Nat.reduceLeDiff, ↓reduceIte, reduceCtorEq, Nat.reduceEqDiff, Int.reduceToNat, Int.reduceLT, Int.reduceLE, Int.reduceEq, beq_self_eq_true, hm, hp, ht, hb]
  refine condK_split (fun h1 => ?_) (fun h1 => ?_)
  · simp only [Bool.not_not, Bool.not_eq_true', Bool.not_eq_false'] at h1
    simp only [go_sem, Nat.reduceAdd, Nat.reduceSub, Nat.reduceMul, Nat.reduceLT, Nat.reduceLeDiff, ↓reduceIte, reduceCtorEq, Nat.reduceEqDiff, Int.reduceToNat, Int.reduceLT, Int.reduceLE, Int.reduceEq, beq_self_eq_true, hm, hp, ht, hb, h1, mergeR]
  simp only [Bool.not_not, Bool.not_eq_true', Bool.not_eq_false'] at h1
  simp only [go_sem, Nat.reduceAdd, Nat.reduceSub, Nat.reduceMul, Nat.reduceLT, Nat.reduceLeDiff, ↓reduceIte, reduceCtorEq, Nat.reduceEqDiff, Int.reduceToNat, Int.reduceLT, Int.reduceLE, Int.reduceEq, beq_self_eq_true, hm, hp, ht, hb, h1]
  refine callK_pure (digest_lacks b m hb hm) (by simp only [go_sem, Nat.reduceAdd, Nat.reduceSub, Nat.reduceMul, Nat.reduceLT, Nat.reduceLeDiff, ↓reduceIte, reduceCtorEq, Nat.reduceEqDiff, Int.reduceToNat, Int.reduceLT, Int.reduceLE, Int.reduceEq, beq_self_eq_true, hm, hp, ht, hb, h1]) (by simp only [go_sem, Nat.reduceAdd, Nat.reduceSub, Nat.reduceMul, Nat.reduceLT, Nat.reduceLeDiff, ↓reduceIte, reduceCtorEq, Nat.reduceEqDiff, Int.reduceToNat, Int.reduceLT, Int.reduceLE, Int.reduceEq, beq_self_eq_true, hm, hp, ht, hb, h1]) ?_; simp only [go_sem, Nat.reduceAdd, Nat.reduceSub, Nat.reduceMul, Nat.reduceLT, Nat.reduceLeDiff, ↓reduceIte, reduceCtorEq, Nat.reduceEqDiff, Int.reduceToNat, Int.reduceLT, Int.reduceLE, Int.reduceEq, beq_self_eq_true, hm, hp, ht, hb, h1]
  refine condK_split (fun h2 => ?_) (fun h2 => ?_)
  · simp only [Bool.not_not, Bool.not_eq_true', Bool.not_eq_false'] at h2
    simp only [go_sem, Nat.reduceAdd, Nat.reduceSub, Nat.reduceMul, Nat.reduceLT, Nat.reduceLeDiff, ↓reduceIte, reduceCtorEq, Nat.reduceEqDiff, Int.reduceToNat, Int.reduceLT, Int.reduceLE, Int.reduceEq, beq_self_eq_true, hm, hp, ht, hb, h1, h2, mergeR]
  simp only [Bool.not_not, Bool.not_eq_true', Bool.not_eq_false'] at h2
  simp only [go_sem, Nat.reduceAdd, Nat.reduceSub, Nat.reduceMul, Nat.reduceLT, Nat.reduceLeDiff, ↓reduceIte, reduceCtorEq, Nat.reduceEqDiff, Int.reduceToNat, Int.reduceLT, Int.reduceLE, Int.reduceEq, beq_self_eq_true, hm, hp, ht, hb, h1, h2]
  refine callK_pure (digest_lacks p t hp ht) (by simp only [go_sem, Nat.reduceAdd, Nat.reduceSub, Nat.reduceMul, Nat.reduceLT, Nat.reduceLeDiff, ↓reduceIte, reduceCtorEq, Nat.reduceEqDiff, Int.reduceToNat, Int.reduceLT, Int.reduceLE, Int.reduceEq, beq_self_eq_true, hm, hp, ht, hb, h1, h2]) (by simp only [go_sem, Nat.reduceAdd, Nat.reduceSub, Nat.reduceMul, Nat.reduceLT, Nat.reduceLeDiff, ↓reduceIte, reduceCtorEq, Nat.reduceEqDiff, Int.reduceToNat, Int.reduceLT, Int.reduceLE, Int.reduceEq, beq_self_eq_true, hm, hp, ht, hb, h1, h2]) ?_; simp only [go_sem, Nat.reduceAdd, Nat.reduceSub, Nat.reduceMul, Nat.reduceLT, Nat.reduceLeDiff, ↓reduceIte, reduceCtorEq, Nat.reduceEqDiff, Int.reduceToNat, Int.reduceLT, Int.reduceLE, Int.reduceEq, beq_self_eq_true, hm, hp, ht, hb, h1, h2]
  refine condK_split (fun h3 => ?_) (fun h3 => ?_)
  · simp only [Bool.not_not, Bool.not_eq_true', Bool.not_eq_false'] at h3
    simp only [go_sem, Nat.reduceAdd, Nat.reduceSub, Nat.reduceMul, Nat.reduceLT, Nat.reduceLeDiff, ↓reduceIte, reduceCtorEq, Nat.reduceEqDiff, Int.reduceToNat, Int.reduceLT, Int.reduceLE, Int.reduceEq, beq_self_eq_true, hm, hp, ht, hb, h1, h2, h3, mergeR]
  simp only [Bool.not_not, Bool.not_eq_true', Bool.not_eq_false'] at h3
  simp only [go_sem, Nat.reduceAdd, Nat.reduceSub, Nat.reduceMul, Nat.reduceLT, Nat.reduceLeDiff, ↓reduceIte, reduceCtorEq, Nat.reduceEqDiff, Int.reduceToNat, Int.reduceLT, Int.reduceLE, Int.reduceEq, beq_self_eq_true, hm, hp, ht, hb, h1, h2, h3, mergeR]

theorem ref_mergeable (m p t b : List Int) (hm : m.length = 13) (hp : p.length = 13) (ht : t.length = 13) (hb : b.length = 13) :
    PSpec Try.prog CT 27 [ints m, ints p, ints t, ints b] (· = .lit (.int .i64 (mergeR m p t b))) := by
  refine PSpec.of hT Try.func27 rfl (by kernel_rfl) rfl rfl ?_
  simp only [Try.f27, go_sem, Nat.reduceAdd, Nat.reduceSub, Nat.reduceMul, Nat.reduceLT, Nat.reduceLeDiff, ↓reduceIte, reduceCtorEq, Nat.reduceEqDiff, Int.reduceToNat, Int.reduceLT, Int.reduceLE, Int.reduceEq, beq_self_eq_true, hm, hp, ht, hb]
  refine callK_pure (ref_leq t m ht hm) (by simp only [go_sem, Nat.reduceAdd, Nat.reduceSub, Nat.reduceMul, Nat.reduceLT, Nat.reduceLeDiff, ↓reduceIte, reduceCtorEq, Nat.reduceEqDiff, Int.reduceToNat, Int.reduceLT, Int.reduceLE, Int.reduceEq, beq_self_eq_true, hm, hp, ht, hb]) (by simp only [go_sem, Nat.reduceAdd, Nat.reduceSub, Nat.reduceMul, Nat.reduceLT, Nat.reduceLeDiff, ↓reduceIte, reduceCtorEq, Nat.reduceEqDiff, Int.reduceToNat, Int.reduceLT, Int.reduceLE, Int.reduceEq, beq_self_eq_true, hm, hp, ht, hb]) ?_; simp only [go_sem, Nat.reduceAdd, Nat.reduceSub, Nat.reduceMul, Nat.reduceLT, Nat.reduceLeDiff, ↓reduceIte, reduceCtorEq, Nat.reduceEqDiff, Int.reduceToNat, Int.reduceLT, Int.reduceLE, Int.reduceEq, beq_self_eq_true, hm, hp, ht, hb]
  refine condK_split (fun h1 => ?_) (fun h1 => ?_)
  · simp only [go_sem, Nat.reduceAdd, Nat.reduceSub, Nat.reduceMul, Nat.reduceLT, Nat.reduceLeDiff, ↓reduceIte, reduceCtorEq, Nat.reduceEqDiff, Int.reduceToNat, Int.reduceLT, Int.reduceLE, Int.reduceEq, beq_self_eq_true, hm, hp, ht, hb, h1, mergeR]
  simp only [go_sem, Nat.reduceAdd, Nat.reduceSub, Nat.reduceMul, Nat.reduceLT, Nat.reduceLeDiff, ↓reduceIte, reduceCtorEq, Nat.reduceEqDiff, Int.reduceToNat, Int.reduceLT, Int.reduceLE, Int.reduceEq, beq_self_eq_true, hm, hp, ht, hb, h1]
  refine callK_pure (ref_leq b m hb hm) (by simp only [go_sem, Nat.reduceAdd, Nat.reduceSub, Nat.reduceMul, Nat.reduceLT, Nat.reduceLeDiff, ↓reduceIte, reduceCtorEq, Nat.reduceEqDiff, Int.reduceToNat, Int.reduceLT, Int.reduceLE, Int.reduceEq, beq_self_eq_true, hm, hp, ht, hb, h1]) (by simp only [go_sem, Nat.reduceAdd, Nat.reduceSub, Nat.reduceMul, Nat.reduceLT, Nat.reduceLeDiff, ↓reduceIte, reduceCtorEq, Nat.reduceEqDiff, Int.reduceToNat, Int.reduceLT, Int.reduceLE, Int.reduceEq, beq_self_eq_true, hm, hp, ht, hb, h1]) ?_; simp only [go_sem, Nat.reduceAdd, Nat.reduceSub, Nat.reduceMul, Nat.reduceLT, Nat.reduceLeDiff, ↓reduceIte, reduceCtorEq, Nat.reduceEqDiff, Int.reduceToNat, Int.reduceLT, Int.reduceLE, Int.reduceEq, beq_self_eq_true, hm, hp, ht, hb, h1]
  refine condK_split (fun h2 => ?_) (fun h2 => ?_)
  · simp only [go_sem, Nat.reduceAdd, Nat.reduceSub, Nat.reduceMul, Nat.reduceLT, Nat.reduceLeDiff, ↓reduceIte, reduceCtorEq, Nat.reduceEqDiff, Int.reduceToNat, Int.reduceLT, Int.reduceLE, Int.reduceEq, beq_self_eq_true, hm, hp, ht, hb, h1, h2, mergeR]
  simp only [go_sem, Nat.reduceAdd, Nat.reduceSub, Nat.reduceMul, Nat.reduceLT, Nat.reduceLeDiff, ↓reduceIte, reduceCtorEq, Nat.reduceEqDiff, Int.reduceToNat, Int.reduceLT, Int.reduceLE, Int.reduceEq, beq_self_eq_true, hm, hp, ht, hb, h1, h2]
  refine callK_pure (ref_leq p t hp ht) (by simp only [go_sem, Nat.reduceAdd, Nat.reduceSub, Nat.reduceMul, Nat.reduceLT, Nat.reduceLeDiff, ↓reduceIte, reduceCtorEq, Nat.reduceEqDiff, Int.reduceToNat, Int.reduceLT, Int.reduceLE, Int.reduceEq, beq_self_eq_true, hm, hp, ht, hb, h1, h2]) (by simp only [go_sem, Nat.reduceAdd, Nat.reduceSub, Nat.reduceMul, Nat.reduceLT, Nat.reduceLeDiff, ↓reduceIte, reduceCtorEq, Nat.reduceEqDiff, Int.reduceToNat, Int.reduceLT, Int.reduceLE, Int.reduceEq, beq_self_eq_true, hm, hp, ht, hb, h1, h2]) ?_; simp only [go_sem, Nat.reduceAdd, Nat.reduceSub, Nat.reduceMul, Nat.reduceLT, Nat.reduceLeDiff, ↓reduceIte, reduceCtorEq, Nat.reduceEqDiff, Int.reduceToNat, Int.reduceLT, Int.reduceLE, Int.reduceEq, beq_self_eq_true, hm, hp, ht, hb, h1, h2]
  refine condK_split (fun h3 => ?_) (fun h3 => ?_)
  · simp only [go_sem, Nat.reduceAdd, Nat.reduceSub, Nat.reduceMul, Nat.reduceLT, Nat.reduceLeDiff, ↓reduceIte, reduceCtorEq, Nat.reduceEqDiff, Int.reduceToNat, Int.reduceLT, Int.reduceLE, Int.reduceEq, beq_self_eq_true, hm, hp, ht, hb, h1, h2, h3, mergeR]
  simp only [go_sem, Nat.reduceAdd, Nat.reduceSub, Nat.reduceMul, Nat.reduceLT, Nat.reduceLeDiff, ↓reduceIte, reduceCtorEq, Nat.reduceEqDiff, Int.reduceToNat, Int.reduceLT, Int.reduceLE, Int.reduceEq, beq_self_eq_true, hm, hp, ht, hb, h1, h2, h3, mergeR]

def rowR (d : List Int) (l : List (List Int)) : List Int := l.foldl vmeet d
theorem rowR_len (d : List Int) (l : List (List Int)) (hd : d.length = 13) (hl : ∀ v ∈ l, v.length = 13) : (rowR d l).length = 13 := by
  unfold rowR
  induction l generalizing d with
  | nil => exact hd
  | cons x l ih => exact ih _ (vmeet_len d x hd (hl x (by simp))) fun v hv => hl v (by simp [hv])
theorem rowR_snoc (d : List Int) (l : List (List Int)) (k : Nat) (hk : k < l.length) : rowR d (l.take (k + 1)) = vmeet (rowR d (l.take k)) (l.getD k []) := by
  unfold rowR
  rw [List.take_add_one, List.getElem?_eq_getElem hk, List.getD_eq_getElem?_getD, List.getElem?_eq_getElem hk, List.foldl_append]; rfl
abbrev vecsD (l : List (List Int)) : D := .lst 24 (l.map ints) .no
theorem vecs_at {l : List (List Int)} (hl : ∀ v ∈ l, v.length = 13) {k : Nat} (hk : k < l.length) : (l.getD k []).length = 13 := by
  rw [List.getD_eq_getElem?_getD, List.getElem?_eq_getElem hk]; exact hl _ (List.getElem_mem hk)

theorem digest_row (d : List Int) (l : List (List Int)) (hd : d.length = 13) (hl : ∀ v ∈ l, v.length = 13) (hn : l.length ≤ 40) : PSpec Try.prog CT 24 [ints d, vecsD l] (· = ints (rowR d l)) := by
  refine PSpec.of hT Try.func24 rfl (by kernel_rfl) rfl rfl ?_
  simp only [Try.f24, go_sem, Nat.reduceAdd, Nat.reduceSub, Nat.reduceMul, Nat.reduceLT, Nat.reduceLeDiff, ↓reduceIte, reduceCtorEq, Nat.reduceEqDiff, Int.reduceToNat, Int.reduceLT, Int.reduceLE, Int.reduceEq, beq_self_eq_true, hd]
  refine awp_loop (fun n s => ∃ (k : Nat) (w : List Int) (ex : List (Sh × D)) (g : Nat → D), s = ⟨[g 0, g 1, .ptr 0 [], g 3, .ptr 1 [], g 5, g 6, vecsD l, .lit (.int .i64 l.length), .lit (.int .i64 k), g 10, g 11, g 12, g 13, g 14, g 15, g 16, g 17], ⟨(.arr 13 .leaf, ints w) :: (.arr 13 .leaf, ints (zeros 13)) :: ex, []⟩⟩ ∧ n = l.length - k ∧ k ≤ l.length ∧ w.length = 13 ∧ w = rowR d (l.take k)) l.length ⟨0, d, [], reg_intro rfl rfl ⟨by simp, by omega, hd, rfl⟩⟩ ?_
  rintro n s ⟨k, w, ex, g, rfl, hn, hk, hw, heq⟩
  simp only [go_sem, Nat.reduceAdd, Nat.reduceSub, Nat.reduceMul, Nat.reduceLT, Nat.reduceLeDiff, ↓reduceIte, reduceCtorEq, Nat.reduceEqDiff, Int.reduceToNat, Int.reduceLT, Int.reduceLE, Int.reduceEq, beq_self_eq_true]
  refine condK_split (fun hc => ?_) (fun hc => ?_)
  · have hk' : k < l.length := by have := of_decide_eq_true hc; omega
    have hv := vecs_at hl hk'
    have hs := rowR_snoc d l k hk'
    rw [← heq] at hs
    have hm := vmeet_len w _ hw hv
    simp only [go_sem, Nat.reduceAdd, Nat.reduceSub, Nat.reduceMul, Nat.reduceLT, Nat.reduceLeDiff, ↓reduceIte, reduceCtorEq, Nat.reduceEqDiff, Int.reduceToNat, Int.reduceLT, Int.reduceLE, Int.reduceEq, beq_self_eq_true, hk', hw, hv, hm]
    refine callK_pure (vec_meet w (l.getD k []) hw hv) (by simp only [go_sem, Nat.reduceAdd, Nat.reduceSub, Nat.reduceMul, Nat.reduceLT, Nat.reduceLeDiff, ↓reduceIte, reduceCtorEq, Nat.reduceEqDiff, Int.reduceToNat, Int.reduceLT, Int.reduceLE, Int.reduceEq, beq_self_eq_true, hk', hw, hv, hm]) (by simp only [go_sem, Nat.reduceAdd, Nat.reduceSub, Nat.reduceMul, Nat.reduceLT, Nat.reduceLeDiff, ↓reduceIte, reduceCtorEq, Nat.reduceEqDiff, Int.reduceToNat, Int.reduceLT, Int.reduceLE, Int.reduceEq, beq_self_eq_true, hk', hw, hv, hm]) ?_; simp only [go_sem, Nat.reduceAdd, Nat.reduceSub, Nat.reduceMul, Nat.reduceLT, Nat.reduceLeDiff, ↓reduceIte, reduceCtorEq, Nat.reduceEqDiff, Int.reduceToNat, Int.reduceLT, Int.reduceLE, Int.reduceEq, beq_self_eq_true, hk', hw, hv, hm]
    simp only [go_sem, Nat.reduceAdd, Nat.reduceSub, Nat.reduceMul, Nat.reduceLT, Nat.reduceLeDiff, ↓reduceIte, reduceCtorEq, Nat.reduceEqDiff, Int.reduceToNat, Int.reduceLT, Int.reduceLE, Int.reduceEq, beq_self_eq_true, wrapNat k (by omega)]
    exact ⟨l.length - (k + 1), by omega, k + 1, _, _, reg_intro rfl rfl ⟨rfl, by omega, hm, hs.symm⟩⟩
  · have hi := of_decide_eq_false hc
    obtain rfl : k = l.length := by omega
    rw [List.take_length] at heq
    have hrl := rowR_len d l hd hl
    simp only [go_sem, Nat.reduceAdd, Nat.reduceSub, Nat.reduceMul, Nat.reduceLT, Nat.reduceLeDiff, ↓reduceIte, reduceCtorEq, Nat.reduceEqDiff, Int.reduceToNat, Int.reduceLT, Int.reduceLE, Int.reduceEq, beq_self_eq_true, hrl, zeros_len, heq]

theorem ref_row (d : List Int) (l : List (List Int)) (hd : d.length = 13) (hl : ∀ v ∈ l, v.length = 13) (hn : l.length ≤ 40) : PSpec Try.prog CT 25 [ints d, vecsD l] (· = ints (rowR d l)) := by
  refine PSpec.of hT Try.func25 rfl (by kernel_rfl) rfl rfl ?_
  simp only [Try.f25, go_sem, Nat.reduceAdd, Nat.reduceSub, Nat.reduceMul, Nat.reduceLT, Nat.reduceLeDiff, ↓reduceIte, reduceCtorEq, Nat.reduceEqDiff, Int.reduceToNat, Int.reduceLT, Int.reduceLE, Int.reduceEq, beq_self_eq_true, hd]
  refine awp_loop (fun n s => ∃ (k : Nat) (w : List Int) (ex : List (Sh × D)) (g : Nat → D), s = ⟨[g 0, vecsD l, .ptr 0 [], g 3, .ptr 1 [], .lit (.int .i64 k), g 6, g 7, g 8, g 9, g 10, g 11, g 12, g 13, g 14, g 15, g 16, g 17, g 18], ⟨(.arr 13 .leaf, ints w) :: (.arr 13 .leaf, ints (zeros 13)) :: ex, []⟩⟩ ∧ n = l.length - k ∧ k ≤ l.length ∧ w.length = 13 ∧ w = rowR d (l.take k)) l.length ⟨0, d, [], reg_intro rfl rfl ⟨by simp, by omega, hd, rfl⟩⟩ ?_
  rintro n s ⟨k, w, ex, g, rfl, hn, hk, hw, heq⟩
  simp only [go_sem, Nat.reduceAdd, Nat.reduceSub, Nat.reduceMul, Nat.reduceLT, Nat.reduceLeDiff, ↓reduceIte, reduceCtorEq, Nat.reduceEqDiff, Int.reduceToNat, Int.reduceLT, Int.reduceLE, Int.reduceEq, beq_self_eq_true]
  refine condK_split (fun hc => ?_) (fun hc => ?_)
  · have hk' : k < l.length := by have := of_decide_eq_true hc; omega
    have hv := vecs_at hl hk'
    have hs := rowR_snoc d l k hk'
    rw [← heq] at hs
    have hm := vmeet_len w _ hw hv
    simp only [go_sem, Nat.reduceAdd, Nat.reduceSub, Nat.reduceMul, Nat.reduceLT, Nat.reduceLeDiff, ↓reduceIte, reduceCtorEq, Nat.reduceEqDiff, Int.reduceToNat, Int.reduceLT, Int.reduceLE, Int.reduceEq, beq_self_eq_true, hk', hw, hv, hm]
    refine .inl ⟨by kernel_rfl, ?_⟩
    refine callD_pure (ref_meet w (l.getD k []) hw hv) (by simp only [go_sem, Nat.reduceAdd, Nat.reduceSub, Nat.reduceMul, Nat.reduceLT, Nat.reduceLeDiff, ↓reduceIte, reduceCtorEq, Nat.reduceEqDiff, Int.reduceToNat, Int.reduceLT, Int.reduceLE, Int.reduceEq, beq_self_eq_true, hk', hw, hv, hm]) (by simp only [go_sem, Nat.reduceAdd, Nat.reduceSub, Nat.reduceMul, Nat.reduceLT, Nat.reduceLeDiff, ↓reduceIte, reduceCtorEq, Nat.reduceEqDiff, Int.reduceToNat, Int.reduceLT, Int.reduceLE, Int.reduceEq, beq_self_eq_true, hk', hw, hv, hm]) ?_; simp only [go_sem, Nat.reduceAdd, Nat.reduceSub, Nat.reduceMul, Nat.reduceLT, Nat.reduceLeDiff, ↓reduceIte, reduceCtorEq, Nat.reduceEqDiff, Int.reduceToNat, Int.reduceLT, Int.reduceLE, Int.reduceEq, beq_self_eq_true, hk', hw, hv, hm]
    simp only [go_sem, Nat.reduceAdd, Nat.reduceSub, Nat.reduceMul, Nat.reduceLT, Nat.reduceLeDiff, ↓reduceIte, reduceCtorEq, Nat.reduceEqDiff, Int.reduceToNat, Int.reduceLT, Int.reduceLE, Int.reduceEq, beq_self_eq_true, wrapNat k (by omega)]
    exact ⟨l.length - (k + 1), by omega, k + 1, _, _, reg_intro rfl rfl ⟨rfl, by omega, hm, hs.symm⟩⟩
  · have hi := of_decide_eq_false hc
    obtain rfl : k = l.length := by omega
    rw [List.take_length] at heq
    have hrl := rowR_len d l hd hl
    simp only [go_sem, Nat.reduceAdd, Nat.reduceSub, Nat.reduceMul, Nat.reduceLT, Nat.reduceLeDiff, ↓reduceIte, reduceCtorEq, Nat.reduceEqDiff, Int.reduceToNat, Int.reduceLT, Int.reduceLE, Int.reduceEq, beq_self_eq_true, hrl, zeros_len, heq]
end Go.Ab
