/- Graphs of transactions: the document's functions, which are there and who leads to whom. Conditions: none. -/
import Derived.Test.YtnagdbamieahgaaStB
import Derived.Test.YtnagdbamieahgaaRoB
set_option linter.unusedSimpArgs false
namespace Go.Ab
open Go.Proofs

def dotEq (l : List TxR) (k i : Nat) : Bool := decide ((txAt l k).peer = (txAt l i).peer) && decide ((txAt l k).seq = (txAt l i).seq)
def newG (l : List TxR) (i : Nat) : Bool := (List.range i).all fun k => !dotEq l k i
def okG (l : List TxR) (i : Nat) : Bool := checkTx (txAt l i) && newG l i
def checkG (l : List TxR) : Bool := decide (l.length ≤ 4096) && (List.range l.length).all (okG l)
/-- Does place i lead to place k? -/
def leadG (l : List TxR) (i k : Nat) : Bool := vhas (txAt l k).deps (txAt l i).peer (txAt l i).seq
theorem range_bad {n k : Nat} {f : Nat → Bool} (hk : k < n) (h : f k = false) : (List.range n).all f = false := by
  rw [List.all_eq_false]; exact ⟨k, List.mem_range.2 hk, by rw [h]; simp⟩
theorem range_good {n : Nat} {f : Nat → Bool} (h : ∀ p, p < n → f p = true) : (List.range n).all f = true := by
  rw [List.all_eq_true]; exact fun p hp => h p (List.mem_range.1 hp)
theorem good_next {k : Nat} {f : Nat → Bool} (hp : ∀ p, p < k → f p = true) (h : f k = true) : ∀ p, p < k + 1 → f p = true := fun p hpk => by
  by_cases e : p = k
  · subst e; exact h
  · exact hp p (by omega)
theorem checkG_not {l : List TxR} {k : Nat} (hk : k < l.length) (h : okG l k = false) : checkG l = false := by
  simp only [checkG, range_bad hk h, Bool.and_false]
set_option maxRecDepth 8000 in
theorem ref35_check (l : List TxR) (ho : TxsOk l) : PSpec Try.prog CT 17 [txsD l] (· = .bool (checkG l)) := by
  refine PSpec.of hT Try.func17 rfl (by kernel_rfl) rfl rfl ?_
  simp only [Try.f17, go_sem, Nat.reduceAdd, Nat.reduceSub, Nat.reduceMul, Nat.reduceLT, Nat.reduceLeDiff, ↓reduceIte, reduceCtorEq, Nat.reduceEqDiff, Int.reduceToNat, Int.reduceLT, Int.reduceLE, Int.reduceEq, beq_self_eq_true]
  refine condK_split (fun h1 => ?_) (fun h1 => ?_)
  · have h1' := of_decide_eq_true h1
    have : checkG l = false := by simp only [checkG, decide_eq_false (show ¬ l.length ≤ 4096 by omega), Bool.false_and]
    simp only [go_sem, Nat.reduceAdd, Nat.reduceSub, Nat.reduceMul, Nat.reduceLT, Nat.reduceLeDiff, ↓reduceIte, reduceCtorEq, Nat.reduceEqDiff, Int.reduceToNat, Int.reduceLT, Int.reduceLE, Int.reduceEq, beq_self_eq_true, this]
  have h1' := of_decide_eq_false h1
  have hl : l.length ≤ 4096 := by omega
  simp only [go_sem, Nat.reduceAdd, Nat.reduceSub, Nat.reduceMul, Nat.reduceLT, Nat.reduceLeDiff, ↓reduceIte, reduceCtorEq, Nat.reduceEqDiff, Int.reduceToNat, Int.reduceLT, Int.reduceLE, Int.reduceEq, beq_self_eq_true]
  refine awp_loop (fun n s => ∃ (i : Nat) (g : Nat → D), s = ⟨[txsD l, g 1, g 2, .lit (.int .i64 i), g 4, g 5, g 6, g 7, g 8, g 9, g 10, g 11, g 12, g 13, g 14, g 15, g 16, g 17, g 18, g 19, g 20, g 21, g 22, g 23, g 24, g 25, g 26, g 27, g 28, g 29, g 30, g 31, g 32, g 33, g 34, g 35], ⟨[], []⟩⟩ ∧ n = l.length - i ∧ i ≤ l.length ∧ ∀ p, p < i → okG l p = true) l.length ⟨0, reg_intro rfl rfl ⟨by simp, by omega, by simp⟩⟩ ?_
  rintro n st ⟨i, g, rfl, hn, hi, hp⟩
  simp only [go_sem, Nat.reduceAdd, Nat.reduceSub, Nat.reduceMul, Nat.reduceLT, Nat.reduceLeDiff, ↓reduceIte, reduceCtorEq, Nat.reduceEqDiff, Int.reduceToNat, Int.reduceLT, Int.reduceLE, Int.reduceEq, beq_self_eq_true]
  refine condK_split (fun hc => ?_) (fun hc => ?_)
  · have hi' : i < l.length := by have := of_decide_eq_true hc; omega
    obtain ⟨hd, _⟩ := txsOk_at ho hi'
    simp only [go_sem, Nat.reduceAdd, Nat.reduceSub, Nat.reduceMul, Nat.reduceLT, Nat.reduceLeDiff, ↓reduceIte, reduceCtorEq, Nat.reduceEqDiff, Int.reduceToNat, Int.reduceLT, Int.reduceLE, Int.reduceEq, beq_self_eq_true, hi', get_txs]
    cases hb : checkTx (txAt l i) with
    | false =>
      refine callK_pure (ref_checkTx (txAt l i) hd) (by simp only [go_sem, Nat.reduceAdd, Nat.reduceSub, Nat.reduceMul, Nat.reduceLT, Nat.reduceLeDiff, ↓reduceIte, reduceCtorEq, Nat.reduceEqDiff, Int.reduceToNat, Int.reduceLT, Int.reduceLE, Int.reduceEq, beq_self_eq_true, hd, hb, pureL_ops, Bool.not_false]) (by simp only [go_sem, Nat.reduceAdd, Nat.reduceSub, Nat.reduceMul, Nat.reduceLT, Nat.reduceLeDiff, ↓reduceIte, reduceCtorEq, Nat.reduceEqDiff, Int.reduceToNat, Int.reduceLT, Int.reduceLE, Int.reduceEq, beq_self_eq_true, hd, hb, pureL_ops, Bool.not_false]) ?_; simp only [go_sem, Nat.reduceAdd, Nat.reduceSub, Nat.reduceMul, Nat.reduceLT, Nat.reduceLeDiff, ↓reduceIte, reduceCtorEq, Nat.reduceEqDiff, Int.reduceToNat, Int.reduceLT, Int.reduceLE, Int.reduceEq, beq_self_eq_true, hd, hb, pureL_ops, Bool.not_false]
      simp only [go_sem, Nat.reduceAdd, Nat.reduceSub, Nat.reduceMul, Nat.reduceLT, Nat.reduceLeDiff, ↓reduceIte, reduceCtorEq, Nat.reduceEqDiff, Int.reduceToNat, Int.reduceLT, Int.reduceLE, Int.reduceEq, beq_self_eq_true, checkG_not hi' (show okG l i = false by simp only [okG, hb, Bool.false_and])]
    | true =>
    refine callK_pure (ref_checkTx (txAt l i) hd) (by simp only [go_sem, Nat.reduceAdd, Nat.reduceSub, Nat.reduceMul, Nat.reduceLT, Nat.reduceLeDiff, ↓reduceIte, reduceCtorEq, Nat.reduceEqDiff, Int.reduceToNat, Int.reduceLT, Int.reduceLE, Int.reduceEq, beq_self_eq_true, hd, hb, pureL_ops, Bool.not_true]) (by simp only [go_sem, Nat.reduceAdd, Nat.reduceSub, Nat.reduceMul, Nat.reduceLT, Nat.reduceLeDiff, ↓reduceIte, reduceCtorEq, Nat.reduceEqDiff, Int.reduceToNat, Int.reduceLT, Int.reduceLE, Int.reduceEq, beq_self_eq_true, hd, hb, pureL_ops, Bool.not_true]) ?_; simp only [go_sem, Nat.reduceAdd, Nat.reduceSub, Nat.reduceMul, Nat.reduceLT, Nat.reduceLeDiff, ↓reduceIte, reduceCtorEq, Nat.reduceEqDiff, Int.reduceToNat, Int.reduceLT, Int.reduceLE, Int.reduceEq, beq_self_eq_true, hd, hb, pureL_ops, Bool.not_true]
    refine awp_loop (fun m s => ∃ (k : Nat) (g : Nat → D), s = ⟨[txsD l, g 1, g 2, .lit (.int .i64 i), .lit (.int .i64 k), g 5, g 6, g 7, g 8, g 9, g 10, g 11, g 12, g 13, g 14, g 15, g 16, g 17, g 18, g 19, g 20, g 21, g 22, g 23, g 24, g 25, g 26, g 27, g 28, g 29, g 30, g 31, g 32, g 33, g 34, g 35], ⟨[], []⟩⟩ ∧ m = i - k ∧ k ≤ i ∧ ∀ p, p < k → (!dotEq l p i) = true) i ⟨0, reg_intro rfl rfl ⟨by simp, by omega, by simp⟩⟩ ?_
    rintro m st ⟨k, g, rfl, hm, hk, hq⟩
    simp only [go_sem, Nat.reduceAdd, Nat.reduceSub, Nat.reduceMul, Nat.reduceLT, Nat.reduceLeDiff, ↓reduceIte, reduceCtorEq, Nat.reduceEqDiff, Int.reduceToNat, Int.reduceLT, Int.reduceLE, Int.reduceEq, beq_self_eq_true]
    refine condK_split (fun hc2 => ?_) (fun hc2 => ?_)
    · have hk' : k < i := by have := of_decide_eq_true hc2; omega
      have hkl : k < l.length := by omega
      refine .inl ⟨by kernel_rfl, ?_⟩
      simp only [go_sem, Nat.reduceAdd, Nat.reduceSub, Nat.reduceMul, Nat.reduceLT, Nat.reduceLeDiff, ↓reduceIte, reduceCtorEq, Nat.reduceEqDiff, Int.reduceToNat, Int.reduceLT, Int.reduceLE, Int.reduceEq, beq_self_eq_true, hi', hkl, get_txs, eqB_cons, eqB_nil, eqB_int, Bool.and_true]
      refine condK_split (fun h5 => ?_) (fun h5 => ?_)
      · have : newG l i = false := range_bad hk' (by rw [show dotEq l k i = true from h5]; rfl)
        simp only [go_sem, Nat.reduceAdd, Nat.reduceSub, Nat.reduceMul, Nat.reduceLT, Nat.reduceLeDiff, ↓reduceIte, reduceCtorEq, Nat.reduceEqDiff, Int.reduceToNat, Int.reduceLT, Int.reduceLE, Int.reduceEq, beq_self_eq_true, checkG_not hi' (show okG l i = false by simp only [okG, this, Bool.and_false])]
      · simp only [go_sem, Nat.reduceAdd, Nat.reduceSub, Nat.reduceMul, Nat.reduceLT, Nat.reduceLeDiff, ↓reduceIte, reduceCtorEq, Nat.reduceEqDiff, Int.reduceToNat, Int.reduceLT, Int.reduceLE, Int.reduceEq, beq_self_eq_true, wrapNat k (by omega)]
        exact ⟨i - (k + 1), by omega, k + 1, reg_intro rfl rfl ⟨rfl, by omega, good_next hq (by rw [show dotEq l k i = false from h5]; rfl)⟩⟩
    · have hi2 := of_decide_eq_false hc2
      obtain rfl : k = i := by omega
      have : okG l k = true := by simp only [okG, hb, Bool.true_and]; exact range_good hq
      simp only [go_sem, Nat.reduceAdd, Nat.reduceSub, Nat.reduceMul, Nat.reduceLT, Nat.reduceLeDiff, ↓reduceIte, reduceCtorEq, Nat.reduceEqDiff, Int.reduceToNat, Int.reduceLT, Int.reduceLE, Int.reduceEq, beq_self_eq_true, wrapNat k (by omega)]
      exact ⟨l.length - (k + 1), by omega, k + 1, reg_intro rfl rfl ⟨rfl, by omega, good_next hp this⟩⟩
  · have hi2 := of_decide_eq_false hc
    obtain rfl : i = l.length := by omega
    have : checkG l = true := by simp only [checkG, decide_eq_true hl, Bool.true_and]; exact range_good hp
    simp only [go_sem, Nat.reduceAdd, Nat.reduceSub, Nat.reduceMul, Nat.reduceLT, Nat.reduceLeDiff, ↓reduceIte, reduceCtorEq, Nat.reduceEqDiff, Int.reduceToNat, Int.reduceLT, Int.reduceLE, Int.reduceEq, beq_self_eq_true, this]
set_option maxRecDepth 8000 in
theorem ref35_leads (l : List TxR) (ho : TxsOk l) {i k : Nat} (hi : i < l.length) (hk : k < l.length) : PSpec Try.prog CT 62 [txsD l, .lit (.int .i64 i), .lit (.int .i64 k)] (· = .bool (leadG l i k)) := by
  refine PSpec.of hT Try.func62 rfl (by kernel_rfl) rfl rfl ?_
  obtain ⟨hd, _⟩ := txsOk_at ho hk
  simp only [Try.f62, go_sem, Nat.reduceAdd, Nat.reduceSub, Nat.reduceMul, Nat.reduceLT, Nat.reduceLeDiff, ↓reduceIte, reduceCtorEq, Nat.reduceEqDiff, Int.reduceToNat, Int.reduceLT, Int.reduceLE, Int.reduceEq, beq_self_eq_true]
  refine .inl ⟨by kernel_rfl, ?_⟩
  simp only [go_sem, Nat.reduceAdd, Nat.reduceSub, Nat.reduceMul, Nat.reduceLT, Nat.reduceLeDiff, ↓reduceIte, reduceCtorEq, Nat.reduceEqDiff, Int.reduceToNat, Int.reduceLT, Int.reduceLE, Int.reduceEq, beq_self_eq_true, hi, hk, get_txs]
  refine callD_pure (ref_has (txAt l k).deps (txAt l i).peer (txAt l i).seq hd) (by simp only [go_sem, Nat.reduceAdd, Nat.reduceSub, Nat.reduceMul, Nat.reduceLT, Nat.reduceLeDiff, ↓reduceIte, reduceCtorEq, Nat.reduceEqDiff, Int.reduceToNat, Int.reduceLT, Int.reduceLE, Int.reduceEq, beq_self_eq_true, hd]) (by simp only [go_sem, Nat.reduceAdd, Nat.reduceSub, Nat.reduceMul, Nat.reduceLT, Nat.reduceLeDiff, ↓reduceIte, reduceCtorEq, Nat.reduceEqDiff, Int.reduceToNat, Int.reduceLT, Int.reduceLE, Int.reduceEq, beq_self_eq_true, hd]) ?_; simp only [go_sem, Nat.reduceAdd, Nat.reduceSub, Nat.reduceMul, Nat.reduceLT, Nat.reduceLeDiff, ↓reduceIte, reduceCtorEq, Nat.reduceEqDiff, Int.reduceToNat, Int.reduceLT, Int.reduceLE, Int.reduceEq, beq_self_eq_true, hd]
  simp only [go_sem, Nat.reduceAdd, Nat.reduceSub, Nat.reduceMul, Nat.reduceLT, Nat.reduceLeDiff, ↓reduceIte, reduceCtorEq, Nat.reduceEqDiff, Int.reduceToNat, Int.reduceLT, Int.reduceLE, Int.reduceEq, beq_self_eq_true, leadG]
set_option maxRecDepth 8000 in
theorem ref35_place (l : List TxR) (i : Int) : PSpec Try.prog CT 61 [txsD l, .lit (.int .i64 i)] (· = .bool (decide (0 ≤ i) && decide (i < (l.length : Int)))) := by
  refine PSpec.of hT Try.func61 rfl (by kernel_rfl) rfl rfl ?_
  simp only [Try.f61, go_sem, Nat.reduceAdd, Nat.reduceSub, Nat.reduceMul, Nat.reduceLT, Nat.reduceLeDiff, ↓reduceIte, reduceCtorEq, Nat.reduceEqDiff, Int.reduceToNat, Int.reduceLT, Int.reduceLE, Int.reduceEq, beq_self_eq_true]
  (repeat' (first | ((refine guardK_split (fun hg => ?_) (fun hg => ?_)) <;> (try simp only [go_sem, Nat.reduceAdd, Nat.reduceSub, Nat.reduceMul, Nat.reduceLT, Nat.reduceLeDiff, ↓reduceIte, reduceCtorEq, Nat.reduceEqDiff, Int.reduceToNat, Int.reduceLT, Int.reduceLE, Int.reduceEq, beq_self_eq_true, hg])) | ((refine condK_split (fun hg => ?_) (fun hg => ?_)) <;> (try simp only [go_sem, Nat.reduceAdd, Nat.reduceSub, Nat.reduceMul, Nat.reduceLT, Nat.reduceLeDiff, ↓reduceIte, reduceCtorEq, Nat.reduceEqDiff, Int.reduceToNat, Int.reduceLT, Int.reduceLE, Int.reduceEq, beq_self_eq_true, hg])) | ((refine Or.inl ⟨by kernel_rfl, ?_⟩) <;> (try simp only [go_sem, Nat.reduceAdd, Nat.reduceSub, Nat.reduceMul, Nat.reduceLT, Nat.reduceLeDiff, ↓reduceIte, reduceCtorEq, Nat.reduceEqDiff, Int.reduceToNat, Int.reduceLT, Int.reduceLE, Int.reduceEq, beq_self_eq_true])))) <;> (first | done | (simp_all; done))
end Go.Ab
set_option linter.unusedSimpArgs false
namespace Go.Ab
open Go.Proofs

def ahead19 (p1 s1 p2 s2 : Int) : Bool := if p1 = p2 then decide (s1 < s2) else decide (p1 < p2)
theorem ref19_ahead (p1 s1 p2 s2 : Int) : PSpec Try.prog CT 55 [dotD p1 s1, dotD p2 s2] (· = .bool (ahead19 p1 s1 p2 s2)) := by
  refine PSpec.of hT Try.func55 rfl (by kernel_rfl) rfl rfl ?_
  simp only [Try.f55, go_sem, Nat.reduceAdd, Nat.reduceSub, Nat.reduceMul, Nat.reduceLT, Nat.reduceLeDiff, ↓reduceIte, reduceCtorEq, Nat.reduceEqDiff, Int.reduceToNat, Int.reduceLT, Int.reduceLE, Int.reduceEq, beq_self_eq_true]
  (repeat' (first | ((refine guardK_split (fun hg => ?_) (fun hg => ?_)) <;> (try simp only [go_sem, Nat.reduceAdd, Nat.reduceSub, Nat.reduceMul, Nat.reduceLT, Nat.reduceLeDiff, ↓reduceIte, reduceCtorEq, Nat.reduceEqDiff, Int.reduceToNat, Int.reduceLT, Int.reduceLE, Int.reduceEq, beq_self_eq_true, hg])) | ((refine condK_split (fun hg => ?_) (fun hg => ?_)) <;> (try simp only [go_sem, Nat.reduceAdd, Nat.reduceSub, Nat.reduceMul, Nat.reduceLT, Nat.reduceLeDiff, ↓reduceIte, reduceCtorEq, Nat.reduceEqDiff, Int.reduceToNat, Int.reduceLT, Int.reduceLE, Int.reduceEq, beq_self_eq_true, hg])) | ((refine Or.inl ⟨by kernel_rfl, ?_⟩) <;> (try simp only [go_sem, Nat.reduceAdd, Nat.reduceSub, Nat.reduceMul, Nat.reduceLT, Nat.reduceLeDiff, ↓reduceIte, reduceCtorEq, Nat.reduceEqDiff, Int.reduceToNat, Int.reduceLT, Int.reduceLE, Int.reduceEq, beq_self_eq_true])))) <;> (first | done | (simp_all [ahead19]; done))
def natI (l : List Nat) : List Int := l.map fun (k : Nat) => (k : Int)
theorem mem_natI (l : List Nat) (k : Nat) : ((k : Int) ∈ natI l) = (k ∈ l) := by
  simp only [natI, List.mem_map, eq_iff_iff]
  constructor
  · rintro ⟨x, hx, h⟩; have : x = k := by omega
    subst this; exact hx
  · exact fun h => ⟨k, h, rfl⟩
theorem natI_snoc (l : List Nat) (k : Nat) : natI l ++ [(k : Int)] = natI (l ++ [k]) := by simp [natI]
theorem natI_len (l : List Nat) : (natI l).length = l.length := by simp [natI]
/-- Does none that is not told lead to a place? -/
def freeAt (l : List TxR) (told : List Nat) (i k : Nat) : Bool := decide (k ∈ told) || !leadG l k i
def freeG (l : List TxR) (told : List Nat) (i : Nat) : Bool := (List.range l.length).all (freeAt l told i)
set_option maxRecDepth 8000 in
theorem ref35_free (l : List TxR) (told : List Nat) (ho : TxsOk l) {i : Nat} (hi : i < l.length) (hl : l.length < 4000000000) (ht : told.length < 4000000000) : PSpec Try.prog CT 54 [txsD l, intsL (natI told) .no, .lit (.int .i64 i)] (· = .bool (freeG l told i)) := by
  refine PSpec.of hT Try.func54 rfl (by kernel_rfl) rfl rfl ?_
  simp only [Try.f54, go_sem, Nat.reduceAdd, Nat.reduceSub, Nat.reduceMul, Nat.reduceLT, Nat.reduceLeDiff, ↓reduceIte, reduceCtorEq, Nat.reduceEqDiff, Int.reduceToNat, Int.reduceLT, Int.reduceLE, Int.reduceEq, beq_self_eq_true]
  refine awp_loop (fun n s => ∃ (k : Nat) (g : Nat → D), s = ⟨[txsD l, intsL (natI told) .no, .lit (.int .i64 i), g 3, g 4, g 5, g 6, .lit (.int .i64 k), g 8, g 9, g 10, g 11, g 12, g 13, g 14, g 15, g 16, g 17, g 18, g 19, g 20, g 21, g 22, g 23], ⟨[], []⟩⟩ ∧ n = l.length - k ∧ k ≤ l.length ∧ ∀ p, p < k → freeAt l told i p = true) l.length ⟨0, reg_intro rfl rfl ⟨by simp, by omega, by simp⟩⟩ ?_
  rintro n st ⟨k, g, rfl, hn, hk, hp⟩
  simp only [go_sem, Nat.reduceAdd, Nat.reduceSub, Nat.reduceMul, Nat.reduceLT, Nat.reduceLeDiff, ↓reduceIte, reduceCtorEq, Nat.reduceEqDiff, Int.reduceToNat, Int.reduceLT, Int.reduceLE, Int.reduceEq, beq_self_eq_true]
  refine condK_split (fun hc => ?_) (fun hc => ?_)
  · have hk' : k < l.length := by have := of_decide_eq_true hc; omega
    simp only [go_sem, Nat.reduceAdd, Nat.reduceSub, Nat.reduceMul, Nat.reduceLT, Nat.reduceLeDiff, ↓reduceIte, reduceCtorEq, Nat.reduceEqDiff, Int.reduceToNat, Int.reduceLT, Int.reduceLE, Int.reduceEq, beq_self_eq_true, hk']
    have hm := mem_natI told k
    cases h1 : decide (k ∈ told) with
    | true =>
      refine callK_pure (ref18_has (natI told) k (by rw [natI_len]; exact ht)) (by simp only [go_sem, Nat.reduceAdd, Nat.reduceSub, Nat.reduceMul, Nat.reduceLT, Nat.reduceLeDiff, ↓reduceIte, reduceCtorEq, Nat.reduceEqDiff, Int.reduceToNat, Int.reduceLT, Int.reduceLE, Int.reduceEq, beq_self_eq_true, hm, h1, Bool.not_true]) (by simp only [go_sem, Nat.reduceAdd, Nat.reduceSub, Nat.reduceMul, Nat.reduceLT, Nat.reduceLeDiff, ↓reduceIte, reduceCtorEq, Nat.reduceEqDiff, Int.reduceToNat, Int.reduceLT, Int.reduceLE, Int.reduceEq, beq_self_eq_true, hm, h1, Bool.not_true]) ?_; simp only [go_sem, Nat.reduceAdd, Nat.reduceSub, Nat.reduceMul, Nat.reduceLT, Nat.reduceLeDiff, ↓reduceIte, reduceCtorEq, Nat.reduceEqDiff, Int.reduceToNat, Int.reduceLT, Int.reduceLE, Int.reduceEq, beq_self_eq_true, hm, h1, Bool.not_true]
      simp only [go_sem, Nat.reduceAdd, Nat.reduceSub, Nat.reduceMul, Nat.reduceLT, Nat.reduceLeDiff, ↓reduceIte, reduceCtorEq, Nat.reduceEqDiff, Int.reduceToNat, Int.reduceLT, Int.reduceLE, Int.reduceEq, beq_self_eq_true, wrapNat k (by omega)]
      exact ⟨l.length - (k + 1), by omega, k + 1, reg_intro rfl rfl ⟨rfl, by omega, good_next hp (by rw [freeAt, h1]; rfl)⟩⟩
    | false =>
    refine callK_pure (ref18_has (natI told) k (by rw [natI_len]; exact ht)) (by simp only [go_sem, Nat.reduceAdd, Nat.reduceSub, Nat.reduceMul, Nat.reduceLT, Nat.reduceLeDiff, ↓reduceIte, reduceCtorEq, Nat.reduceEqDiff, Int.reduceToNat, Int.reduceLT, Int.reduceLE, Int.reduceEq, beq_self_eq_true, hm, h1, Bool.not_false]) (by simp only [go_sem, Nat.reduceAdd, Nat.reduceSub, Nat.reduceMul, Nat.reduceLT, Nat.reduceLeDiff, ↓reduceIte, reduceCtorEq, Nat.reduceEqDiff, Int.reduceToNat, Int.reduceLT, Int.reduceLE, Int.reduceEq, beq_self_eq_true, hm, h1, Bool.not_false]) ?_; simp only [go_sem, Nat.reduceAdd, Nat.reduceSub, Nat.reduceMul, Nat.reduceLT, Nat.reduceLeDiff, ↓reduceIte, reduceCtorEq, Nat.reduceEqDiff, Int.reduceToNat, Int.reduceLT, Int.reduceLE, Int.reduceEq, beq_self_eq_true, hm, h1, Bool.not_false]
    cases h2 : leadG l k i with
    | true =>
      refine callK_pure (ref35_leads l ho hk' hi) (by simp only [go_sem, Nat.reduceAdd, Nat.reduceSub, Nat.reduceMul, Nat.reduceLT, Nat.reduceLeDiff, ↓reduceIte, reduceCtorEq, Nat.reduceEqDiff, Int.reduceToNat, Int.reduceLT, Int.reduceLE, Int.reduceEq, beq_self_eq_true, h2]) (by simp only [go_sem, Nat.reduceAdd, Nat.reduceSub, Nat.reduceMul, Nat.reduceLT, Nat.reduceLeDiff, ↓reduceIte, reduceCtorEq, Nat.reduceEqDiff, Int.reduceToNat, Int.reduceLT, Int.reduceLE, Int.reduceEq, beq_self_eq_true, h2]) ?_; simp only [go_sem, Nat.reduceAdd, Nat.reduceSub, Nat.reduceMul, Nat.reduceLT, Nat.reduceLeDiff, ↓reduceIte, reduceCtorEq, Nat.reduceEqDiff, Int.reduceToNat, Int.reduceLT, Int.reduceLE, Int.reduceEq, beq_self_eq_true, h2]
      have : freeG l told i = false := range_bad hk' (by rw [freeAt, h1, h2]; rfl)
      simp only [go_sem, Nat.reduceAdd, Nat.reduceSub, Nat.reduceMul, Nat.reduceLT, Nat.reduceLeDiff, ↓reduceIte, reduceCtorEq, Nat.reduceEqDiff, Int.reduceToNat, Int.reduceLT, Int.reduceLE, Int.reduceEq, beq_self_eq_true, this]
    | false =>
    refine callK_pure (ref35_leads l ho hk' hi) (by simp only [go_sem, Nat.reduceAdd, Nat.reduceSub, Nat.reduceMul, Nat.reduceLT, Nat.reduceLeDiff, ↓reduceIte, reduceCtorEq, Nat.reduceEqDiff, Int.reduceToNat, Int.reduceLT, Int.reduceLE, Int.reduceEq, beq_self_eq_true, h2]) (by simp only [go_sem, Nat.reduceAdd, Nat.reduceSub, Nat.reduceMul, Nat.reduceLT, Nat.reduceLeDiff, ↓reduceIte, reduceCtorEq, Nat.reduceEqDiff, Int.reduceToNat, Int.reduceLT, Int.reduceLE, Int.reduceEq, beq_self_eq_true, h2]) ?_; simp only [go_sem, Nat.reduceAdd, Nat.reduceSub, Nat.reduceMul, Nat.reduceLT, Nat.reduceLeDiff, ↓reduceIte, reduceCtorEq, Nat.reduceEqDiff, Int.reduceToNat, Int.reduceLT, Int.reduceLE, Int.reduceEq, beq_self_eq_true, h2]
    simp only [go_sem, Nat.reduceAdd, Nat.reduceSub, Nat.reduceMul, Nat.reduceLT, Nat.reduceLeDiff, ↓reduceIte, reduceCtorEq, Nat.reduceEqDiff, Int.reduceToNat, Int.reduceLT, Int.reduceLE, Int.reduceEq, beq_self_eq_true, wrapNat k (by omega)]
    exact ⟨l.length - (k + 1), by omega, k + 1, reg_intro rfl rfl ⟨rfl, by omega, good_next hp (by rw [freeAt, h2]; simp)⟩⟩
  · have hi2 := of_decide_eq_false hc
    obtain rfl : k = l.length := by omega
    have : freeG l told i = true := range_good hp
    simp only [go_sem, Nat.reduceAdd, Nat.reduceSub, Nat.reduceMul, Nat.reduceLT, Nat.reduceLeDiff, ↓reduceIte, reduceCtorEq, Nat.reduceEqDiff, Int.reduceToNat, Int.reduceLT, Int.reduceLE, Int.reduceEq, beq_self_eq_true, this]

def dotLt (l : List TxR) (i j : Nat) : Bool := ahead19 (txAt l i).peer (txAt l i).seq (txAt l j).peer (txAt l j).seq
def goodB (l : List TxR) (out : List Nat) (b : Option Nat) (i : Nat) : Bool := !decide (i ∈ out) && freeG l out i && (match b with | none => true | some j => dotLt l i j)
def bestStep (l : List TxR) (out : List Nat) (b : Option Nat) (i : Nat) : Option Nat := if goodB l out b i then some i else b
def bestAtG (l : List TxR) (out : List Nat) (k : Nat) : Option Nat := (List.range k).foldl (bestStep l out) none
theorem bestAtG_succ (l : List TxR) (out : List Nat) (k : Nat) : bestAtG l out (k + 1) = bestStep l out (bestAtG l out k) k := by
  rw [bestAtG, List.range_succ, List.foldl_append]; rfl
theorem bestAtG_lt (l : List TxR) (out : List Nat) : ∀ k j, bestAtG l out k = some j → j < k
  | 0, j, h => by simp [bestAtG] at h
  | k + 1, j, h => by
    rw [bestAtG_succ, bestStep] at h
    split at h
    · cases h; omega
    · have := bestAtG_lt l out k j h; omega
def bestG (l : List TxR) (out : List Nat) : Option Nat := bestAtG l out l.length
def sortR (l : List TxR) : Nat → List Nat → Option (List Nat)
  | 0, out => some out
  | r + 1, out => match bestG l out with
    | none => none
    | some b => sortR l r (out ++ [b])
def sortGG (l : List TxR) : Option (List Nat) := if checkG l then sortR l l.length [] else none
def sortD (o : Option (List Nat)) : D := .tup [intsL (natI (o.getD [])) .no, .bool o.isSome]
def optI (b : Option Nat) : Int := match b with | none => -1 | some i => i
set_option maxRecDepth 8000 in
set_option maxHeartbeats 1000000 in
theorem ref35_sort (l : List TxR) (ho : TxsOk l) : PSpec Try.prog CT 15 [txsD l] (· = sortD (sortGG l)) := by
  refine PSpec.of hT Try.func15 rfl (by kernel_rfl) rfl rfl ?_
  simp only [Try.f15, go_sem, Nat.reduceAdd, Nat.reduceSub, Nat.reduceMul, Nat.reduceLT, Nat.reduceLeDiff, ↓reduceIte, reduceCtorEq, Nat.reduceEqDiff, Int.reduceToNat, Int.reduceLT, Int.reduceLE, Int.reduceEq, beq_self_eq_true]
  cases h1 : checkG l with
  | false =>
    have e : sortGG l = none := by rw [sortGG, h1]; rfl
    refine callK_pure (ref35_check l ho) (by simp only [go_sem, Nat.reduceAdd, Nat.reduceSub, Nat.reduceMul, Nat.reduceLT, Nat.reduceLeDiff, ↓reduceIte, reduceCtorEq, Nat.reduceEqDiff, Int.reduceToNat, Int.reduceLT, Int.reduceLE, Int.reduceEq, beq_self_eq_true, h1, Bool.not_false]) (by simp only [go_sem, Nat.reduceAdd, Nat.reduceSub, Nat.reduceMul, Nat.reduceLT, Nat.reduceLeDiff, ↓reduceIte, reduceCtorEq, Nat.reduceEqDiff, Int.reduceToNat, Int.reduceLT, Int.reduceLE, Int.reduceEq, beq_self_eq_true, h1, Bool.not_false]) ?_; simp only [go_sem, Nat.reduceAdd, Nat.reduceSub, Nat.reduceMul, Nat.reduceLT, Nat.reduceLeDiff, ↓reduceIte, reduceCtorEq, Nat.reduceEqDiff, Int.reduceToNat, Int.reduceLT, Int.reduceLE, Int.reduceEq, beq_self_eq_true, h1, Bool.not_false]
    rw [e]; simp only [go_sem, Nat.reduceAdd, Nat.reduceSub, Nat.reduceMul, Nat.reduceLT, Nat.reduceLeDiff, ↓reduceIte, reduceCtorEq, Nat.reduceEqDiff, Int.reduceToNat, Int.reduceLT, Int.reduceLE, Int.reduceEq, beq_self_eq_true, sortD, natI, Option.getD_none, Option.isSome_none, List.map_nil, intsL]
  | true =>
  have hl : l.length ≤ 4096 := by simp only [checkG, Bool.and_eq_true, decide_eq_true_eq] at h1; exact h1.1
  have e : sortGG l = sortR l l.length [] := by rw [sortGG, h1]; rfl
  refine callK_pure (ref35_check l ho) (by simp only [go_sem, Nat.reduceAdd, Nat.reduceSub, Nat.reduceMul, Nat.reduceLT, Nat.reduceLeDiff, ↓reduceIte, reduceCtorEq, Nat.reduceEqDiff, Int.reduceToNat, Int.reduceLT, Int.reduceLE, Int.reduceEq, beq_self_eq_true, h1, Bool.not_true]) (by simp only [go_sem, Nat.reduceAdd, Nat.reduceSub, Nat.reduceMul, Nat.reduceLT, Nat.reduceLeDiff, ↓reduceIte, reduceCtorEq, Nat.reduceEqDiff, Int.reduceToNat, Int.reduceLT, Int.reduceLE, Int.reduceEq, beq_self_eq_true, h1, Bool.not_true]) ?_; simp only [go_sem, Nat.reduceAdd, Nat.reduceSub, Nat.reduceMul, Nat.reduceLT, Nat.reduceLeDiff, ↓reduceIte, reduceCtorEq, Nat.reduceEqDiff, Int.reduceToNat, Int.reduceLT, Int.reduceLE, Int.reduceEq, beq_self_eq_true, h1, Bool.not_true]
  rw [e]
  refine awp_loop (fun n s => ∃ (r : Nat) (o : List Nat) (u : Tok) (tk : List Bool) (g : Nat → D), s = ⟨[txsD l, g 1, g 2, g 3, intsL (natI o) u, .lit (.int .i64 r), g 6, g 7, g 8, g 9, g 10, g 11, g 12, g 13, g 14, g 15, g 16, g 17, g 18, g 19, g 20, g 21, g 22, g 23, g 24, g 25, g 26, g 27, g 28, g 29, g 30, g 31, g 32, g 33, g 34, g 35, g 36, g 37, g 38, g 39, g 40, g 41, g 42, g 43, g 44, g 45, g 46, g 47, g 48, g 49, g 50, g 51, g 52, g 53, g 54, g 55, g 56, g 57], ⟨[], tk⟩⟩ ∧ n = l.length - r ∧ r ≤ l.length ∧ live u tk ∧ o.length = r ∧ sortR l (l.length - r) o = sortR l l.length []) l.length ⟨0, [], .full, [], reg_intro rfl rfl ⟨by simp, by omega, trivial, rfl, rfl⟩⟩ ?_
  rintro n st ⟨r, o, u, tk, g, rfl, hn, hr, hu, hol, hs⟩
  simp only [go_sem, Nat.reduceAdd, Nat.reduceSub, Nat.reduceMul, Nat.reduceLT, Nat.reduceLeDiff, ↓reduceIte, reduceCtorEq, Nat.reduceEqDiff, Int.reduceToNat, Int.reduceLT, Int.reduceLE, Int.reduceEq, beq_self_eq_true]
  refine condK_split (fun hc => ?_) (fun hc => ?_)
  · have hr' : r < l.length := by have := of_decide_eq_true hc; omega
    simp only [go_sem, Nat.reduceAdd, Nat.reduceSub, Nat.reduceMul, Nat.reduceLT, Nat.reduceLeDiff, ↓reduceIte, reduceCtorEq, Nat.reduceEqDiff, Int.reduceToNat, Int.reduceLT, Int.reduceLE, Int.reduceEq, beq_self_eq_true]
    refine awp_loop (fun m s => ∃ (i : Nat) (g : Nat → D), s = ⟨[txsD l, g 1, g 2, g 3, intsL (natI o) u, .lit (.int .i64 r), .lit (.int .i64 (optI (bestAtG l o i))), .lit (.int .i64 i), g 8, g 9, g 10, g 11, g 12, g 13, g 14, g 15, g 16, g 17, g 18, g 19, g 20, g 21, g 22, g 23, g 24, g 25, g 26, g 27, g 28, g 29, g 30, g 31, g 32, g 33, g 34, g 35, g 36, g 37, g 38, g 39, g 40, g 41, g 42, g 43, g 44, g 45, g 46, g 47, g 48, g 49, g 50, g 51, g 52, g 53, g 54, g 55, g 56, g 57], ⟨[], tk⟩⟩ ∧ m = l.length - i ∧ i ≤ l.length) l.length ⟨0, reg_intro rfl rfl ⟨by simp, by omega⟩⟩ ?_
    rintro m st ⟨i, g, rfl, hm, hi⟩
    simp only [go_sem, Nat.reduceAdd, Nat.reduceSub, Nat.reduceMul, Nat.reduceLT, Nat.reduceLeDiff, ↓reduceIte, reduceCtorEq, Nat.reduceEqDiff, Int.reduceToNat, Int.reduceLT, Int.reduceLE, Int.reduceEq, beq_self_eq_true]
    refine condK_split (fun hc2 => ?_) (fun hc2 => ?_)
    · have hi' : i < l.length := by have := of_decide_eq_true hc2; omega
      have hsucc := bestAtG_succ l o i
      have hblt := bestAtG_lt l o i
      have hmem := mem_natI o i
      generalize bestAtG l o i = b at *
      have stay : goodB l o b i = false → bestAtG l o (i + 1) = b := fun h => by rw [hsucc, bestStep, h]; rfl
      have take : goodB l o b i = true → bestAtG l o (i + 1) = some i := fun h => by rw [hsucc, bestStep, h]; rfl
      refine .inl ⟨by kernel_rfl, ?_⟩
      try simp only [go_sem, Nat.reduceAdd, Nat.reduceSub, Nat.reduceMul, Nat.reduceLT, Nat.reduceLeDiff, ↓reduceIte, reduceCtorEq, Nat.reduceEqDiff, Int.reduceToNat, Int.reduceLT, Int.reduceLE, Int.reduceEq, beq_self_eq_true, hi']
      cases h2 : decide (i ∈ o) with
      | true =>
        refine callD_pure (ref18_has (natI o) i (by rw [natI_len]; omega)) (by simp only [go_sem, Nat.reduceAdd, Nat.reduceSub, Nat.reduceMul, Nat.reduceLT, Nat.reduceLeDiff, ↓reduceIte, reduceCtorEq, Nat.reduceEqDiff, Int.reduceToNat, Int.reduceLT, Int.reduceLE, Int.reduceEq, beq_self_eq_true, hmem, h2, Bool.not_true]) (by simp only [go_sem, Nat.reduceAdd, Nat.reduceSub, Nat.reduceMul, Nat.reduceLT, Nat.reduceLeDiff, ↓reduceIte, reduceCtorEq, Nat.reduceEqDiff, Int.reduceToNat, Int.reduceLT, Int.reduceLE, Int.reduceEq, beq_self_eq_true, hmem, h2, Bool.not_true]) ?_; simp only [go_sem, Nat.reduceAdd, Nat.reduceSub, Nat.reduceMul, Nat.reduceLT, Nat.reduceLeDiff, ↓reduceIte, reduceCtorEq, Nat.reduceEqDiff, Int.reduceToNat, Int.reduceLT, Int.reduceLE, Int.reduceEq, beq_self_eq_true, hmem, h2, Bool.not_true]
        simp only [go_sem, Nat.reduceAdd, Nat.reduceSub, Nat.reduceMul, Nat.reduceLT, Nat.reduceLeDiff, ↓reduceIte, reduceCtorEq, Nat.reduceEqDiff, Int.reduceToNat, Int.reduceLT, Int.reduceLE, Int.reduceEq, beq_self_eq_true, wrapNat i (by omega)]
        exact ⟨l.length - (i + 1), by omega, i + 1, by rw [stay (by simp only [goodB, h2, Bool.not_true, Bool.false_and])]; exact reg_intro rfl rfl ⟨rfl, by omega⟩⟩
      | false =>
      refine callD_pure (ref18_has (natI o) i (by rw [natI_len]; omega)) (by simp only [go_sem, Nat.reduceAdd, Nat.reduceSub, Nat.reduceMul, Nat.reduceLT, Nat.reduceLeDiff, ↓reduceIte, reduceCtorEq, Nat.reduceEqDiff, Int.reduceToNat, Int.reduceLT, Int.reduceLE, Int.reduceEq, beq_self_eq_true, hmem, h2, Bool.not_false]) (by simp only [go_sem, Nat.reduceAdd, Nat.reduceSub, Nat.reduceMul, Nat.reduceLT, Nat.reduceLeDiff, ↓reduceIte, reduceCtorEq, Nat.reduceEqDiff, Int.reduceToNat, Int.reduceLT, Int.reduceLE, Int.reduceEq, beq_self_eq_true, hmem, h2, Bool.not_false]) ?_; simp only [go_sem, Nat.reduceAdd, Nat.reduceSub, Nat.reduceMul, Nat.reduceLT, Nat.reduceLeDiff, ↓reduceIte, reduceCtorEq, Nat.reduceEqDiff, Int.reduceToNat, Int.reduceLT, Int.reduceLE, Int.reduceEq, beq_self_eq_true, hmem, h2, Bool.not_false]
      cases h3 : freeG l o i with
      | false =>
        refine callD_pure (ref35_free l o ho hi' (by omega) (by omega)) (by simp only [go_sem, Nat.reduceAdd, Nat.reduceSub, Nat.reduceMul, Nat.reduceLT, Nat.reduceLeDiff, ↓reduceIte, reduceCtorEq, Nat.reduceEqDiff, Int.reduceToNat, Int.reduceLT, Int.reduceLE, Int.reduceEq, beq_self_eq_true, h3]) (by simp only [go_sem, Nat.reduceAdd, Nat.reduceSub, Nat.reduceMul, Nat.reduceLT, Nat.reduceLeDiff, ↓reduceIte, reduceCtorEq, Nat.reduceEqDiff, Int.reduceToNat, Int.reduceLT, Int.reduceLE, Int.reduceEq, beq_self_eq_true, h3]) ?_; simp only [go_sem, Nat.reduceAdd, Nat.reduceSub, Nat.reduceMul, Nat.reduceLT, Nat.reduceLeDiff, ↓reduceIte, reduceCtorEq, Nat.reduceEqDiff, Int.reduceToNat, Int.reduceLT, Int.reduceLE, Int.reduceEq, beq_self_eq_true, h3]
        simp only [go_sem, Nat.reduceAdd, Nat.reduceSub, Nat.reduceMul, Nat.reduceLT, Nat.reduceLeDiff, ↓reduceIte, reduceCtorEq, Nat.reduceEqDiff, Int.reduceToNat, Int.reduceLT, Int.reduceLE, Int.reduceEq, beq_self_eq_true, wrapNat i (by omega)]
        exact ⟨l.length - (i + 1), by omega, i + 1, by rw [stay (by simp only [goodB, h3, Bool.and_false, Bool.false_and])]; exact reg_intro rfl rfl ⟨rfl, by omega⟩⟩
      | true =>
      refine callD_pure (ref35_free l o ho hi' (by omega) (by omega)) (by simp only [go_sem, Nat.reduceAdd, Nat.reduceSub, Nat.reduceMul, Nat.reduceLT, Nat.reduceLeDiff, ↓reduceIte, reduceCtorEq, Nat.reduceEqDiff, Int.reduceToNat, Int.reduceLT, Int.reduceLE, Int.reduceEq, beq_self_eq_true, h3]) (by simp only [go_sem, Nat.reduceAdd, Nat.reduceSub, Nat.reduceMul, Nat.reduceLT, Nat.reduceLeDiff, ↓reduceIte, reduceCtorEq, Nat.reduceEqDiff, Int.reduceToNat, Int.reduceLT, Int.reduceLE, Int.reduceEq, beq_self_eq_true, h3]) ?_; simp only [go_sem, Nat.reduceAdd, Nat.reduceSub, Nat.reduceMul, Nat.reduceLT, Nat.reduceLeDiff, ↓reduceIte, reduceCtorEq, Nat.reduceEqDiff, Int.reduceToNat, Int.reduceLT, Int.reduceLE, Int.reduceEq, beq_self_eq_true, h3]
      cases b with
      | none =>
        have hz : decide ((-1 : Int) < 0) = true := rfl
        simp only [go_sem, Nat.reduceAdd, Nat.reduceSub, Nat.reduceMul, Nat.reduceLT, Nat.reduceLeDiff, ↓reduceIte, reduceCtorEq, Nat.reduceEqDiff, Int.reduceToNat, Int.reduceLT, Int.reduceLE, Int.reduceEq, beq_self_eq_true, optI, hz]
        simp only [go_sem, Nat.reduceAdd, Nat.reduceSub, Nat.reduceMul, Nat.reduceLT, Nat.reduceLeDiff, ↓reduceIte, reduceCtorEq, Nat.reduceEqDiff, Int.reduceToNat, Int.reduceLT, Int.reduceLE, Int.reduceEq, beq_self_eq_true, wrapNat i (by omega)]
        exact ⟨l.length - (i + 1), by omega, i + 1, by rw [take (by simp only [goodB, h2, h3]; rfl)]; exact reg_intro rfl rfl ⟨rfl, by omega⟩⟩
      | some j =>
        have hj := hblt j rfl
        have hjl : j < l.length := by omega
        have hz : decide ((j : Int) < 0) = false := by rw [decide_eq_false_iff_not]; omega
        simp only [go_sem, Nat.reduceAdd, Nat.reduceSub, Nat.reduceMul, Nat.reduceLT, Nat.reduceLeDiff, ↓reduceIte, reduceCtorEq, Nat.reduceEqDiff, Int.reduceToNat, Int.reduceLT, Int.reduceLE, Int.reduceEq, beq_self_eq_true, optI]
        refine guardK_split (fun h5 => absurd (of_decide_eq_true h5) (by omega)) (fun h5 => ?_)
        simp only [go_sem, Nat.reduceAdd, Nat.reduceSub, Nat.reduceMul, Nat.reduceLT, Nat.reduceLeDiff, ↓reduceIte, reduceCtorEq, Nat.reduceEqDiff, Int.reduceToNat, Int.reduceLT, Int.reduceLE, Int.reduceEq, beq_self_eq_true, h5, hi', hjl, get_txs]
        cases h4 : dotLt l i j with
        | true =>
          refine callD_pure (ref19_ahead (txAt l i).peer (txAt l i).seq (txAt l j).peer (txAt l j).seq) (by simp only [go_sem, Nat.reduceAdd, Nat.reduceSub, Nat.reduceMul, Nat.reduceLT, Nat.reduceLeDiff, ↓reduceIte, reduceCtorEq, Nat.reduceEqDiff, Int.reduceToNat, Int.reduceLT, Int.reduceLE, Int.reduceEq, beq_self_eq_true, show ahead19 (txAt l i).peer (txAt l i).seq (txAt l j).peer (txAt l j).seq = true from h4]) (by simp only [go_sem, Nat.reduceAdd, Nat.reduceSub, Nat.reduceMul, Nat.reduceLT, Nat.reduceLeDiff, ↓reduceIte, reduceCtorEq, Nat.reduceEqDiff, Int.reduceToNat, Int.reduceLT, Int.reduceLE, Int.reduceEq, beq_self_eq_true, show ahead19 (txAt l i).peer (txAt l i).seq (txAt l j).peer (txAt l j).seq = true from h4]) ?_; simp only [go_sem, Nat.reduceAdd, Nat.reduceSub, Nat.reduceMul, Nat.reduceLT, Nat.reduceLeDiff, ↓reduceIte, reduceCtorEq, Nat.reduceEqDiff, Int.reduceToNat, Int.reduceLT, Int.reduceLE, Int.reduceEq, beq_self_eq_true, show ahead19 (txAt l i).peer (txAt l i).seq (txAt l j).peer (txAt l j).seq = true from h4]
          simp only [go_sem, Nat.reduceAdd, Nat.reduceSub, Nat.reduceMul, Nat.reduceLT, Nat.reduceLeDiff, ↓reduceIte, reduceCtorEq, Nat.reduceEqDiff, Int.reduceToNat, Int.reduceLT, Int.reduceLE, Int.reduceEq, beq_self_eq_true, wrapNat i (by omega)]
          exact ⟨l.length - (i + 1), by omega, i + 1, by rw [take (by simp only [goodB, h2, h3, h4]; rfl)]; exact reg_intro rfl rfl ⟨rfl, by omega⟩⟩
        | false =>
          refine callD_pure (ref19_ahead (txAt l i).peer (txAt l i).seq (txAt l j).peer (txAt l j).seq) (by simp only [go_sem, Nat.reduceAdd, Nat.reduceSub, Nat.reduceMul, Nat.reduceLT, Nat.reduceLeDiff, ↓reduceIte, reduceCtorEq, Nat.reduceEqDiff, Int.reduceToNat, Int.reduceLT, Int.reduceLE, Int.reduceEq, beq_self_eq_true, show ahead19 (txAt l i).peer (txAt l i).seq (txAt l j).peer (txAt l j).seq = false from h4]) (by simp only [go_sem, Nat.reduceAdd, Nat.reduceSub, Nat.reduceMul, Nat.reduceLT, Nat.reduceLeDiff, ↓reduceIte, reduceCtorEq, Nat.reduceEqDiff, Int.reduceToNat, Int.reduceLT, Int.reduceLE, Int.reduceEq, beq_self_eq_true, show ahead19 (txAt l i).peer (txAt l i).seq (txAt l j).peer (txAt l j).seq = false from h4]) ?_; simp only [go_sem, Nat.reduceAdd, Nat.reduceSub, Nat.reduceMul, Nat.reduceLT, Nat.reduceLeDiff, ↓reduceIte, reduceCtorEq, Nat.reduceEqDiff, Int.reduceToNat, Int.reduceLT, Int.reduceLE, Int.reduceEq, beq_self_eq_true, show ahead19 (txAt l i).peer (txAt l i).seq (txAt l j).peer (txAt l j).seq = false from h4]
          simp only [go_sem, Nat.reduceAdd, Nat.reduceSub, Nat.reduceMul, Nat.reduceLT, Nat.reduceLeDiff, ↓reduceIte, reduceCtorEq, Nat.reduceEqDiff, Int.reduceToNat, Int.reduceLT, Int.reduceLE, Int.reduceEq, beq_self_eq_true, wrapNat i (by omega)]
          exact ⟨l.length - (i + 1), by omega, i + 1, by rw [stay (by simp only [goodB, h4, Bool.and_false])]; exact reg_intro rfl rfl ⟨rfl, by omega⟩⟩
    · have hi2 := of_decide_eq_false hc2
      obtain rfl : i = l.length := by omega
      have hb : bestAtG l o l.length = bestG l o := rfl
      have hrr : l.length - r = (l.length - (r + 1)) + 1 := by omega
      rw [hrr, sortR] at hs
      simp only [go_sem, Nat.reduceAdd, Nat.reduceSub, Nat.reduceMul, Nat.reduceLT, Nat.reduceLeDiff, ↓reduceIte, reduceCtorEq, Nat.reduceEqDiff, Int.reduceToNat, Int.reduceLT, Int.reduceLE, Int.reduceEq, beq_self_eq_true, hb]
      cases hbb : bestG l o with
      | none =>
        rw [hbb] at hs
        have hz : decide ((-1 : Int) < 0) = true := rfl
        simp only [go_sem, Nat.reduceAdd, Nat.reduceSub, Nat.reduceMul, Nat.reduceLT, Nat.reduceLeDiff, ↓reduceIte, reduceCtorEq, Nat.reduceEqDiff, Int.reduceToNat, Int.reduceLT, Int.reduceLE, Int.reduceEq, beq_self_eq_true, optI, hz]
        rw [← hs]
        simp only [go_sem, Nat.reduceAdd, Nat.reduceSub, Nat.reduceMul, Nat.reduceLT, Nat.reduceLeDiff, ↓reduceIte, reduceCtorEq, Nat.reduceEqDiff, Int.reduceToNat, Int.reduceLT, Int.reduceLE, Int.reduceEq, beq_self_eq_true, sortD, natI, Option.getD_none, Option.isSome_none, List.map_nil, intsL]
      | some j =>
        rw [hbb] at hs
        have hz : decide ((j : Int) < 0) = false := by rw [decide_eq_false_iff_not]; omega
        simp only [go_sem, Nat.reduceAdd, Nat.reduceSub, Nat.reduceMul, Nat.reduceLT, Nat.reduceLeDiff, ↓reduceIte, reduceCtorEq, Nat.reduceEqDiff, Int.reduceToNat, Int.reduceLT, Int.reduceLE, Int.reduceEq, beq_self_eq_true, optI]
        refine condK_split (fun h5 => absurd (of_decide_eq_true h5) (by omega)) (fun _ => ?_)
        simp only [go_sem, Nat.reduceAdd, Nat.reduceSub, Nat.reduceMul, Nat.reduceLT, Nat.reduceLeDiff, ↓reduceIte, reduceCtorEq, Nat.reduceEqDiff, Int.reduceToNat, Int.reduceLT, Int.reduceLE, Int.reduceEq, beq_self_eq_true]
        refine appK_live _ _ _ _ _ _ _ _ _ _ hu (by simp) (by simp only [go_sem, Nat.reduceAdd, Nat.reduceSub, Nat.reduceMul, Nat.reduceLT, Nat.reduceLeDiff, ↓reduceIte, reduceCtorEq, Nat.reduceEqDiff, Int.reduceToNat, Int.reduceLT, Int.reduceLE, Int.reduceEq, beq_self_eq_true]) (by simp only [go_sem, Nat.reduceAdd, Nat.reduceSub, Nat.reduceMul, Nat.reduceLT, Nat.reduceLeDiff, ↓reduceIte, reduceCtorEq, Nat.reduceEqDiff, Int.reduceToNat, Int.reduceLT, Int.reduceLE, Int.reduceEq, beq_self_eq_true, natI_len]; omega) (fun u' tk' hu' => ?_)
        simp only [go_sem, Nat.reduceAdd, Nat.reduceSub, Nat.reduceMul, Nat.reduceLT, Nat.reduceLeDiff, ↓reduceIte, reduceCtorEq, Nat.reduceEqDiff, Int.reduceToNat, Int.reduceLT, Int.reduceLE, Int.reduceEq, beq_self_eq_true, ints_snoc, natI_snoc, wrapNat r (by omega)]
        exact ⟨l.length - (r + 1), by omega, r + 1, o ++ [j], u', tk', reg_intro rfl rfl ⟨rfl, by omega, hu', by simp [hol], hs⟩⟩
  · have hi2 := of_decide_eq_false hc
    obtain rfl : r = l.length := by omega
    rw [Nat.sub_self, sortR] at hs
    rw [← hs]
    simp only [go_sem, Nat.reduceAdd, Nat.reduceSub, Nat.reduceMul, Nat.reduceLT, Nat.reduceLeDiff, ↓reduceIte, reduceCtorEq, Nat.reduceEqDiff, Int.reduceToNat, Int.reduceLT, Int.reduceLE, Int.reduceEq, beq_self_eq_true, sortD, Option.getD_some, Option.isSome_some]
end Go.Ab
set_option linter.unusedSimpArgs false
namespace Go.Ab
open Go.Proofs

def seenG (l : List TxR) (i : Nat) : Bool := (List.range l.length).any (leadG l i)
def headsG (l : List TxR) : List Nat := if checkG l then (List.range l.length).filter fun i => !seenG l i else []
theorem heads_snoc (l : List TxR) (i : Nat) : ((List.range (i + 1)).filter fun i => !seenG l i) = ((List.range i).filter fun i => !seenG l i) ++ (if seenG l i then [] else [i]) := by
  rw [List.range_succ, List.filter_append]
  cases h : seenG l i <;> simp [h]
theorem any_snoc (f : Nat → Bool) (k : Nat) : (List.range (k + 1)).any f = ((List.range k).any f || f k) := by
  rw [List.range_succ, List.any_append]; simp
set_option maxRecDepth 8000 in
theorem ref35_heads (l : List TxR) (ho : TxsOk l) : PSpec Try.prog CT 26 [txsD l] (· = intsL (natI (headsG l)) .no) := by
  refine PSpec.of hT Try.func26 rfl (by kernel_rfl) rfl rfl ?_
  simp only [Try.f26, go_sem, Nat.reduceAdd, Nat.reduceSub, Nat.reduceMul, Nat.reduceLT, Nat.reduceLeDiff, ↓reduceIte, reduceCtorEq, Nat.reduceEqDiff, Int.reduceToNat, Int.reduceLT, Int.reduceLE, Int.reduceEq, beq_self_eq_true]
  cases h1 : checkG l with
  | false =>
    have e : headsG l = [] := by rw [headsG, h1]; rfl
    refine callK_pure (ref35_check l ho) (by simp only [go_sem, Nat.reduceAdd, Nat.reduceSub, Nat.reduceMul, Nat.reduceLT, Nat.reduceLeDiff, ↓reduceIte, reduceCtorEq, Nat.reduceEqDiff, Int.reduceToNat, Int.reduceLT, Int.reduceLE, Int.reduceEq, beq_self_eq_true, h1, Bool.not_false]) (by simp only [go_sem, Nat.reduceAdd, Nat.reduceSub, Nat.reduceMul, Nat.reduceLT, Nat.reduceLeDiff, ↓reduceIte, reduceCtorEq, Nat.reduceEqDiff, Int.reduceToNat, Int.reduceLT, Int.reduceLE, Int.reduceEq, beq_self_eq_true, h1, Bool.not_false]) ?_; simp only [go_sem, Nat.reduceAdd, Nat.reduceSub, Nat.reduceMul, Nat.reduceLT, Nat.reduceLeDiff, ↓reduceIte, reduceCtorEq, Nat.reduceEqDiff, Int.reduceToNat, Int.reduceLT, Int.reduceLE, Int.reduceEq, beq_self_eq_true, h1, Bool.not_false]
    rw [e]; rfl
  | true =>
  have hl : l.length ≤ 4096 := by simp only [checkG, Bool.and_eq_true, decide_eq_true_eq] at h1; exact h1.1
  have e : headsG l = (List.range l.length).filter fun i => !seenG l i := by rw [headsG, h1]; rfl
  refine callK_pure (ref35_check l ho) (by simp only [go_sem, Nat.reduceAdd, Nat.reduceSub, Nat.reduceMul, Nat.reduceLT, Nat.reduceLeDiff, ↓reduceIte, reduceCtorEq, Nat.reduceEqDiff, Int.reduceToNat, Int.reduceLT, Int.reduceLE, Int.reduceEq, beq_self_eq_true, h1, Bool.not_true]) (by simp only [go_sem, Nat.reduceAdd, Nat.reduceSub, Nat.reduceMul, Nat.reduceLT, Nat.reduceLeDiff, ↓reduceIte, reduceCtorEq, Nat.reduceEqDiff, Int.reduceToNat, Int.reduceLT, Int.reduceLE, Int.reduceEq, beq_self_eq_true, h1, Bool.not_true]) ?_; simp only [go_sem, Nat.reduceAdd, Nat.reduceSub, Nat.reduceMul, Nat.reduceLT, Nat.reduceLeDiff, ↓reduceIte, reduceCtorEq, Nat.reduceEqDiff, Int.reduceToNat, Int.reduceLT, Int.reduceLE, Int.reduceEq, beq_self_eq_true, h1, Bool.not_true]
  rw [e]
  refine awp_loop (fun n s => ∃ (i : Nat) (o : List Nat) (u : Tok) (tk : List Bool) (g : Nat → D), s = ⟨[txsD l, g 1, g 2, intsL (natI o) u, .lit (.int .i64 i), g 5, g 6, g 7, g 8, g 9, g 10, g 11, g 12, g 13, g 14, g 15, g 16, g 17, g 18, g 19, g 20, g 21, g 22, g 23, g 24, g 25, g 26, g 27, g 28, g 29, g 30, g 31, g 32, g 33, g 34, g 35], ⟨[], tk⟩⟩ ∧ n = l.length - i ∧ i ≤ l.length ∧ live u tk ∧ o = ((List.range i).filter fun i => !seenG l i)) l.length ⟨0, [], .full, [], reg_intro rfl rfl ⟨by simp, by omega, trivial, rfl⟩⟩ ?_
  rintro n st ⟨i, o, u, tk, g, rfl, hn, hi, hu, ho2⟩
  have hol : o.length ≤ i := by rw [ho2]; have := List.length_filter_le (fun i => !seenG l i) (List.range i); simpa using this
  simp only [go_sem, Nat.reduceAdd, Nat.reduceSub, Nat.reduceMul, Nat.reduceLT, Nat.reduceLeDiff, ↓reduceIte, reduceCtorEq, Nat.reduceEqDiff, Int.reduceToNat, Int.reduceLT, Int.reduceLE, Int.reduceEq, beq_self_eq_true]
  refine condK_split (fun hc => ?_) (fun hc => ?_)
  · have hi' : i < l.length := by have := of_decide_eq_true hc; omega
    have hsn := heads_snoc l i
    rw [← ho2] at hsn
    simp only [go_sem, Nat.reduceAdd, Nat.reduceSub, Nat.reduceMul, Nat.reduceLT, Nat.reduceLeDiff, ↓reduceIte, reduceCtorEq, Nat.reduceEqDiff, Int.reduceToNat, Int.reduceLT, Int.reduceLE, Int.reduceEq, beq_self_eq_true]
    refine awp_loop (fun m s => ∃ (k : Nat) (g : Nat → D), s = ⟨[txsD l, g 1, g 2, intsL (natI o) u, .lit (.int .i64 i), .lit (.bool ((List.range k).any (leadG l i))), .lit (.int .i64 k), g 7, g 8, g 9, g 10, g 11, g 12, g 13, g 14, g 15, g 16, g 17, g 18, g 19, g 20, g 21, g 22, g 23, g 24, g 25, g 26, g 27, g 28, g 29, g 30, g 31, g 32, g 33, g 34, g 35], ⟨[], tk⟩⟩ ∧ m = l.length - k ∧ k ≤ l.length) l.length ⟨0, reg_intro rfl rfl ⟨by simp, by omega⟩⟩ ?_
    rintro m st ⟨k, g, rfl, hm, hk⟩
    simp only [go_sem, Nat.reduceAdd, Nat.reduceSub, Nat.reduceMul, Nat.reduceLT, Nat.reduceLeDiff, ↓reduceIte, reduceCtorEq, Nat.reduceEqDiff, Int.reduceToNat, Int.reduceLT, Int.reduceLE, Int.reduceEq, beq_self_eq_true]
    refine condK_split (fun hc2 => ?_) (fun hc2 => ?_)
    · have hk' : k < l.length := by have := of_decide_eq_true hc2; omega
      have has := any_snoc (leadG l i) k
      cases h2 : (List.range k).any (leadG l i) with
      | true =>
        rw [h2, Bool.true_or] at has
        simp only [go_sem, Nat.reduceAdd, Nat.reduceSub, Nat.reduceMul, Nat.reduceLT, Nat.reduceLeDiff, ↓reduceIte, reduceCtorEq, Nat.reduceEqDiff, Int.reduceToNat, Int.reduceLT, Int.reduceLE, Int.reduceEq, beq_self_eq_true, h2]
        simp only [go_sem, Nat.reduceAdd, Nat.reduceSub, Nat.reduceMul, Nat.reduceLT, Nat.reduceLeDiff, ↓reduceIte, reduceCtorEq, Nat.reduceEqDiff, Int.reduceToNat, Int.reduceLT, Int.reduceLE, Int.reduceEq, beq_self_eq_true, wrapNat k (by omega)]
        exact ⟨l.length - (k + 1), by omega, k + 1, by rw [has]; exact reg_intro rfl rfl ⟨rfl, by omega⟩⟩
      | false =>
        rw [h2, Bool.false_or] at has
        simp only [go_sem, Nat.reduceAdd, Nat.reduceSub, Nat.reduceMul, Nat.reduceLT, Nat.reduceLeDiff, ↓reduceIte, reduceCtorEq, Nat.reduceEqDiff, Int.reduceToNat, Int.reduceLT, Int.reduceLE, Int.reduceEq, beq_self_eq_true, h2]
        refine callK_pure (ref35_leads l ho hi' hk') (by simp only [go_sem, Nat.reduceAdd, Nat.reduceSub, Nat.reduceMul, Nat.reduceLT, Nat.reduceLeDiff, ↓reduceIte, reduceCtorEq, Nat.reduceEqDiff, Int.reduceToNat, Int.reduceLT, Int.reduceLE, Int.reduceEq, beq_self_eq_true, h2]) (by simp only [go_sem, Nat.reduceAdd, Nat.reduceSub, Nat.reduceMul, Nat.reduceLT, Nat.reduceLeDiff, ↓reduceIte, reduceCtorEq, Nat.reduceEqDiff, Int.reduceToNat, Int.reduceLT, Int.reduceLE, Int.reduceEq, beq_self_eq_true, h2]) ?_; simp only [go_sem, Nat.reduceAdd, Nat.reduceSub, Nat.reduceMul, Nat.reduceLT, Nat.reduceLeDiff, ↓reduceIte, reduceCtorEq, Nat.reduceEqDiff, Int.reduceToNat, Int.reduceLT, Int.reduceLE, Int.reduceEq, beq_self_eq_true, h2]
        simp only [go_sem, Nat.reduceAdd, Nat.reduceSub, Nat.reduceMul, Nat.reduceLT, Nat.reduceLeDiff, ↓reduceIte, reduceCtorEq, Nat.reduceEqDiff, Int.reduceToNat, Int.reduceLT, Int.reduceLE, Int.reduceEq, beq_self_eq_true, wrapNat k (by omega)]
        exact ⟨l.length - (k + 1), by omega, k + 1, by rw [has]; exact reg_intro rfl rfl ⟨rfl, by omega⟩⟩
    · have hi2 := of_decide_eq_false hc2
      obtain rfl : k = l.length := by omega
      have hs : (List.range l.length).any (leadG l i) = seenG l i := rfl
      simp only [go_sem, Nat.reduceAdd, Nat.reduceSub, Nat.reduceMul, Nat.reduceLT, Nat.reduceLeDiff, ↓reduceIte, reduceCtorEq, Nat.reduceEqDiff, Int.reduceToNat, Int.reduceLT, Int.reduceLE, Int.reduceEq, beq_self_eq_true, hs]
      cases h3 : seenG l i with
      | true =>
        rw [h3, if_pos rfl, List.append_nil] at hsn
        simp only [go_sem, Nat.reduceAdd, Nat.reduceSub, Nat.reduceMul, Nat.reduceLT, Nat.reduceLeDiff, ↓reduceIte, reduceCtorEq, Nat.reduceEqDiff, Int.reduceToNat, Int.reduceLT, Int.reduceLE, Int.reduceEq, beq_self_eq_true, Bool.not_true, wrapNat i (by omega)]
        exact ⟨l.length - (i + 1), by omega, i + 1, o, u, tk, reg_intro rfl rfl ⟨rfl, by omega, hu, hsn.symm⟩⟩
      | false =>
        rw [h3, if_neg (by simp)] at hsn
        simp only [go_sem, Nat.reduceAdd, Nat.reduceSub, Nat.reduceMul, Nat.reduceLT, Nat.reduceLeDiff, ↓reduceIte, reduceCtorEq, Nat.reduceEqDiff, Int.reduceToNat, Int.reduceLT, Int.reduceLE, Int.reduceEq, beq_self_eq_true, Bool.not_false]
        refine appK_live _ _ _ _ _ _ _ _ _ _ hu (by simp) (by simp only [go_sem, Nat.reduceAdd, Nat.reduceSub, Nat.reduceMul, Nat.reduceLT, Nat.reduceLeDiff, ↓reduceIte, reduceCtorEq, Nat.reduceEqDiff, Int.reduceToNat, Int.reduceLT, Int.reduceLE, Int.reduceEq, beq_self_eq_true]) (by simp only [go_sem, Nat.reduceAdd, Nat.reduceSub, Nat.reduceMul, Nat.reduceLT, Nat.reduceLeDiff, ↓reduceIte, reduceCtorEq, Nat.reduceEqDiff, Int.reduceToNat, Int.reduceLT, Int.reduceLE, Int.reduceEq, beq_self_eq_true, natI_len]; omega) (fun u' tk' hu' => ?_)
        simp only [go_sem, Nat.reduceAdd, Nat.reduceSub, Nat.reduceMul, Nat.reduceLT, Nat.reduceLeDiff, ↓reduceIte, reduceCtorEq, Nat.reduceEqDiff, Int.reduceToNat, Int.reduceLT, Int.reduceLE, Int.reduceEq, beq_self_eq_true, ints_snoc, natI_snoc, wrapNat i (by omega)]
        exact ⟨l.length - (i + 1), by omega, i + 1, o ++ [i], u', tk', reg_intro rfl rfl ⟨rfl, by omega, hu', hsn.symm⟩⟩
  · have hi2 := of_decide_eq_false hc
    obtain rfl : i = l.length := by omega
    simp only [go_sem, Nat.reduceAdd, Nat.reduceSub, Nat.reduceMul, Nat.reduceLT, Nat.reduceLeDiff, ↓reduceIte, reduceCtorEq, Nat.reduceEqDiff, Int.reduceToNat, Int.reduceLT, Int.reduceLE, Int.reduceEq, beq_self_eq_true, ← ho2]
    skip
end Go.Ab
set_option linter.unusedSimpArgs false
namespace Go.Ab
open Go.Proofs

def insN (n : Nat) : List Nat → List Nat
  | [] => [n]
  | x :: r => if n < x then n :: x :: r else x :: insN n r
def withN (l : List Nat) (n : Nat) : List Nat := if n ∈ l then l else insN n l
theorem insN_int (n : Nat) : ∀ l, insL (n : Int) (natI l) = natI (insN n l)
  | [] => rfl
  | x :: r => by
    have ih := insN_int n r
    simp only [natI, List.map_cons, insL, insN] at ih ⊢
    by_cases h : n < x
    · rw [if_pos h, if_pos (by omega)]; simp
    · rw [if_neg h, if_neg (by omega), ih]; simp
theorem withN_int (l : List Nat) (n : Nat) : withL (natI l) (n : Int) = natI (withN l n) := by
  unfold withL withN
  by_cases h : n ∈ l
  · rw [if_pos h, if_pos (by rw [mem_natI]; exact h)]
  · rw [if_neg h, if_neg (by rw [mem_natI]; exact h)]; exact insN_int n l
theorem mem_insN {n z : Nat} : ∀ {l : List Nat}, z ∈ insN n l ↔ z = n ∨ z ∈ l
  | [] => by simp [insN]
  | x :: r => by
    unfold insN
    split
    · simp
    · simp only [List.mem_cons, mem_insN (l := r)]
      constructor
      · rintro (h | h | h)
        · exact .inr (.inl h)
        · exact .inl h
        · exact .inr (.inr h)
      · rintro (h | h | h)
        · exact .inr (.inl h)
        · exact .inl h
        · exact .inr (.inr h)
theorem mem_withN {n z : Nat} {l : List Nat} : z ∈ withN l n ↔ z = n ∨ z ∈ l := by
  unfold withN
  split
  · rename_i h
    constructor
    · exact .inr
    · rintro (rfl | h2)
      · exact h
      · exact h2
  · exact mem_insN
def RiseN (l : List Nat) : Prop := l.Pairwise (· < ·)
theorem insN_rise {n : Nat} : ∀ {l : List Nat}, RiseN l → n ∉ l → RiseN (insN n l)
  | [], _, _ => by simp [insN, RiseN]
  | x :: r, h, hn => by
    simp only [RiseN, List.pairwise_cons] at h
    simp only [List.mem_cons, not_or] at hn
    unfold insN
    split
    · rename_i hx
      simp only [RiseN, List.pairwise_cons, List.mem_cons]
      refine ⟨?_, h⟩
      rintro z (rfl | hz)
      · exact hx
      · have := h.1 z hz; omega
    · simp only [RiseN, List.pairwise_cons]
      refine ⟨?_, insN_rise h.2 hn.2⟩
      intro z hz
      rcases mem_insN.1 hz with rfl | hz
      · omega
      · exact h.1 z hz
theorem withN_rise {n : Nat} {l : List Nat} (h : RiseN l) : RiseN (withN l n) := by
  unfold withN; split
  · exact h
  · exact insN_rise h (by assumption)
theorem rise_len {n : Nat} : ∀ {l : List Nat} {a : Nat}, RiseN l → (∀ x ∈ l, a ≤ x ∧ x < n) → l.length ≤ n - a
  | [], a, _, _ => by simp
  | x :: r, a, h, hb => by
    simp only [RiseN, List.pairwise_cons] at h
    have h1 := hb x (List.mem_cons_self ..)
    have := rise_len (n := n) (a := x + 1) h.2 fun y hy => ⟨by have := h.1 y hy; omega, (hb y (List.mem_cons_of_mem _ hy)).2⟩
    simp only [List.length_cons]; omega
theorem rise_ext {l m : List Nat} (h1 : RiseN l) (h2 : RiseN m) (h : ∀ z, z ∈ l ↔ z ∈ m) : l = m := by
  have nd : ∀ {l : List Nat}, RiseN l → l.Nodup := fun h => h.imp fun {a b} hab => by omega
  refine List.Perm.eq_of_pairwise (le := fun a b : Nat => a < b) (fun a b _ _ h3 h4 => by omega) h1 h2 ((List.perm_ext_iff_of_nodup (nd h1) (nd h2)).2 h)

def inAtG (l : List TxR) (met : List Nat) (i k : Nat) : Bool := leadG l k i || met.any (leadG l k)
def pastStep (l : List TxR) (i : Nat) (met : List Nat) (k : Nat) : List Nat := if inAtG l met i k then withN met k else met
def passG (l : List TxR) (i : Nat) (met : List Nat) (k : Nat) : List Nat := (List.range k).foldl (pastStep l i) met
theorem passG_succ (l : List TxR) (i : Nat) (met : List Nat) (k : Nat) : passG l i met (k + 1) = pastStep l i (passG l i met k) k := by
  rw [passG, List.range_succ, List.foldl_append]; rfl
def pastR (l : List TxR) (i : Nat) : Nat → List Nat
  | 0 => []
  | r + 1 => passG l i (pastR l i r) l.length
def placeG (l : List TxR) (i : Int) : Bool := decide (0 ≤ i) && decide (i < (l.length : Int))
def pastG (l : List TxR) (i : Int) : List Nat := if checkG l && placeG l i then pastR l i.toNat (l.length + 1) else []
def GoodN (n : Nat) (met : List Nat) : Prop := RiseN met ∧ ∀ x ∈ met, x < n
theorem passG_good {l : List TxR} {i : Nat} {met : List Nat} (h : GoodN l.length met) : ∀ k, k ≤ l.length → GoodN l.length (passG l i met k)
  | 0, _ => h
  | k + 1, hk => by
    have ih := passG_good (i := i) h k (by omega)
    rw [passG_succ, pastStep]
    split
    · refine ⟨withN_rise ih.1, fun x hx => ?_⟩
      rcases mem_withN.1 hx with rfl | hx
      · omega
      · exact ih.2 x hx
    · exact ih
theorem pastR_good (l : List TxR) (i : Nat) : ∀ r, GoodN l.length (pastR l i r)
  | 0 => ⟨by simp [RiseN, pastR], by simp [pastR]⟩
  | r + 1 => passG_good (pastR_good l i r) _ (Nat.le_refl _)
theorem good_len {n : Nat} {met : List Nat} (h : GoodN n met) : met.length ≤ n := by
  have := rise_len (n := n) (a := 0) h.1 fun x hx => ⟨Nat.zero_le x, h.2 x hx⟩
  omega
theorem get_nat (l : List Nat) (k : Nat) (h : (k < l.length) = True) : ((natI l).map fun n => D.lit (.int .i64 n))[k]? = some (.lit (.int .i64 (l.getD k 0 : Nat))) := by
  have h := of_eq_true h
  simp [natI, h]
theorem any_takeN (f : Nat → Bool) (l : List Nat) (j : Nat) (hj : j < l.length) : (l.take (j + 1)).any f = ((l.take j).any f || f (l.getD j 0)) := by
  rw [List.take_add_one, List.getElem?_eq_getElem hj, List.any_append, List.getD_eq_getElem?_getD, List.getElem?_eq_getElem hj]; simp
set_option maxRecDepth 8000 in
set_option maxHeartbeats 1000000 in
theorem ref35_past (l : List TxR) (ho : TxsOk l) (i : Int) : PSpec Try.prog CT 20 [txsD l, .lit (.int .i64 i)] (· = intsL (natI (pastG l i)) .no) := by
  refine PSpec.of hT Try.func20 rfl (by kernel_rfl) rfl rfl ?_
  simp only [Try.f20, go_sem, Nat.reduceAdd, Nat.reduceSub, Nat.reduceMul, Nat.reduceLT, Nat.reduceLeDiff, ↓reduceIte, reduceCtorEq, Nat.reduceEqDiff, Int.reduceToNat, Int.reduceLT, Int.reduceLE, Int.reduceEq, beq_self_eq_true]
  cases h1 : checkG l with
  | false =>
    have e : pastG l i = [] := by rw [pastG, h1]; rfl
    refine callK_pure (ref35_check l ho) (by simp only [go_sem, Nat.reduceAdd, Nat.reduceSub, Nat.reduceMul, Nat.reduceLT, Nat.reduceLeDiff, ↓reduceIte, reduceCtorEq, Nat.reduceEqDiff, Int.reduceToNat, Int.reduceLT, Int.reduceLE, Int.reduceEq, beq_self_eq_true, h1, Bool.not_false]) (by simp only [go_sem, Nat.reduceAdd, Nat.reduceSub, Nat.reduceMul, Nat.reduceLT, Nat.reduceLeDiff, ↓reduceIte, reduceCtorEq, Nat.reduceEqDiff, Int.reduceToNat, Int.reduceLT, Int.reduceLE, Int.reduceEq, beq_self_eq_true, h1, Bool.not_false]) ?_; simp only [go_sem, Nat.reduceAdd, Nat.reduceSub, Nat.reduceMul, Nat.reduceLT, Nat.reduceLeDiff, ↓reduceIte, reduceCtorEq, Nat.reduceEqDiff, Int.reduceToNat, Int.reduceLT, Int.reduceLE, Int.reduceEq, beq_self_eq_true, h1, Bool.not_false]
    rw [e]; rfl
  | true =>
  have hl : l.length ≤ 4096 := by simp only [checkG, Bool.and_eq_true, decide_eq_true_eq] at h1; exact h1.1
  refine callK_pure (ref35_check l ho) (by simp only [go_sem, Nat.reduceAdd, Nat.reduceSub, Nat.reduceMul, Nat.reduceLT, Nat.reduceLeDiff, ↓reduceIte, reduceCtorEq, Nat.reduceEqDiff, Int.reduceToNat, Int.reduceLT, Int.reduceLE, Int.reduceEq, beq_self_eq_true, h1, Bool.not_true]) (by simp only [go_sem, Nat.reduceAdd, Nat.reduceSub, Nat.reduceMul, Nat.reduceLT, Nat.reduceLeDiff, ↓reduceIte, reduceCtorEq, Nat.reduceEqDiff, Int.reduceToNat, Int.reduceLT, Int.reduceLE, Int.reduceEq, beq_self_eq_true, h1, Bool.not_true]) ?_; simp only [go_sem, Nat.reduceAdd, Nat.reduceSub, Nat.reduceMul, Nat.reduceLT, Nat.reduceLeDiff, ↓reduceIte, reduceCtorEq, Nat.reduceEqDiff, Int.reduceToNat, Int.reduceLT, Int.reduceLE, Int.reduceEq, beq_self_eq_true, h1, Bool.not_true]
  cases h2 : placeG l i with
  | false =>
    have e : pastG l i = [] := by rw [pastG, h2, Bool.and_false]; rfl
    refine callK_pure (ref35_place l i) (by simp only [go_sem, Nat.reduceAdd, Nat.reduceSub, Nat.reduceMul, Nat.reduceLT, Nat.reduceLeDiff, ↓reduceIte, reduceCtorEq, Nat.reduceEqDiff, Int.reduceToNat, Int.reduceLT, Int.reduceLE, Int.reduceEq, beq_self_eq_true, show (decide (0 ≤ i) && decide (i < (l.length : Int))) = false from h2, Bool.not_false]) (by simp only [go_sem, Nat.reduceAdd, Nat.reduceSub, Nat.reduceMul, Nat.reduceLT, Nat.reduceLeDiff, ↓reduceIte, reduceCtorEq, Nat.reduceEqDiff, Int.reduceToNat, Int.reduceLT, Int.reduceLE, Int.reduceEq, beq_self_eq_true, show (decide (0 ≤ i) && decide (i < (l.length : Int))) = false from h2, Bool.not_false]) ?_; simp only [go_sem, Nat.reduceAdd, Nat.reduceSub, Nat.reduceMul, Nat.reduceLT, Nat.reduceLeDiff, ↓reduceIte, reduceCtorEq, Nat.reduceEqDiff, Int.reduceToNat, Int.reduceLT, Int.reduceLE, Int.reduceEq, beq_self_eq_true, show (decide (0 ≤ i) && decide (i < (l.length : Int))) = false from h2, Bool.not_false]
    rw [e]; rfl
  | true =>
  refine callK_pure (ref35_place l i) (by simp only [go_sem, Nat.reduceAdd, Nat.reduceSub, Nat.reduceMul, Nat.reduceLT, Nat.reduceLeDiff, ↓reduceIte, reduceCtorEq, Nat.reduceEqDiff, Int.reduceToNat, Int.reduceLT, Int.reduceLE, Int.reduceEq, beq_self_eq_true, show (decide (0 ≤ i) && decide (i < (l.length : Int))) = true from h2, Bool.not_true]) (by simp only [go_sem, Nat.reduceAdd, Nat.reduceSub, Nat.reduceMul, Nat.reduceLT, Nat.reduceLeDiff, ↓reduceIte, reduceCtorEq, Nat.reduceEqDiff, Int.reduceToNat, Int.reduceLT, Int.reduceLE, Int.reduceEq, beq_self_eq_true, show (decide (0 ≤ i) && decide (i < (l.length : Int))) = true from h2, Bool.not_true]) ?_; simp only [go_sem, Nat.reduceAdd, Nat.reduceSub, Nat.reduceMul, Nat.reduceLT, Nat.reduceLeDiff, ↓reduceIte, reduceCtorEq, Nat.reduceEqDiff, Int.reduceToNat, Int.reduceLT, Int.reduceLE, Int.reduceEq, beq_self_eq_true, show (decide (0 ≤ i) && decide (i < (l.length : Int))) = true from h2, Bool.not_true]
  have e : pastG l i = pastR l i.toNat (l.length + 1) := by rw [pastG, h1, h2]; rfl
  rw [e]
  have hi2 : 0 ≤ i ∧ i < (l.length : Int) := by simpa [placeG] using h2
  obtain ⟨p, rfl⟩ : ∃ p : Nat, i = p := ⟨i.toNat, by omega⟩
  have hp : p < l.length := by omega
  rw [Int.toNat_natCast]
  refine awp_loop (fun n s => ∃ (r : Nat) (u : Tok) (g : Nat → D), s = ⟨[txsD l, .lit (.int .i64 p), g 2, g 3, g 4, intsL (natI (pastR l p r)) u, .lit (.int .i64 r), g 7, g 8, g 9, g 10, g 11, g 12, g 13, g 14, g 15, g 16, g 17, g 18, g 19, g 20, g 21, g 22, g 23, g 24, g 25, g 26, g 27, g 28, g 29, g 30, g 31, g 32, g 33, g 34, g 35, g 36, g 37, g 38, g 39, g 40, g 41, g 42, g 43, g 44, g 45, g 46, g 47, g 48, g 49, g 50, g 51, g 52, g 53, g 54, g 55], ⟨[], []⟩⟩ ∧ n = l.length + 1 - r ∧ r ≤ l.length + 1) (l.length + 1) ⟨0, .full, reg_intro rfl rfl ⟨by simp, by omega⟩⟩ ?_
  rintro n st ⟨r, u, g, rfl, hn, hr⟩
  simp only [go_sem, Nat.reduceAdd, Nat.reduceSub, Nat.reduceMul, Nat.reduceLT, Nat.reduceLeDiff, ↓reduceIte, reduceCtorEq, Nat.reduceEqDiff, Int.reduceToNat, Int.reduceLT, Int.reduceLE, Int.reduceEq, beq_self_eq_true]
  refine condK_split (fun hc => ?_) (fun hc => ?_)
  · have hr' : r ≤ l.length := by have := of_decide_eq_true hc; omega
    have hg := pastR_good l p r
    have hsr : pastR l p (r + 1) = passG l p (pastR l p r) l.length := rfl
    generalize pastR l p r = met at *
    simp only [go_sem, Nat.reduceAdd, Nat.reduceSub, Nat.reduceMul, Nat.reduceLT, Nat.reduceLeDiff, ↓reduceIte, reduceCtorEq, Nat.reduceEqDiff, Int.reduceToNat, Int.reduceLT, Int.reduceLE, Int.reduceEq, beq_self_eq_true]
    refine awp_loop (fun m s => ∃ (k : Nat) (u : Tok) (g : Nat → D), s = ⟨[txsD l, .lit (.int .i64 p), g 2, g 3, g 4, intsL (natI (passG l p met k)) u, .lit (.int .i64 r), .lit (.int .i64 k), g 8, g 9, g 10, g 11, g 12, g 13, g 14, g 15, g 16, g 17, g 18, g 19, g 20, g 21, g 22, g 23, g 24, g 25, g 26, g 27, g 28, g 29, g 30, g 31, g 32, g 33, g 34, g 35, g 36, g 37, g 38, g 39, g 40, g 41, g 42, g 43, g 44, g 45, g 46, g 47, g 48, g 49, g 50, g 51, g 52, g 53, g 54, g 55], ⟨[], []⟩⟩ ∧ m = l.length - k ∧ k ≤ l.length) l.length ⟨0, u, reg_intro rfl rfl ⟨by simp, by omega⟩⟩ ?_
    rintro m st ⟨k, u, g, rfl, hm, hk⟩
    simp only [go_sem, Nat.reduceAdd, Nat.reduceSub, Nat.reduceMul, Nat.reduceLT, Nat.reduceLeDiff, ↓reduceIte, reduceCtorEq, Nat.reduceEqDiff, Int.reduceToNat, Int.reduceLT, Int.reduceLE, Int.reduceEq, beq_self_eq_true]
    refine condK_split (fun hc2 => ?_) (fun hc2 => ?_)
    · have hk' : k < l.length := by have := of_decide_eq_true hc2; omega
      have hgk := passG_good (i := p) hg k hk
      have hlk := good_len hgk
      have hsk := passG_succ l p met k
      generalize passG l p met k = mk at *
      simp only [go_sem, Nat.reduceAdd, Nat.reduceSub, Nat.reduceMul, Nat.reduceLT, Nat.reduceLeDiff, ↓reduceIte, reduceCtorEq, Nat.reduceEqDiff, Int.reduceToNat, Int.reduceLT, Int.reduceLE, Int.reduceEq, beq_self_eq_true]
      refine callK_pure (ref35_leads l ho hk' hp) (by simp only [go_sem, Nat.reduceAdd, Nat.reduceSub, Nat.reduceMul, Nat.reduceLT, Nat.reduceLeDiff, ↓reduceIte, reduceCtorEq, Nat.reduceEqDiff, Int.reduceToNat, Int.reduceLT, Int.reduceLE, Int.reduceEq, beq_self_eq_true, hk']) (by simp only [go_sem, Nat.reduceAdd, Nat.reduceSub, Nat.reduceMul, Nat.reduceLT, Nat.reduceLeDiff, ↓reduceIte, reduceCtorEq, Nat.reduceEqDiff, Int.reduceToNat, Int.reduceLT, Int.reduceLE, Int.reduceEq, beq_self_eq_true, hk']) ?_; simp only [go_sem, Nat.reduceAdd, Nat.reduceSub, Nat.reduceMul, Nat.reduceLT, Nat.reduceLeDiff, ↓reduceIte, reduceCtorEq, Nat.reduceEqDiff, Int.reduceToNat, Int.reduceLT, Int.reduceLE, Int.reduceEq, beq_self_eq_true, hk']
      refine awp_loop (fun m s => ∃ (j : Nat) (g : Nat → D), s = ⟨[txsD l, .lit (.int .i64 p), g 2, g 3, g 4, intsL (natI mk) u, .lit (.int .i64 r), .lit (.int .i64 k), .lit (.bool (leadG l k p || (mk.take j).any (leadG l k))), .lit (.int .i64 j), g 10, g 11, g 12, g 13, g 14, g 15, g 16, g 17, g 18, g 19, g 20, g 21, g 22, g 23, g 24, g 25, g 26, g 27, g 28, g 29, g 30, g 31, g 32, g 33, g 34, g 35, g 36, g 37, g 38, g 39, g 40, g 41, g 42, g 43, g 44, g 45, g 46, g 47, g 48, g 49, g 50, g 51, g 52, g 53, g 54, g 55], ⟨[], []⟩⟩ ∧ m = mk.length - j ∧ j ≤ mk.length) mk.length ⟨0, by simp only [List.take_zero, List.any_nil, Bool.or_false]; exact reg_intro rfl rfl ⟨by simp, by omega⟩⟩ ?_
      rintro m st ⟨j, g, rfl, hm2, hj⟩
      simp only [go_sem, Nat.reduceAdd, Nat.reduceSub, Nat.reduceMul, Nat.reduceLT, Nat.reduceLeDiff, ↓reduceIte, reduceCtorEq, Nat.reduceEqDiff, Int.reduceToNat, Int.reduceLT, Int.reduceLE, Int.reduceEq, beq_self_eq_true, natI_len]
      refine condK_split (fun hc3 => ?_) (fun hc3 => ?_)
      · have hj' : j < mk.length := by have := of_decide_eq_true hc3; omega
        have has := any_takeN (leadG l k) mk j hj'
        have hmj : mk.getD j 0 < l.length := hgk.2 _ (by rw [List.getD_eq_getElem?_getD, List.getElem?_eq_getElem hj']; exact List.getElem_mem hj')
        simp only [go_sem, Nat.reduceAdd, Nat.reduceSub, Nat.reduceMul, Nat.reduceLT, Nat.reduceLeDiff, ↓reduceIte, reduceCtorEq, Nat.reduceEqDiff, Int.reduceToNat, Int.reduceLT, Int.reduceLE, Int.reduceEq, beq_self_eq_true]
        cases h5 : (leadG l k p || (mk.take j).any (leadG l k)) with
        | true =>
          have hnext : (leadG l k p || (mk.take (j + 1)).any (leadG l k)) = true := by rw [has, ← Bool.or_assoc, h5, Bool.true_or]
          simp only [go_sem, Nat.reduceAdd, Nat.reduceSub, Nat.reduceMul, Nat.reduceLT, Nat.reduceLeDiff, ↓reduceIte, reduceCtorEq, Nat.reduceEqDiff, Int.reduceToNat, Int.reduceLT, Int.reduceLE, Int.reduceEq, beq_self_eq_true, h5]
          simp only [go_sem, Nat.reduceAdd, Nat.reduceSub, Nat.reduceMul, Nat.reduceLT, Nat.reduceLeDiff, ↓reduceIte, reduceCtorEq, Nat.reduceEqDiff, Int.reduceToNat, Int.reduceLT, Int.reduceLE, Int.reduceEq, beq_self_eq_true, wrapNat j (by omega)]
          exact ⟨mk.length - (j + 1), by omega, j + 1, by rw [hnext]; exact reg_intro rfl rfl ⟨rfl, by omega⟩⟩
        | false =>
          have hnext : (leadG l k p || (mk.take (j + 1)).any (leadG l k)) = leadG l k (mk.getD j 0) := by rw [has, ← Bool.or_assoc, h5, Bool.false_or]
          simp only [go_sem, Nat.reduceAdd, Nat.reduceSub, Nat.reduceMul, Nat.reduceLT, Nat.reduceLeDiff, ↓reduceIte, reduceCtorEq, Nat.reduceEqDiff, Int.reduceToNat, Int.reduceLT, Int.reduceLE, Int.reduceEq, beq_self_eq_true, h5, hj', natI_len, get_nat]
          refine callK_pure (ref35_leads l ho hk' hmj) (by simp only [go_sem, Nat.reduceAdd, Nat.reduceSub, Nat.reduceMul, Nat.reduceLT, Nat.reduceLeDiff, ↓reduceIte, reduceCtorEq, Nat.reduceEqDiff, Int.reduceToNat, Int.reduceLT, Int.reduceLE, Int.reduceEq, beq_self_eq_true, h5]) (by simp only [go_sem, Nat.reduceAdd, Nat.reduceSub, Nat.reduceMul, Nat.reduceLT, Nat.reduceLeDiff, ↓reduceIte, reduceCtorEq, Nat.reduceEqDiff, Int.reduceToNat, Int.reduceLT, Int.reduceLE, Int.reduceEq, beq_self_eq_true, h5]) ?_; simp only [go_sem, Nat.reduceAdd, Nat.reduceSub, Nat.reduceMul, Nat.reduceLT, Nat.reduceLeDiff, ↓reduceIte, reduceCtorEq, Nat.reduceEqDiff, Int.reduceToNat, Int.reduceLT, Int.reduceLE, Int.reduceEq, beq_self_eq_true, h5]
          simp only [go_sem, Nat.reduceAdd, Nat.reduceSub, Nat.reduceMul, Nat.reduceLT, Nat.reduceLeDiff, ↓reduceIte, reduceCtorEq, Nat.reduceEqDiff, Int.reduceToNat, Int.reduceLT, Int.reduceLE, Int.reduceEq, beq_self_eq_true, wrapNat j (by omega)]
          exact ⟨mk.length - (j + 1), by omega, j + 1, by rw [hnext]; exact reg_intro rfl rfl ⟨rfl, by omega⟩⟩
      · have hi3 := of_decide_eq_false hc3
        obtain rfl : j = mk.length := by omega
        have hin : (leadG l k p || (mk.take mk.length).any (leadG l k)) = inAtG l mk p k := by rw [List.take_length]; rfl
        rw [pastStep] at hsk
        simp only [go_sem, Nat.reduceAdd, Nat.reduceSub, Nat.reduceMul, Nat.reduceLT, Nat.reduceLeDiff, ↓reduceIte, reduceCtorEq, Nat.reduceEqDiff, Int.reduceToNat, Int.reduceLT, Int.reduceLE, Int.reduceEq, beq_self_eq_true, hin]
        cases h6 : inAtG l mk p k with
        | true =>
          rw [h6, if_pos rfl] at hsk
          simp only [go_sem, Nat.reduceAdd, Nat.reduceSub, Nat.reduceMul, Nat.reduceLT, Nat.reduceLeDiff, ↓reduceIte, reduceCtorEq, Nat.reduceEqDiff, Int.reduceToNat, Int.reduceLT, Int.reduceLE, Int.reduceEq, beq_self_eq_true]
          refine callK_pure (ref18_with (natI mk) k (by rw [natI_len]; omega)) (by simp only [go_sem, Nat.reduceAdd, Nat.reduceSub, Nat.reduceMul, Nat.reduceLT, Nat.reduceLeDiff, ↓reduceIte, reduceCtorEq, Nat.reduceEqDiff, Int.reduceToNat, Int.reduceLT, Int.reduceLE, Int.reduceEq, beq_self_eq_true, hk', withN_int]) (by simp only [go_sem, Nat.reduceAdd, Nat.reduceSub, Nat.reduceMul, Nat.reduceLT, Nat.reduceLeDiff, ↓reduceIte, reduceCtorEq, Nat.reduceEqDiff, Int.reduceToNat, Int.reduceLT, Int.reduceLE, Int.reduceEq, beq_self_eq_true, hk', withN_int]) ?_; simp only [go_sem, Nat.reduceAdd, Nat.reduceSub, Nat.reduceMul, Nat.reduceLT, Nat.reduceLeDiff, ↓reduceIte, reduceCtorEq, Nat.reduceEqDiff, Int.reduceToNat, Int.reduceLT, Int.reduceLE, Int.reduceEq, beq_self_eq_true, hk', withN_int]
          simp only [go_sem, Nat.reduceAdd, Nat.reduceSub, Nat.reduceMul, Nat.reduceLT, Nat.reduceLeDiff, ↓reduceIte, reduceCtorEq, Nat.reduceEqDiff, Int.reduceToNat, Int.reduceLT, Int.reduceLE, Int.reduceEq, beq_self_eq_true, wrapNat k (by omega)]
          exact ⟨l.length - (k + 1), by omega, k + 1, .no, by rw [hsk]; exact reg_intro rfl rfl ⟨rfl, by omega⟩⟩
        | false =>
          rw [h6, if_neg (by simp)] at hsk
          simp only [go_sem, Nat.reduceAdd, Nat.reduceSub, Nat.reduceMul, Nat.reduceLT, Nat.reduceLeDiff, ↓reduceIte, reduceCtorEq, Nat.reduceEqDiff, Int.reduceToNat, Int.reduceLT, Int.reduceLE, Int.reduceEq, beq_self_eq_true, wrapNat k (by omega)]
          exact ⟨l.length - (k + 1), by omega, k + 1, u, by rw [hsk]; exact reg_intro rfl rfl ⟨rfl, by omega⟩⟩
    · have hi2 := of_decide_eq_false hc2
      obtain rfl : k = l.length := by omega
      simp only [go_sem, Nat.reduceAdd, Nat.reduceSub, Nat.reduceMul, Nat.reduceLT, Nat.reduceLeDiff, ↓reduceIte, reduceCtorEq, Nat.reduceEqDiff, Int.reduceToNat, Int.reduceLT, Int.reduceLE, Int.reduceEq, beq_self_eq_true, wrapNat r (by omega)]
      exact ⟨l.length + 1 - (r + 1), by omega, r + 1, u, by rw [hsr]; exact reg_intro rfl rfl ⟨rfl, by omega⟩⟩
  · have hi3 := of_decide_eq_false hc
    obtain rfl : r = l.length + 1 := by omega
    simp only [go_sem, Nat.reduceAdd, Nat.reduceSub, Nat.reduceMul, Nat.reduceLT, Nat.reduceLeDiff, ↓reduceIte, reduceCtorEq, Nat.reduceEqDiff, Int.reduceToNat, Int.reduceLT, Int.reduceLE, Int.reduceEq, beq_self_eq_true]
    skip
end Go.Ab
set_option linter.unusedSimpArgs false
namespace Go.Ab
open Go.Proofs

def aheadG (l : List TxR) (i k : Int) : Bool := decide (i ∈ natI (pastG l k))
def apartG (l : List TxR) (i k : Int) : Bool := checkG l && placeG l i && placeG l k && !decide (i = k) && !aheadG l i k && !aheadG l k i
theorem pastG_len (l : List TxR) (i : Int) : (pastG l i).length ≤ l.length := by
  unfold pastG
  split
  · exact good_len (pastR_good l _ _)
  · simp
theorem ref35_ahead (l : List TxR) (ho : TxsOk l) (hl : l.length < 4000000000) (i k : Int) : PSpec Try.prog CT 22 [txsD l, .lit (.int .i64 i), .lit (.int .i64 k)] (· = .bool (aheadG l i k)) := by
  refine PSpec.of hT Try.func22 rfl (by kernel_rfl) rfl rfl ?_
  have hpl := pastG_len l k
  simp only [Try.f22, go_sem, Nat.reduceAdd, Nat.reduceSub, Nat.reduceMul, Nat.reduceLT, Nat.reduceLeDiff, ↓reduceIte, reduceCtorEq, Nat.reduceEqDiff, Int.reduceToNat, Int.reduceLT, Int.reduceLE, Int.reduceEq, beq_self_eq_true]
  refine callK_pure (ref35_past l ho k) (by simp only [go_sem, Nat.reduceAdd, Nat.reduceSub, Nat.reduceMul, Nat.reduceLT, Nat.reduceLeDiff, ↓reduceIte, reduceCtorEq, Nat.reduceEqDiff, Int.reduceToNat, Int.reduceLT, Int.reduceLE, Int.reduceEq, beq_self_eq_true, hl]) (by simp only [go_sem, Nat.reduceAdd, Nat.reduceSub, Nat.reduceMul, Nat.reduceLT, Nat.reduceLeDiff, ↓reduceIte, reduceCtorEq, Nat.reduceEqDiff, Int.reduceToNat, Int.reduceLT, Int.reduceLE, Int.reduceEq, beq_self_eq_true, hl]) ?_; simp only [go_sem, Nat.reduceAdd, Nat.reduceSub, Nat.reduceMul, Nat.reduceLT, Nat.reduceLeDiff, ↓reduceIte, reduceCtorEq, Nat.reduceEqDiff, Int.reduceToNat, Int.reduceLT, Int.reduceLE, Int.reduceEq, beq_self_eq_true, hl]
  refine callK_pure (ref18_has (natI (pastG l k)) i (by rw [natI_len]; omega)) (by simp only [go_sem, Nat.reduceAdd, Nat.reduceSub, Nat.reduceMul, Nat.reduceLT, Nat.reduceLeDiff, ↓reduceIte, reduceCtorEq, Nat.reduceEqDiff, Int.reduceToNat, Int.reduceLT, Int.reduceLE, Int.reduceEq, beq_self_eq_true, hl]) (by simp only [go_sem, Nat.reduceAdd, Nat.reduceSub, Nat.reduceMul, Nat.reduceLT, Nat.reduceLeDiff, ↓reduceIte, reduceCtorEq, Nat.reduceEqDiff, Int.reduceToNat, Int.reduceLT, Int.reduceLE, Int.reduceEq, beq_self_eq_true, hl]) ?_; simp only [go_sem, Nat.reduceAdd, Nat.reduceSub, Nat.reduceMul, Nat.reduceLT, Nat.reduceLeDiff, ↓reduceIte, reduceCtorEq, Nat.reduceEqDiff, Int.reduceToNat, Int.reduceLT, Int.reduceLE, Int.reduceEq, beq_self_eq_true, hl]
  simp only [go_sem, Nat.reduceAdd, Nat.reduceSub, Nat.reduceMul, Nat.reduceLT, Nat.reduceLeDiff, ↓reduceIte, reduceCtorEq, Nat.reduceEqDiff, Int.reduceToNat, Int.reduceLT, Int.reduceLE, Int.reduceEq, beq_self_eq_true, aheadG]
set_option maxRecDepth 8000 in
theorem ref35_apart (l : List TxR) (ho : TxsOk l) (hl : l.length < 4000000000) (i k : Int) : PSpec Try.prog CT 24 [txsD l, .lit (.int .i64 i), .lit (.int .i64 k)] (· = .bool (apartG l i k)) := by
  refine PSpec.of hT Try.func24 rfl (by kernel_rfl) rfl rfl ?_
  simp only [Try.f24, go_sem, Nat.reduceAdd, Nat.reduceSub, Nat.reduceMul, Nat.reduceLT, Nat.reduceLeDiff, ↓reduceIte, reduceCtorEq, Nat.reduceEqDiff, Int.reduceToNat, Int.reduceLT, Int.reduceLE, Int.reduceEq, beq_self_eq_true]
  have p1 := ref35_place l i
  have p2 := ref35_place l k
  rw [show (decide (0 ≤ i) && decide (i < (l.length : Int))) = placeG l i from rfl] at p1
  rw [show (decide (0 ≤ k) && decide (k < (l.length : Int))) = placeG l k from rfl] at p2
  cases h1 : checkG l with
  | false => refine callK_pure (ref35_check l ho) (by simp only [go_sem, Nat.reduceAdd, Nat.reduceSub, Nat.reduceMul, Nat.reduceLT, Nat.reduceLeDiff, ↓reduceIte, reduceCtorEq, Nat.reduceEqDiff, Int.reduceToNat, Int.reduceLT, Int.reduceLE, Int.reduceEq, beq_self_eq_true, h1]) (by simp only [go_sem, Nat.reduceAdd, Nat.reduceSub, Nat.reduceMul, Nat.reduceLT, Nat.reduceLeDiff, ↓reduceIte, reduceCtorEq, Nat.reduceEqDiff, Int.reduceToNat, Int.reduceLT, Int.reduceLE, Int.reduceEq, beq_self_eq_true, h1]) ?_; simp only [go_sem, Nat.reduceAdd, Nat.reduceSub, Nat.reduceMul, Nat.reduceLT, Nat.reduceLeDiff, ↓reduceIte, reduceCtorEq, Nat.reduceEqDiff, Int.reduceToNat, Int.reduceLT, Int.reduceLE, Int.reduceEq, beq_self_eq_true, h1]
             simp only [go_sem, Nat.reduceAdd, Nat.reduceSub, Nat.reduceMul, Nat.reduceLT, Nat.reduceLeDiff, ↓reduceIte, reduceCtorEq, Nat.reduceEqDiff, Int.reduceToNat, Int.reduceLT, Int.reduceLE, Int.reduceEq, beq_self_eq_true, apartG, h1, Bool.false_and]
  | true =>
  refine callK_pure (ref35_check l ho) (by simp only [go_sem, Nat.reduceAdd, Nat.reduceSub, Nat.reduceMul, Nat.reduceLT, Nat.reduceLeDiff, ↓reduceIte, reduceCtorEq, Nat.reduceEqDiff, Int.reduceToNat, Int.reduceLT, Int.reduceLE, Int.reduceEq, beq_self_eq_true, h1]) (by simp only [go_sem, Nat.reduceAdd, Nat.reduceSub, Nat.reduceMul, Nat.reduceLT, Nat.reduceLeDiff, ↓reduceIte, reduceCtorEq, Nat.reduceEqDiff, Int.reduceToNat, Int.reduceLT, Int.reduceLE, Int.reduceEq, beq_self_eq_true, h1]) ?_; simp only [go_sem, Nat.reduceAdd, Nat.reduceSub, Nat.reduceMul, Nat.reduceLT, Nat.reduceLeDiff, ↓reduceIte, reduceCtorEq, Nat.reduceEqDiff, Int.reduceToNat, Int.reduceLT, Int.reduceLE, Int.reduceEq, beq_self_eq_true, h1]
  cases h2 : placeG l i with
  | false => refine callK_pure (p1) (by simp only [go_sem, Nat.reduceAdd, Nat.reduceSub, Nat.reduceMul, Nat.reduceLT, Nat.reduceLeDiff, ↓reduceIte, reduceCtorEq, Nat.reduceEqDiff, Int.reduceToNat, Int.reduceLT, Int.reduceLE, Int.reduceEq, beq_self_eq_true, h2]) (by simp only [go_sem, Nat.reduceAdd, Nat.reduceSub, Nat.reduceMul, Nat.reduceLT, Nat.reduceLeDiff, ↓reduceIte, reduceCtorEq, Nat.reduceEqDiff, Int.reduceToNat, Int.reduceLT, Int.reduceLE, Int.reduceEq, beq_self_eq_true, h2]) ?_; simp only [go_sem, Nat.reduceAdd, Nat.reduceSub, Nat.reduceMul, Nat.reduceLT, Nat.reduceLeDiff, ↓reduceIte, reduceCtorEq, Nat.reduceEqDiff, Int.reduceToNat, Int.reduceLT, Int.reduceLE, Int.reduceEq, beq_self_eq_true, h2]
             simp only [go_sem, Nat.reduceAdd, Nat.reduceSub, Nat.reduceMul, Nat.reduceLT, Nat.reduceLeDiff, ↓reduceIte, reduceCtorEq, Nat.reduceEqDiff, Int.reduceToNat, Int.reduceLT, Int.reduceLE, Int.reduceEq, beq_self_eq_true, apartG, h2, Bool.and_false, Bool.false_and]
  | true =>
  refine callK_pure (p1) (by simp only [go_sem, Nat.reduceAdd, Nat.reduceSub, Nat.reduceMul, Nat.reduceLT, Nat.reduceLeDiff, ↓reduceIte, reduceCtorEq, Nat.reduceEqDiff, Int.reduceToNat, Int.reduceLT, Int.reduceLE, Int.reduceEq, beq_self_eq_true, h2]) (by simp only [go_sem, Nat.reduceAdd, Nat.reduceSub, Nat.reduceMul, Nat.reduceLT, Nat.reduceLeDiff, ↓reduceIte, reduceCtorEq, Nat.reduceEqDiff, Int.reduceToNat, Int.reduceLT, Int.reduceLE, Int.reduceEq, beq_self_eq_true, h2]) ?_; simp only [go_sem, Nat.reduceAdd, Nat.reduceSub, Nat.reduceMul, Nat.reduceLT, Nat.reduceLeDiff, ↓reduceIte, reduceCtorEq, Nat.reduceEqDiff, Int.reduceToNat, Int.reduceLT, Int.reduceLE, Int.reduceEq, beq_self_eq_true, h2]
  cases h3 : placeG l k with
  | false => refine callK_pure (p2) (by simp only [go_sem, Nat.reduceAdd, Nat.reduceSub, Nat.reduceMul, Nat.reduceLT, Nat.reduceLeDiff, ↓reduceIte, reduceCtorEq, Nat.reduceEqDiff, Int.reduceToNat, Int.reduceLT, Int.reduceLE, Int.reduceEq, beq_self_eq_true, h3]) (by simp only [go_sem, Nat.reduceAdd, Nat.reduceSub, Nat.reduceMul, Nat.reduceLT, Nat.reduceLeDiff, ↓reduceIte, reduceCtorEq, Nat.reduceEqDiff, Int.reduceToNat, Int.reduceLT, Int.reduceLE, Int.reduceEq, beq_self_eq_true, h3]) ?_; simp only [go_sem, Nat.reduceAdd, Nat.reduceSub, Nat.reduceMul, Nat.reduceLT, Nat.reduceLeDiff, ↓reduceIte, reduceCtorEq, Nat.reduceEqDiff, Int.reduceToNat, Int.reduceLT, Int.reduceLE, Int.reduceEq, beq_self_eq_true, h3]
             simp only [go_sem, Nat.reduceAdd, Nat.reduceSub, Nat.reduceMul, Nat.reduceLT, Nat.reduceLeDiff, ↓reduceIte, reduceCtorEq, Nat.reduceEqDiff, Int.reduceToNat, Int.reduceLT, Int.reduceLE, Int.reduceEq, beq_self_eq_true, apartG, h3, Bool.and_false, Bool.false_and]
  | true =>
  refine callK_pure (p2) (by simp only [go_sem, Nat.reduceAdd, Nat.reduceSub, Nat.reduceMul, Nat.reduceLT, Nat.reduceLeDiff, ↓reduceIte, reduceCtorEq, Nat.reduceEqDiff, Int.reduceToNat, Int.reduceLT, Int.reduceLE, Int.reduceEq, beq_self_eq_true, h3]) (by simp only [go_sem, Nat.reduceAdd, Nat.reduceSub, Nat.reduceMul, Nat.reduceLT, Nat.reduceLeDiff, ↓reduceIte, reduceCtorEq, Nat.reduceEqDiff, Int.reduceToNat, Int.reduceLT, Int.reduceLE, Int.reduceEq, beq_self_eq_true, h3]) ?_; simp only [go_sem, Nat.reduceAdd, Nat.reduceSub, Nat.reduceMul, Nat.reduceLT, Nat.reduceLeDiff, ↓reduceIte, reduceCtorEq, Nat.reduceEqDiff, Int.reduceToNat, Int.reduceLT, Int.reduceLE, Int.reduceEq, beq_self_eq_true, h3]
  refine guardK_split (fun h4 => ?_) (fun h4 => ?_)
  · simp only [go_sem, Nat.reduceAdd, Nat.reduceSub, Nat.reduceMul, Nat.reduceLT, Nat.reduceLeDiff, ↓reduceIte, reduceCtorEq, Nat.reduceEqDiff, Int.reduceToNat, Int.reduceLT, Int.reduceLE, Int.reduceEq, beq_self_eq_true, h4]
    cases h5 : aheadG l i k with
    | true => refine callK_pure (ref35_ahead l ho hl i k) (by simp only [go_sem, Nat.reduceAdd, Nat.reduceSub, Nat.reduceMul, Nat.reduceLT, Nat.reduceLeDiff, ↓reduceIte, reduceCtorEq, Nat.reduceEqDiff, Int.reduceToNat, Int.reduceLT, Int.reduceLE, Int.reduceEq, beq_self_eq_true, h5, Bool.not_true]) (by simp only [go_sem, Nat.reduceAdd, Nat.reduceSub, Nat.reduceMul, Nat.reduceLT, Nat.reduceLeDiff, ↓reduceIte, reduceCtorEq, Nat.reduceEqDiff, Int.reduceToNat, Int.reduceLT, Int.reduceLE, Int.reduceEq, beq_self_eq_true, h5, Bool.not_true]) ?_; simp only [go_sem, Nat.reduceAdd, Nat.reduceSub, Nat.reduceMul, Nat.reduceLT, Nat.reduceLeDiff, ↓reduceIte, reduceCtorEq, Nat.reduceEqDiff, Int.reduceToNat, Int.reduceLT, Int.reduceLE, Int.reduceEq, beq_self_eq_true, h5, Bool.not_true]
              simp only [go_sem, Nat.reduceAdd, Nat.reduceSub, Nat.reduceMul, Nat.reduceLT, Nat.reduceLeDiff, ↓reduceIte, reduceCtorEq, Nat.reduceEqDiff, Int.reduceToNat, Int.reduceLT, Int.reduceLE, Int.reduceEq, beq_self_eq_true, apartG, h5, Bool.not_true, Bool.and_false, Bool.false_and]
    | false =>
    refine callK_pure (ref35_ahead l ho hl i k) (by simp only [go_sem, Nat.reduceAdd, Nat.reduceSub, Nat.reduceMul, Nat.reduceLT, Nat.reduceLeDiff, ↓reduceIte, reduceCtorEq, Nat.reduceEqDiff, Int.reduceToNat, Int.reduceLT, Int.reduceLE, Int.reduceEq, beq_self_eq_true, h5, Bool.not_false]) (by simp only [go_sem, Nat.reduceAdd, Nat.reduceSub, Nat.reduceMul, Nat.reduceLT, Nat.reduceLeDiff, ↓reduceIte, reduceCtorEq, Nat.reduceEqDiff, Int.reduceToNat, Int.reduceLT, Int.reduceLE, Int.reduceEq, beq_self_eq_true, h5, Bool.not_false]) ?_; simp only [go_sem, Nat.reduceAdd, Nat.reduceSub, Nat.reduceMul, Nat.reduceLT, Nat.reduceLeDiff, ↓reduceIte, reduceCtorEq, Nat.reduceEqDiff, Int.reduceToNat, Int.reduceLT, Int.reduceLE, Int.reduceEq, beq_self_eq_true, h5, Bool.not_false]
    refine callK_pure (ref35_ahead l ho hl k i) (by simp only [go_sem, Nat.reduceAdd, Nat.reduceSub, Nat.reduceMul, Nat.reduceLT, Nat.reduceLeDiff, ↓reduceIte, reduceCtorEq, Nat.reduceEqDiff, Int.reduceToNat, Int.reduceLT, Int.reduceLE, Int.reduceEq, beq_self_eq_true, h5]) (by simp only [go_sem, Nat.reduceAdd, Nat.reduceSub, Nat.reduceMul, Nat.reduceLT, Nat.reduceLeDiff, ↓reduceIte, reduceCtorEq, Nat.reduceEqDiff, Int.reduceToNat, Int.reduceLT, Int.reduceLE, Int.reduceEq, beq_self_eq_true, h5]) ?_; simp only [go_sem, Nat.reduceAdd, Nat.reduceSub, Nat.reduceMul, Nat.reduceLT, Nat.reduceLeDiff, ↓reduceIte, reduceCtorEq, Nat.reduceEqDiff, Int.reduceToNat, Int.reduceLT, Int.reduceLE, Int.reduceEq, beq_self_eq_true, h5]
    simp only [go_sem, Nat.reduceAdd, Nat.reduceSub, Nat.reduceMul, Nat.reduceLT, Nat.reduceLeDiff, ↓reduceIte, reduceCtorEq, Nat.reduceEqDiff, Int.reduceToNat, Int.reduceLT, Int.reduceLE, Int.reduceEq, beq_self_eq_true, apartG, h1, h2, h3, h4, h5, Bool.not_false, Bool.true_and]
  · simp only [go_sem, Nat.reduceAdd, Nat.reduceSub, Nat.reduceMul, Nat.reduceLT, Nat.reduceLeDiff, ↓reduceIte, reduceCtorEq, Nat.reduceEqDiff, Int.reduceToNat, Int.reduceLT, Int.reduceLE, Int.reduceEq, beq_self_eq_true, apartG, h4, Bool.and_false, Bool.false_and]
end Go.Ab
set_option linter.unusedSimpArgs false
namespace Go.Ab
open Go.Proofs

/-- From place k one comes to place i. -/
inductive Reach (l : List TxR) (i : Nat) : Nat → Prop
  | one {k : Nat} : k < l.length → leadG l k i = true → Reach l i k
  | more {k m : Nat} : k < l.length → leadG l k m = true → Reach l i m → Reach l i k
theorem insN_len (n : Nat) : ∀ l, (insN n l).length = l.length + 1
  | [] => rfl
  | x :: r => by unfold insN; split <;> simp [insN_len n r]
theorem withN_len (l : List Nat) (n : Nat) : l.length ≤ (withN l n).length := by
  unfold withN; split
  · exact Nat.le_refl _
  · rw [insN_len]; omega
theorem pastStep_len (l : List TxR) (i : Nat) (met : List Nat) (k : Nat) : met.length ≤ (pastStep l i met k).length := by
  unfold pastStep; split
  · exact withN_len _ _
  · exact Nat.le_refl _
theorem passG_mono (l : List TxR) (i : Nat) (met : List Nat) {k j : Nat} (h : k ≤ j) : (passG l i met k).length ≤ (passG l i met j).length := by
  induction h with
  | refl => exact Nat.le_refl _
  | @step m _ ih => rw [passG_succ]; exact Nat.le_trans ih (pastStep_len _ _ _ _)
theorem passG_fix {l : List TxR} {i : Nat} {met : List Nat} {n : Nat} (h : (passG l i met n).length = met.length) : ∀ k, k ≤ n → passG l i met k = met ∧ ∀ j, j < k → inAtG l met i j = true → j ∈ met
  | 0, _ => ⟨rfl, by simp⟩
  | k + 1, hk => by
    obtain ⟨h1, h2⟩ := passG_fix h k (by omega)
    have hm := passG_mono l i met hk
    rw [passG_succ, h1] at hm ⊢
    have key : inAtG l met i k = true → k ∈ met := fun hin => by
      rw [pastStep, if_pos hin] at hm
      unfold withN at hm
      split at hm
      · assumption
      · rw [insN_len] at hm; omega
    refine ⟨?_, fun j hj hin => ?_⟩
    · unfold pastStep
      split
      · rename_i hin
        unfold withN; rw [if_pos (key hin)]
      · rfl
    · by_cases e : j = k
      · subst e; exact key hin
      · exact h2 j (by omega) hin
theorem passG_sound {l : List TxR} {i : Nat} {met : List Nat} (h : ∀ x ∈ met, Reach l i x) : ∀ k, k ≤ l.length → ∀ x ∈ passG l i met k, Reach l i x
  | 0, _ => h
  | k + 1, hk => by
    have ih := passG_sound h k (by omega)
    rw [passG_succ, pastStep]
    split
    · rename_i hin
      intro x hx
      rcases mem_withN.1 hx with rfl | hx
      · simp only [inAtG, Bool.or_eq_true, List.any_eq_true] at hin
        rcases hin with hin | ⟨m, hm, hin⟩
        · exact .one (by omega) hin
        · exact .more (by omega) hin (ih m hm)
      · exact ih x hx
    · exact ih
theorem pastR_sound (l : List TxR) (i : Nat) : ∀ r, ∀ x ∈ pastR l i r, Reach l i x
  | 0 => by simp [pastR]
  | r + 1 => passG_sound (pastR_sound l i r) _ (Nat.le_refl _)
theorem pastR_stop (l : List TxR) (i : Nat) : ∃ r, r ≤ l.length ∧ (pastR l i (r + 1)).length = (pastR l i r).length := by
  refine Classical.byContradiction fun hno => ?_
  have grow : ∀ r, r ≤ l.length + 1 → r ≤ (pastR l i r).length := by
    intro r
    induction r with
    | zero => intro _; omega
    | succ r ih =>
      intro hr
      have h1 := ih (by omega)
      have h2 : (pastR l i r).length ≤ (pastR l i (r + 1)).length := passG_mono l i (pastR l i r) (Nat.zero_le l.length)
      have h3 : (pastR l i (r + 1)).length ≠ (pastR l i r).length := fun e => hno ⟨r, by omega, e⟩
      omega
  have h1 := grow (l.length + 1) (Nat.le_refl _)
  have h2 := good_len (pastR_good l i (l.length + 1))
  omega
theorem pastR_same {l : List TxR} {i r : Nat} (h : pastR l i (r + 1) = pastR l i r) : ∀ j, pastR l i (r + j) = pastR l i r
  | 0 => rfl
  | j + 1 => by
    have ih := pastR_same h j
    have : pastR l i (r + (j + 1)) = passG l i (pastR l i (r + j)) l.length := rfl
    rw [this, ih]; exact h
theorem pastR_all {l : List TxR} {i k : Nat} : k ∈ pastR l i (l.length + 1) ↔ Reach l i k := by
  refine ⟨pastR_sound l i _ k, fun h => ?_⟩
  obtain ⟨r, hr, hlen⟩ := pastR_stop l i
  have hfix := passG_fix (l := l) (i := i) (met := pastR l i r) (n := l.length) hlen l.length (Nat.le_refl _)
  have hs : pastR l i (l.length + 1) = pastR l i r := by
    have := pastR_same (l := l) (i := i) (r := r) hfix.1 (l.length + 1 - r)
    rwa [show r + (l.length + 1 - r) = l.length + 1 by omega] at this
  rw [hs]
  induction h with
  | one hk hl => exact hfix.2 _ hk (by simp only [inAtG, hl, Bool.true_or])
  | more hk hl _ ih => exact hfix.2 _ hk (by simp only [inAtG, Bool.or_eq_true, List.any_eq_true]; exact .inr ⟨_, ih, hl⟩)
theorem mem_pastG {l : List TxR} {i : Int} {k : Nat} : k ∈ pastG l i ↔ checkG l = true ∧ placeG l i = true ∧ Reach l i.toNat k := by
  unfold pastG
  by_cases h : (checkG l && placeG l i) = true
  · rw [if_pos h, pastR_all]
    simp only [Bool.and_eq_true] at h
    exact ⟨fun x => ⟨h.1, h.2, x⟩, fun x => x.2.2⟩
  · rw [if_neg h]
    simp only [Bool.and_eq_true] at h
    exact ⟨fun x => by simp at x, fun x => absurd ⟨x.1, x.2.1⟩ h⟩
theorem pastG_rise (l : List TxR) (i : Int) : RiseN (pastG l i) := by
  unfold pastG; split
  · exact (pastR_good l _ _).1
  · simp [RiseN]
theorem reach_trans {l : List TxR} {i j k : Nat} (h1 : Reach l j k) (h2 : Reach l i j) : Reach l i k := by
  induction h1 with
  | one hk hl => exact .more hk hl h2
  | more hk hl _ ih => exact .more hk hl ih
end Go.Ab
