/- Graphs of transactions: the document's depth. Conditions: none. -/
import Derived.Test.YtnagdbamieahgaaGrA
import Derived.Test.YtnagdbamieahgaaSlA
import Derived.Test.YtnagdbamieahgaaOpD
set_option linter.unusedSimpArgs false
namespace Go.Ab
open Go.Proofs

section
variable {P : Program} {C : Tab}
theorem aop_make {K : St → Prop} {dst : Option Tmp} {ts : List D} {bs : List (Sh × D)} {tk : List Bool} {t u : TypeId} {x y : Operand} {n : Nat} {ty : TypeId} {pos : String} {after : Array Edge} {g : Option (Nat × Bool)}
    (ht : C.ty t = .slice u) (hx : St.ev ⟨ts, ⟨bs, tk⟩⟩ x = .int n) (hy : St.ev ⟨ts, ⟨bs, tk⟩⟩ y = .int n) (hm : n ≤ 9223372036854775807) (hb : n * C.bytes u ≤ 281474976710656)
    (hk : K (St.put ⟨ts, ⟨bs ++ [(.arr n (C.sh u), .agg (List.replicate n (C.zero u)))], tk⟩⟩ dst (.sl u bs.length 0 n n))) : aop P C ⟨dst, .makeSlice t x y, ty, pos, after, g⟩ K ⟨ts, ⟨bs, tk⟩⟩ := by
  show (∃ r h', eff C ⟨dst, .makeSlice t x y, ty, pos, after, g⟩ (St.ev ⟨ts, ⟨bs, tk⟩⟩) ⟨bs, tk⟩ r h' ∧ K (St.put ⟨ts, h'⟩ dst r)) ∨ effN C ⟨dst, .makeSlice t x y, ty, pos, after, g⟩ (St.ev ⟨ts, ⟨bs, tk⟩⟩) ⟨bs, tk⟩ fun r h' => K (St.put ⟨ts, h'⟩ dst r)
  right
  simp only [effN, ht]
  exact ⟨n, n, hx, hy, Nat.le_refl _, hm, hb, hk⟩
end
theorem bestG_lt {l : List TxR} {out : List Nat} {j : Nat} (h : bestG l out = some j) : j < l.length := bestAtG_lt _ _ _ _ h
theorem bestAtG_new (l : List TxR) (out : List Nat) : ∀ k j, bestAtG l out k = some j → j ∉ out
  | 0, j, h => by simp [bestAtG] at h
  | k + 1, j, h => by
    rw [bestAtG_succ, bestStep] at h
    split at h
    · rename_i hg
      cases h
      simp only [goodB, Bool.and_eq_true, Bool.not_eq_true', decide_eq_false_iff_not] at hg
      exact hg.1.1
    · exact bestAtG_new l out k j h
theorem sortR_ok (l : List TxR) : ∀ r out o, sortR l r out = some o → out.Nodup → (∀ x ∈ out, x < l.length) → o.Nodup ∧ (∀ x ∈ o, x < l.length) ∧ o.length = out.length + r
  | 0, out, o, h, h1, h2 => by cases h; exact ⟨h1, h2, rfl⟩
  | r + 1, out, o, h, h1, h2 => by
    rw [sortR] at h
    split at h
    · cases h
    · rename_i b hb
      have hn := bestAtG_new _ _ _ _ hb
      have := sortR_ok l r (out ++ [b]) o h (List.nodup_append.2 ⟨h1, by simp, fun x hx y hy => by simp at hy; subst hy; intro e; subst e; exact hn hx⟩) (fun x hx => by
        rcases List.mem_append.1 hx with hx | hx
        · exact h2 x hx
        · simp at hx; subst hx; exact bestG_lt hb)
      refine ⟨this.1, this.2.1, ?_⟩
      rw [this.2.2]; simp; omega

def deepStep (l : List TxR) (o : List Nat) (at_ : Nat) (dp : List Int) (k : Nat) : List Int := if leadG l (o.getD k 0) at_ then dp.set at_ (max (dp.getD at_ 0) (dp.getD (o.getD k 0) 0 + 1)) else dp
def deepIn (l : List TxR) (o : List Nat) (at_ : Nat) (dp : List Int) (k : Nat) : List Int := (List.range k).foldl (deepStep l o at_) dp
theorem deepIn_succ (l : List TxR) (o : List Nat) (a : Nat) (dp : List Int) (k : Nat) : deepIn l o a dp (k + 1) = deepStep l o a (deepIn l o a dp k) k := by
  rw [deepIn, List.range_succ, List.foldl_append]; rfl
def deepAt (l : List TxR) (o : List Nat) : Nat → List Int × Int
  | 0 => (List.replicate l.length 0, 0)
  | i + 1 => (deepIn l o (o.getD i 0) ((deepAt l o i).1.set (o.getD i 0) 1) i, max (deepAt l o i).2 ((deepIn l o (o.getD i 0) ((deepAt l o i).1.set (o.getD i 0) 1) i).getD (o.getD i 0) 0))
def depthG (l : List TxR) : Int := match sortGG l with | none => 0 | some o => (deepAt l o o.length).2
def BndD (dp : List Int) (b : Int) : Prop := ∀ x ∈ dp, 0 ≤ x ∧ x ≤ b
theorem bnd_get {dp : List Int} {b : Int} (h : BndD dp b) (hb : 0 ≤ b) (k : Nat) : 0 ≤ dp.getD k 0 ∧ dp.getD k 0 ≤ b := by
  rw [List.getD_eq_getElem?_getD]
  rcases Nat.lt_or_ge k dp.length with hk | hk
  · rw [List.getElem?_eq_getElem hk]; exact h _ (List.getElem_mem hk)
  · rw [List.getElem?_eq_none hk]; exact ⟨Int.le_refl 0, hb⟩
theorem bnd_set {dp : List Int} {b c : Int} (h : BndD dp b) (hbc : b ≤ c) {k : Nat} {x : Int} (hx : 0 ≤ x ∧ x ≤ c) : BndD (dp.set k x) c := fun y hy => by
  rcases List.mem_or_eq_of_mem_set hy with hy | rfl
  · have := h y hy; omega
  · exact hx
set_option maxRecDepth 8000 in
set_option maxHeartbeats 1000000 in
theorem ref35_depth (l : List TxR) (ho : TxsOk l) : PSpec Try.prog CT 28 [txsD l] (· = .int (depthG l)) := by
  refine HSpec.pure (HSpec.of hT Try.func28 rfl (by kernel_rfl) rfl rfl fun tk => ?_)
  simp only [Try.f28, go_sem, Nat.reduceAdd, Nat.reduceSub, Nat.reduceMul, Nat.reduceLT, Nat.reduceLeDiff, ↓reduceIte, reduceCtorEq, Nat.reduceEqDiff, Int.reduceToNat, Int.reduceLT, Int.reduceLE, Int.reduceEq, beq_self_eq_true]
  refine callK_pure (args' := [txsD l]) (ref35_sort l ho) (by first | rfl | (simp only [go_sem, Nat.reduceAdd, Nat.reduceSub, Nat.reduceMul, Nat.reduceLT, Nat.reduceLeDiff, ↓reduceIte, reduceCtorEq, Nat.reduceEqDiff, Int.reduceToNat, Int.reduceLT, Int.reduceLE, Int.reduceEq, beq_self_eq_true]; done)) (by first | (simp only [go_sem, Nat.reduceAdd, Nat.reduceSub, Nat.reduceMul, Nat.reduceLT, Nat.reduceLeDiff, ↓reduceIte, reduceCtorEq, Nat.reduceEqDiff, Int.reduceToNat, Int.reduceLT, Int.reduceLE, Int.reduceEq, beq_self_eq_true]; done) | (simp [pureL, pureD]; done)) ?_
  cases h1 : sortGG l with
  | none =>
    have e : depthG l = 0 := by rw [depthG, h1]
    rw [e]
    simp only [go_sem, Nat.reduceAdd, Nat.reduceSub, Nat.reduceMul, Nat.reduceLT, Nat.reduceLeDiff, ↓reduceIte, reduceCtorEq, Nat.reduceEqDiff, Int.reduceToNat, Int.reduceLT, Int.reduceLE, Int.reduceEq, beq_self_eq_true, sortD, Option.getD_none, Option.isSome_none, Bool.not_false]
    exact finH_lit ⟨trivial, rfl⟩
  | some o =>
  have h1s := h1
  have hck : checkG l = true := by
    cases hc : checkG l with
    | true => rfl
    | false => rw [sortGG, hc] at h1; cases h1
  have hl : l.length ≤ 4096 := by simp only [checkG, Bool.and_eq_true, decide_eq_true_eq] at hck; exact hck.1
  rw [sortGG, hck] at h1
  obtain ⟨ond, olt, oln⟩ := sortR_ok l l.length [] o h1 (by simp) (by simp)
  rw [List.length_nil, Nat.zero_add] at oln
  have e : depthG l = (deepAt l o o.length).2 := by rw [depthG, h1s]
  rw [e]
  simp only [go_sem, Nat.reduceAdd, Nat.reduceSub, Nat.reduceMul, Nat.reduceLT, Nat.reduceLeDiff, ↓reduceIte, reduceCtorEq, Nat.reduceEqDiff, Int.reduceToNat, Int.reduceLT, Int.reduceLE, Int.reduceEq, beq_self_eq_true, sortD, Option.getD_some, Option.isSome_some, Bool.not_true]
  have hsz : CT.bytes 3 = 8 := rfl
  refine aop_make (n := l.length) (u := 3) rfl rfl rfl (by omega) (by rw [hsz]; omega) ?_
  have hz : D.agg (List.replicate l.length (CT.zero 3)) = ints (List.replicate l.length 0) := by
    rw [show CT.zero 3 = .lit (.int .i64 0) from rfl]; simp [ints]
  rw [hz]
  simp only [go_sem, Nat.reduceAdd, Nat.reduceSub, Nat.reduceMul, Nat.reduceLT, Nat.reduceLeDiff, ↓reduceIte, reduceCtorEq, Nat.reduceEqDiff, Int.reduceToNat, Int.reduceLT, Int.reduceLE, Int.reduceEq, beq_self_eq_true]
  refine awp_loop (fun n s => ∃ (i : Nat) (g : Nat → D), s = ⟨[txsD l, g 1, g 2, intsL (natI o) .no, g 4, .sl 3 0 0 l.length l.length, .lit (.int .i64 (deepAt l o i).2), .lit (.int .i64 i), g 8, g 9, g 10, g 11, g 12, g 13, g 14, g 15, g 16, g 17, g 18, g 19, g 20, g 21, g 22, g 23, g 24, g 25, g 26, g 27, g 28, g 29, g 30, g 31, g 32, g 33, g 34, g 35, g 36, g 37, g 38, g 39, g 40, g 41, g 42, g 43, g 44, g 45, g 46, g 47, g 48, g 49, g 50, g 51, g 52, g 53, g 54, g 55, g 56, g 57, g 58, g 59, g 60, g 61, g 62, g 63, g 64, g 65, g 66, g 67], ⟨[(.arr l.length .leaf, ints (deepAt l o i).1)], tk⟩⟩ ∧ n = o.length - i ∧ i ≤ o.length ∧ (deepAt l o i).1.length = l.length ∧ BndD (deepAt l o i).1 (5000 * i)) o.length ⟨0, reg_intro rfl rfl ⟨by simp, by omega, by simp [deepAt], fun x hx => by have := List.eq_of_mem_replicate hx; omega⟩⟩ ?_
  rintro n st ⟨i, g, rfl, hn, hi, hdl, hbd⟩
  have hds : deepAt l o (i + 1) = (deepIn l o (o.getD i 0) ((deepAt l o i).1.set (o.getD i 0) 1) i, max (deepAt l o i).2 ((deepIn l o (o.getD i 0) ((deepAt l o i).1.set (o.getD i 0) 1) i).getD (o.getD i 0) 0)) := rfl
  obtain ⟨q, hqe⟩ : ∃ q, deepAt l o i = q := ⟨_, rfl⟩
  rw [hqe] at hdl hbd hds ⊢
  obtain ⟨dp, most⟩ := q
  simp only at hdl hbd hds
  simp only [go_sem, Nat.reduceAdd, Nat.reduceSub, Nat.reduceMul, Nat.reduceLT, Nat.reduceLeDiff, ↓reduceIte, reduceCtorEq, Nat.reduceEqDiff, Int.reduceToNat, Int.reduceLT, Int.reduceLE, Int.reduceEq, beq_self_eq_true, natI_len]
  refine condK_split (fun hc => ?_) (fun hc => ?_)
  · have hi' : i < o.length := by have := of_decide_eq_true hc; omega
    have hat : o.getD i 0 < l.length := olt _ (by rw [List.getD_eq_getElem?_getD, List.getElem?_eq_getElem hi']; exact List.getElem_mem hi')
    generalize ha : o.getD i 0 = a at *
    have had : a < dp.length := by omega
    simp only [go_sem, Nat.reduceAdd, Nat.reduceSub, Nat.reduceMul, Nat.reduceLT, Nat.reduceLeDiff, ↓reduceIte, reduceCtorEq, Nat.reduceEqDiff, Int.reduceToNat, Int.reduceLT, Int.reduceLE, Int.reduceEq, beq_self_eq_true, hi', natI_len, get_nat, ha, hat, had, indexAddr_sl_t, Nat.zero_add]
    refine awp_loop (fun m s => ∃ (k : Nat) (g : Nat → D), s = ⟨[txsD l, g 1, g 2, intsL (natI o) .no, g 4, .sl 3 0 0 l.length l.length, .lit (.int .i64 most), .lit (.int .i64 i), .lit (.int .i64 a), .lit (.int .i64 k), g 10, g 11, g 12, g 13, g 14, g 15, g 16, g 17, g 18, g 19, g 20, g 21, g 22, g 23, g 24, g 25, g 26, g 27, g 28, g 29, g 30, g 31, g 32, g 33, g 34, g 35, g 36, g 37, g 38, g 39, g 40, g 41, g 42, g 43, g 44, g 45, g 46, g 47, g 48, g 49, g 50, g 51, g 52, g 53, g 54, g 55, g 56, g 57, g 58, g 59, g 60, g 61, g 62, g 63, g 64, g 65, g 66, g 67], ⟨[(.arr l.length .leaf, ints (deepIn l o a (dp.set a 1) k))], tk⟩⟩ ∧ m = i - k ∧ k ≤ i ∧ (deepIn l o a (dp.set a 1) k).length = l.length ∧ BndD (deepIn l o a (dp.set a 1) k) (5000 * i + k + 1)) i ⟨0, reg_intro rfl rfl ⟨by simp, by omega, by simpa [deepIn] using hdl, bnd_set hbd (by omega) (by omega)⟩⟩ ?_
    rintro m st ⟨k, g, rfl, hm, hk, hql, hbq⟩
    have hqs := deepIn_succ l o a (dp.set a 1) k
    simp only [go_sem, Nat.reduceAdd, Nat.reduceSub, Nat.reduceMul, Nat.reduceLT, Nat.reduceLeDiff, ↓reduceIte, reduceCtorEq, Nat.reduceEqDiff, Int.reduceToNat, Int.reduceLT, Int.reduceLE, Int.reduceEq, beq_self_eq_true]
    refine condK_split (fun hc2 => ?_) (fun hc2 => ?_)
    · have hk' : k < i := by have := of_decide_eq_true hc2; omega
      have hko : k < o.length := by omega
      have hkt : o.getD k 0 < l.length := olt _ (by rw [List.getD_eq_getElem?_getD, List.getElem?_eq_getElem hko]; exact List.getElem_mem hko)
      generalize deepIn l o a (dp.set a 1) k = q at *
      have haq : a < q.length := by omega
      have hkq : o.getD k 0 < q.length := by omega
      rw [deepStep] at hqs
      have b1 := bnd_get hbq (by omega) a
      have b2 := bnd_get hbq (by omega) (o.getD k 0)
      simp only [go_sem, Nat.reduceAdd, Nat.reduceSub, Nat.reduceMul, Nat.reduceLT, Nat.reduceLeDiff, ↓reduceIte, reduceCtorEq, Nat.reduceEqDiff, Int.reduceToNat, Int.reduceLT, Int.reduceLE, Int.reduceEq, beq_self_eq_true, hko, natI_len, get_nat]
      cases h5 : leadG l (o.getD k 0) a with
      | true =>
        rw [h5, if_pos rfl] at hqs
        refine callK_pure (ref35_leads l ho hkt hat) (by simp only [go_sem, Nat.reduceAdd, Nat.reduceSub, Nat.reduceMul, Nat.reduceLT, Nat.reduceLeDiff, ↓reduceIte, reduceCtorEq, Nat.reduceEqDiff, Int.reduceToNat, Int.reduceLT, Int.reduceLE, Int.reduceEq, beq_self_eq_true, h5]) (by simp only [go_sem, Nat.reduceAdd, Nat.reduceSub, Nat.reduceMul, Nat.reduceLT, Nat.reduceLeDiff, ↓reduceIte, reduceCtorEq, Nat.reduceEqDiff, Int.reduceToNat, Int.reduceLT, Int.reduceLE, Int.reduceEq, beq_self_eq_true, h5]) ?_; simp only [go_sem, Nat.reduceAdd, Nat.reduceSub, Nat.reduceMul, Nat.reduceLT, Nat.reduceLeDiff, ↓reduceIte, reduceCtorEq, Nat.reduceEqDiff, Int.reduceToNat, Int.reduceLT, Int.reduceLE, Int.reduceEq, beq_self_eq_true, h5]
        refine .inl ⟨by kernel_rfl, ?_⟩
        have hw : IntKind.i64.wrap (q.getD (o.getD k 0) 0 + 1) = q.getD (o.getD k 0) 0 + 1 := by rw [wrap64] <;> omega
        simp only [go_sem, Nat.reduceAdd, Nat.reduceSub, Nat.reduceMul, Nat.reduceLT, Nat.reduceLeDiff, ↓reduceIte, reduceCtorEq, Nat.reduceEqDiff, Int.reduceToNat, Int.reduceLT, Int.reduceLE, Int.reduceEq, beq_self_eq_true, hko, natI_len, get_nat, hat, haq, hkt, hkq, indexAddr_sl_t, Nat.zero_add, hw, wrapNat k (by omega)]
        exact ⟨i - (k + 1), by omega, k + 1, by rw [hqs]; exact reg_intro rfl rfl ⟨rfl, by omega, by simpa using hql, bnd_set hbq (by omega) (by omega)⟩⟩
      | false =>
        rw [h5, if_neg (by simp)] at hqs
        refine callK_pure (ref35_leads l ho hkt hat) (by simp only [go_sem, Nat.reduceAdd, Nat.reduceSub, Nat.reduceMul, Nat.reduceLT, Nat.reduceLeDiff, ↓reduceIte, reduceCtorEq, Nat.reduceEqDiff, Int.reduceToNat, Int.reduceLT, Int.reduceLE, Int.reduceEq, beq_self_eq_true, h5]) (by simp only [go_sem, Nat.reduceAdd, Nat.reduceSub, Nat.reduceMul, Nat.reduceLT, Nat.reduceLeDiff, ↓reduceIte, reduceCtorEq, Nat.reduceEqDiff, Int.reduceToNat, Int.reduceLT, Int.reduceLE, Int.reduceEq, beq_self_eq_true, h5]) ?_; simp only [go_sem, Nat.reduceAdd, Nat.reduceSub, Nat.reduceMul, Nat.reduceLT, Nat.reduceLeDiff, ↓reduceIte, reduceCtorEq, Nat.reduceEqDiff, Int.reduceToNat, Int.reduceLT, Int.reduceLE, Int.reduceEq, beq_self_eq_true, h5]
        simp only [go_sem, Nat.reduceAdd, Nat.reduceSub, Nat.reduceMul, Nat.reduceLT, Nat.reduceLeDiff, ↓reduceIte, reduceCtorEq, Nat.reduceEqDiff, Int.reduceToNat, Int.reduceLT, Int.reduceLE, Int.reduceEq, beq_self_eq_true, wrapNat k (by omega)]
        exact ⟨i - (k + 1), by omega, k + 1, by rw [hqs]; exact reg_intro rfl rfl ⟨rfl, by omega, hql, fun x hx => by have := hbq x hx; omega⟩⟩
    · have hi3 := of_decide_eq_false hc2
      obtain rfl : k = i := by omega
      generalize deepIn l o a (dp.set a 1) k = q at *
      have haq : a < q.length := by omega
      simp only [go_sem, Nat.reduceAdd, Nat.reduceSub, Nat.reduceMul, Nat.reduceLT, Nat.reduceLeDiff, ↓reduceIte, reduceCtorEq, Nat.reduceEqDiff, Int.reduceToNat, Int.reduceLT, Int.reduceLE, Int.reduceEq, beq_self_eq_true, hat, haq, indexAddr_sl_t, Nat.zero_add, wrapNat k (by omega)]
      exact ⟨o.length - (k + 1), by omega, k + 1, by rw [hds]; exact reg_intro rfl rfl ⟨rfl, by omega, hql, fun x hx => by have := hbq x hx; omega⟩⟩
  · have hi2 := of_decide_eq_false hc
    obtain rfl : i = o.length := by omega
    simp only [go_sem, Nat.reduceAdd, Nat.reduceSub, Nat.reduceMul, Nat.reduceLT, Nat.reduceLeDiff, ↓reduceIte, reduceCtorEq, Nat.reduceEqDiff, Int.reduceToNat, Int.reduceLT, Int.reduceLE, Int.reduceEq, beq_self_eq_true]
    refine finH_all ?_ (q := .lit (.int .i64 most)) rfl trivial ⟨trivial, by rw [hqe]⟩
    intro N s' L hmm
    simp at hmm
    rw [hmm.2]; exact pureL_all fun d hd => by obtain ⟨n, _, rfl⟩ := List.mem_map.1 hd; trivial
end Go.Ab
set_option linter.unusedSimpArgs false
namespace Go.Ab
open Go.Proofs

def dotK (p : Int × Int) : D := dotD p.1 p.2
def dotOf (t : TxR) : Int × Int := (t.peer, t.seq)
theorem keyDot : KeyEnc CT 39 dotK := ⟨fun a b h => by
  obtain ⟨a1, a2⟩ := a; obtain ⟨b1, b2⟩ := b
  simp only [dotK, D.agg.injEq, List.cons.injEq, D.lit.injEq, Value.int.injEq, true_and, and_true] at h
  rw [h.1, h.2], fun a => by simp only [dotK, go_sem, Nat.reduceAdd, Nat.reduceSub, Nat.reduceMul, Nat.reduceLT, Nat.reduceLeDiff, ↓reduceIte, reduceCtorEq, Nat.reduceEqDiff, Int.reduceToNat, Int.reduceLT, Int.reduceLE, Int.reduceEq, beq_self_eq_true]⟩
def dotsOf (l : List TxR) : List (Int × Int) := l.map dotOf
theorem newG_mem (l : List TxR) {i : Nat} (hi : i < l.length) : newG l i = !decide (dotOf (txAt l i) ∈ dotsOf (l.take i)) := by
  rw [Bool.eq_iff_iff]
  simp only [newG, List.all_eq_true, List.mem_range, Bool.not_eq_true', decide_eq_false_iff_not, dotsOf, List.mem_map, not_exists, not_and]
  have at_ : ∀ k, k < i → txAt l k ∈ l.take i := fun k hk => by
    rw [txAt, List.getD_eq_getElem?_getD, List.getElem?_eq_getElem (by omega), List.mem_take_iff_getElem]
    exact ⟨k, by omega, rfl⟩
  constructor
  · intro h x hx he
    obtain ⟨k, hk, rfl⟩ := List.mem_take_iff_getElem.1 hx
    have := h k (by omega)
    have e : txAt l k = l[k] := by rw [txAt, List.getD_eq_getElem?_getD, List.getElem?_eq_getElem (by omega)]; rfl
    simp only [dotEq, e] at this
    simp only [dotOf, Prod.mk.injEq] at he
    simp [he.1, he.2] at this
  · intro h k hk
    have := h _ (at_ k hk)
    simp only [dotOf, Prod.mk.injEq, not_and] at this
    simp only [dotEq, Bool.and_eq_false_iff, decide_eq_false_iff_not]
    by_cases e : (txAt l k).peer = (txAt l i).peer
    · exact .inr (this e)
    · exact .inl e
theorem dots_snoc (l : List TxR) {i : Nat} (hi : i < l.length) : dotsOf (l.take (i + 1)) = dotsOf (l.take i) ++ [dotOf (txAt l i)] := by
  rw [dotsOf, List.take_add_one, List.getElem?_eq_getElem hi, List.map_append, txAt, List.getD_eq_getElem?_getD, List.getElem?_eq_getElem hi]; rfl
set_option maxRecDepth 8000 in
set_option maxHeartbeats 1000000 in
theorem graph_check (l : List TxR) (ho : TxsOk l) (hl : l.length < 100000000) : PSpec Try.prog CT 16 [txsD l] (· = .bool (checkG l)) := by
  have hK := keyDot
  refine HSpec.pure (HSpec.of hT Try.func16 rfl (by kernel_rfl) rfl rfl fun tk => ?_)
  simp only [Try.f16, go_sem, Nat.reduceAdd, Nat.reduceSub, Nat.reduceMul, Nat.reduceLT, Nat.reduceLeDiff, ↓reduceIte, reduceCtorEq, Nat.reduceEqDiff, Int.reduceToNat, Int.reduceLT, Int.reduceLE, Int.reduceEq, beq_self_eq_true]
  refine ⟨isMap_ok rfl, ?_⟩
  refine awp_loop (fun n s => ∃ (i : Nat) (ex x : List (Sh × D)) (q : Nat) (g : Nat → D), s = ⟨[txsD l, g 1, g 2, .mref 0, g 4, g 5, g 6, txsD l, .lit (.int .i64 l.length), .lit (.int .i64 i), g 10, g 11, g 12, g 13, g 14, g 15, g 16, g 17, g 18, g 19, g 20, g 21, g 22, g 23, g 24, g 25, g 26, g 27, g 28], ⟨x, tk⟩⟩ ∧ n = l.length - i ∧ i ≤ l.length ∧ x = [(.obj 1, setG dotK (dotsOf (l.take i)) q)] ++ ex ∧ (∀ (N : Nat) (s' : Sh) (L : List D), (Sh.arr N s', D.agg L) ∈ ex → pureL L) ∧ ∀ p, p < i → okG l p = true) l.length ⟨0, [], _, 0, reg_intro rfl rfl ⟨by simp, by omega, rfl, by simp, by simp⟩⟩ ?_
  rintro n st ⟨i, ex, x, q, g, rfl, hn, hi, hx, hpu, hp⟩
  simp only [go_sem, Nat.reduceAdd, Nat.reduceSub, Nat.reduceMul, Nat.reduceLT, Nat.reduceLeDiff, ↓reduceIte, reduceCtorEq, Nat.reduceEqDiff, Int.reduceToNat, Int.reduceLT, Int.reduceLE, Int.reduceEq, beq_self_eq_true]
  refine condK_split (fun hc => ?_) (fun hc => ?_)
  · have hi' : i < l.length := by have := of_decide_eq_true hc; omega
    obtain ⟨hd, _⟩ := txsOk_at ho hi'
    have hnew := newG_mem l hi'
    have hsn := dots_snoc l hi'
    have h0 : ∀ y, (x ++ [y])[0]? = some (.obj 1, setG dotK (dotsOf (l.take i)) q) := fun y => by rw [hx]; simp
    have hset : ∀ y z, (x ++ [y]).set 0 z = [z] ++ (ex ++ [y]) := fun y z => by rw [hx]; simp
    have hall : ∀ y : Sh × D, (∀ (N : Nat) (s' : Sh) (L : List D), (Sh.arr N s', D.agg L) ≠ y) → ∀ (N : Nat) (s' : Sh) (L : List D), (Sh.arr N s', D.agg L) ∈ x ++ [y] → pureL L := fun y hy N s' L hm => by
      rw [hx] at hm
      rcases List.mem_append.1 hm with h | h
      · rcases List.mem_append.1 h with h | h
        · simp at h
        · exact hpu _ _ _ h
      · rw [List.mem_singleton] at h; exact absurd h (hy _ _ _)
    have bad : okG l i = false → checkG l = false := checkG_not hi'
    simp only [go_sem, Nat.reduceAdd, Nat.reduceSub, Nat.reduceMul, Nat.reduceLT, Nat.reduceLeDiff, ↓reduceIte, reduceCtorEq, Nat.reduceEqDiff, Int.reduceToNat, Int.reduceLT, Int.reduceLE, Int.reduceEq, beq_self_eq_true, hi', get_txs, hd]
    rw [setLook_g hK (t := 83) rfl rfl (h0 _) (dotOf (txAt l i)) (x := dotD (txAt l i).peer (txAt l i).seq) rfl]
    simp only [go_sem, Nat.reduceAdd, Nat.reduceSub, Nat.reduceMul, Nat.reduceLT, Nat.reduceLeDiff, ↓reduceIte, reduceCtorEq, Nat.reduceEqDiff, Int.reduceToNat, Int.reduceLT, Int.reduceLE, Int.reduceEq, beq_self_eq_true]
    refine guardK_split (fun h3 => ?_) (fun h3 => ?_)
    · have hmm : dotOf (txAt l i) ∈ dotsOf (l.take i) := by simpa using h3
      have hb : checkG l = false := bad (by rw [okG, hnew, decide_eq_true hmm]; simp)
      simp only [go_sem, Nat.reduceAdd, Nat.reduceSub, Nat.reduceMul, Nat.reduceLT, Nat.reduceLeDiff, ↓reduceIte, reduceCtorEq, Nat.reduceEqDiff, Int.reduceToNat, Int.reduceLT, Int.reduceLE, Int.reduceEq, beq_self_eq_true, hd, h3, hb]
      exact finH_all (hall _ (by simp)) (q := .lit (.bool false)) rfl trivial ⟨trivial, rfl⟩
    have hnm : dotOf (txAt l i) ∉ dotsOf (l.take i) := by simpa using h3
    simp only [go_sem, Nat.reduceAdd, Nat.reduceSub, Nat.reduceMul, Nat.reduceLT, Nat.reduceLeDiff, ↓reduceIte, reduceCtorEq, Nat.reduceEqDiff, Int.reduceToNat, Int.reduceLT, Int.reduceLE, Int.reduceEq, beq_self_eq_true, hd, h3]
    cases h4 : checkTx (txAt l i) with
    | false =>
      refine callK_pure (ops_checkTx (txAt l i) hd) (by simp only [go_sem, Nat.reduceAdd, Nat.reduceSub, Nat.reduceMul, Nat.reduceLT, Nat.reduceLeDiff, ↓reduceIte, reduceCtorEq, Nat.reduceEqDiff, Int.reduceToNat, Int.reduceLT, Int.reduceLE, Int.reduceEq, beq_self_eq_true, hd, h4, pureL_ops, Bool.not_false]) (by simp only [go_sem, Nat.reduceAdd, Nat.reduceSub, Nat.reduceMul, Nat.reduceLT, Nat.reduceLeDiff, ↓reduceIte, reduceCtorEq, Nat.reduceEqDiff, Int.reduceToNat, Int.reduceLT, Int.reduceLE, Int.reduceEq, beq_self_eq_true, hd, h4, pureL_ops, Bool.not_false]) ?_; simp only [go_sem, Nat.reduceAdd, Nat.reduceSub, Nat.reduceMul, Nat.reduceLT, Nat.reduceLeDiff, ↓reduceIte, reduceCtorEq, Nat.reduceEqDiff, Int.reduceToNat, Int.reduceLT, Int.reduceLE, Int.reduceEq, beq_self_eq_true, hd, h4, pureL_ops, Bool.not_false]
      have hb : checkG l = false := bad (by rw [okG, h4]; rfl)
      try simp only [go_sem, Nat.reduceAdd, Nat.reduceSub, Nat.reduceMul, Nat.reduceLT, Nat.reduceLeDiff, ↓reduceIte, reduceCtorEq, Nat.reduceEqDiff, Int.reduceToNat, Int.reduceLT, Int.reduceLE, Int.reduceEq, beq_self_eq_true, hb]
      exact finH_all (hall _ (by simp)) (q := .lit (.bool false)) rfl trivial ⟨trivial, rfl⟩
    | true =>
    refine callK_pure (ops_checkTx (txAt l i) hd) (by simp only [go_sem, Nat.reduceAdd, Nat.reduceSub, Nat.reduceMul, Nat.reduceLT, Nat.reduceLeDiff, ↓reduceIte, reduceCtorEq, Nat.reduceEqDiff, Int.reduceToNat, Int.reduceLT, Int.reduceLE, Int.reduceEq, beq_self_eq_true, hd, h4, pureL_ops, Bool.not_true]) (by simp only [go_sem, Nat.reduceAdd, Nat.reduceSub, Nat.reduceMul, Nat.reduceLT, Nat.reduceLeDiff, ↓reduceIte, reduceCtorEq, Nat.reduceEqDiff, Int.reduceToNat, Int.reduceLT, Int.reduceLE, Int.reduceEq, beq_self_eq_true, hd, h4, pureL_ops, Bool.not_true]) ?_; simp only [go_sem, Nat.reduceAdd, Nat.reduceSub, Nat.reduceMul, Nat.reduceLT, Nat.reduceLeDiff, ↓reduceIte, reduceCtorEq, Nat.reduceEqDiff, Int.reduceToNat, Int.reduceLT, Int.reduceLE, Int.reduceEq, beq_self_eq_true, hd, h4, pureL_ops, Bool.not_true]
    refine setUpd_g hK (e := 4) rfl (h0 _) (dotOf (txAt l i)) (x := dotD (txAt l i).peer (txAt l i).seq) rfl ?_
    rintro s' g' (⟨h5, _⟩ | ⟨_, rfl, rfl⟩)
    · exact absurd h5 hnm
    rw [hset, ← hsn]
    simp only [go_sem, Nat.reduceAdd, Nat.reduceSub, Nat.reduceMul, Nat.reduceLT, Nat.reduceLeDiff, ↓reduceIte, reduceCtorEq, Nat.reduceEqDiff, Int.reduceToNat, Int.reduceLT, Int.reduceLE, Int.reduceEq, beq_self_eq_true, wrapNat i (by omega)]
    exact ⟨l.length - (i + 1), by omega, i + 1, _, _, q + 1, reg_intro rfl rfl ⟨rfl, by omega, rfl, fun N s' L hm => by
      rcases List.mem_append.1 hm with h | h
      · exact hpu _ _ _ h
      · simp at h, good_next hp (by rw [okG, hnew, decide_eq_false hnm, h4]; rfl)⟩⟩
  · have hi2 := of_decide_eq_false hc
    obtain rfl : i = l.length := by omega
    have e : checkG l = decide (l.length ≤ 4096) := by simp only [checkG, range_good hp, Bool.and_true]
    rw [e]
    simp only [go_sem, Nat.reduceAdd, Nat.reduceSub, Nat.reduceMul, Nat.reduceLT, Nat.reduceLeDiff, ↓reduceIte, reduceCtorEq, Nat.reduceEqDiff, Int.reduceToNat, Int.reduceLT, Int.reduceLE, Int.reduceEq, beq_self_eq_true]
    refine finH_all ?_ (q := .lit (.bool (decide (l.length ≤ 4096)))) ?_ trivial ⟨trivial, rfl⟩
    · intro N s' L hmm
      rw [hx] at hmm
      rcases List.mem_append.1 hmm with h | h
      · simp at h
      · exact hpu _ _ _ h
    · simp only [meltD]
      congr 2
      rw [decide_eq_decide]; omega
end Go.Ab
set_option linter.unusedSimpArgs false
namespace Go.Ab
open Go.Proofs

theorem nil_ptr (b : Nat) (p : List Nat) : nilD (.ptr b p) = some (.ptr b p) := Eq.trans rfl rfl
/-- From which places one comes to a place at once. -/
def intoG (l : List TxR) (i : Nat) : List Nat := (List.range l.length).filter fun k => leadG l k i
abbrev webSh : Sh := (.pair .leaf (.pair .leaf .unit))
abbrev webD (l : List TxR) (b : Nat) : D := .agg [txsD l, .sl 25 b 0 l.length l.length]
/-- A web of transactions lies in memory. -/
def WebAt (l : List TxR) (bs : List (Sh × D)) (b : Nat) : Prop :=
  ∃ c L, bs[b]? = some (webSh, webD l c) ∧ bs[c]? = some (.arr l.length .leaf, .agg L) ∧ L.length = l.length ∧ ∀ i, i < l.length → ∃ t, L[i]? = some (intsL (natI (intoG l i)) t)
theorem web_more {l : List TxR} {bs ex : List (Sh × D)} {b : Nat} (h : WebAt l bs b) : WebAt l (bs ++ ex) b := by
  obtain ⟨c, L, h1, h2, h3⟩ := h
  exact ⟨c, L, by rw [List.getElem?_append_left (List.getElem?_eq_some_iff.1 h1).1]; exact h1, by rw [List.getElem?_append_left (List.getElem?_eq_some_iff.1 h2).1]; exact h2, h3⟩
set_option maxRecDepth 8000 in
theorem web_place (l : List TxR) (i : Int) (bs : List (Sh × D)) (tk : List Bool) (b : Nat) (hw : WebAt l bs b) :
    ASpec Try.prog CT 58 [.ptr b [], .lit (.int .i64 i)] ⟨bs, tk⟩ fun r h' => r = .bool (placeG l i) ∧ h' = ⟨bs, tk⟩ := by
  obtain ⟨c, L, h1, _⟩ := hw
  refine ASpec.of hT Try.func58 rfl (by kernel_rfl) rfl rfl ?_
  simp only [Try.f58, go_sem, Nat.reduceAdd, Nat.reduceSub, Nat.reduceMul, Nat.reduceLT, Nat.reduceLeDiff, ↓reduceIte, reduceCtorEq, Nat.reduceEqDiff, Int.reduceToNat, Int.reduceLT, Int.reduceLE, Int.reduceEq, beq_self_eq_true, h1]
  refine guardK_split (fun h3 => ?_) (fun h3 => ?_)
  · simp only [go_sem, Nat.reduceAdd, Nat.reduceSub, Nat.reduceMul, Nat.reduceLT, Nat.reduceLeDiff, ↓reduceIte, reduceCtorEq, Nat.reduceEqDiff, Int.reduceToNat, Int.reduceLT, Int.reduceLE, Int.reduceEq, beq_self_eq_true, nil_ptr, h1, h3]
    simp only [placeG, h3, Bool.true_and]
  · simp only [go_sem, Nat.reduceAdd, Nat.reduceSub, Nat.reduceMul, Nat.reduceLT, Nat.reduceLeDiff, ↓reduceIte, reduceCtorEq, Nat.reduceEqDiff, Int.reduceToNat, Int.reduceLT, Int.reduceLE, Int.reduceEq, beq_self_eq_true, h1, h3, placeG, Bool.false_and]
end Go.Ab
