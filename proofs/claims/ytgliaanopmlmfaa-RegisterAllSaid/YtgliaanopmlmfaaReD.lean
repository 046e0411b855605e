/- Slices of writes: which is the first such one; a copy. Conditions: none. -/
import Derived.Test.YtgliaanopmlmfaaReA
set_option linter.unusedSimpArgs false
namespace Go.Ab
open Go.Proofs

theorem sh_write : CT.sh 65 = (.pair (.pair (.pair .leaf (.pair .leaf .unit)) (.pair .leaf .unit)) (.pair .leaf (.pair .leaf .unit))) := rfl
theorem bytes_write : CT.bytes 65 = 48 := rfl
theorem pureL_wr (l : List WriteR) : pureL (l.map wrD) = True := pureL_map _ _ fun _ => by simp [pureD, pureL]
theorem pureL_app {a b : List D} (h1 : pureL a) (h2 : pureL b) : pureL (a ++ b) := by
  induction a with
  | nil => exact h2
  | cons x r ih => exact ⟨h1.1, ih h1.2⟩
theorem pure_rep (n : Nat) (d : D) (h : pureD d) : pureL (List.replicate n d) := by
  induction n with
  | zero => trivial
  | succ n ih => exact ⟨h, ih⟩
theorem pure_wr (l : List WriteR) : pureL (l.map wrD) := of_eq_true (pureL_wr l)

/-- A slice of the call's own, and what its cells hold. -/
def OutL (e : TypeId) (k : Nat) (d : D) (ex : List (Sh × D)) (l : List D) : Prop :=
  (d = .lst e [] .full ∧ l = [] ∧ ex = []) ∨ ∃ j N L, d = .sl e (k + j) 0 l.length N ∧ ex[j]? = some (.arr N (CT.sh e), .agg L) ∧ L.length = N ∧ l.length ≤ N ∧ N ≤ maxLen ∧ L.take l.length = l ∧ ∀ N s L, (Sh.arr N s, D.agg L) ∈ ex → pureL L

/-- What a function of an element answers, whatever else is in memory. -/
def PredF {α : Type} (f : FuncId) (caps : List D) (enc : α → D) (p : α → Bool) (bs : List (Sh × D)) : Prop :=
  ∀ (x : α) (bs' : List (Sh × D)), (∀ i, i < bs.length → bs'[i]? = bs[i]?) → HSpec Try.prog CT f (enc x :: caps) bs' fun r b' => r = .bool (p x) ∧ b' = bs'

def idxF {α : Type} (p : α → Bool) (l : List α) : Int := if l.any p then (l.findIdx p : Int) else -1
theorem idxF_at {α : Type} [Inhabited α] {p : α → Bool} {l : List α} {k : Nat} (hk : k < l.length) (h0 : ∀ q, q < k → p (l.getD q default) = false) (h : p (l.getD k default) = true) : idxF p l = k := by
  have hk2 : p l[k] = true := by rwa [List.getD_eq_getElem?_getD, List.getElem?_eq_getElem hk] at h
  have hany : l.any p = true := List.any_eq_true.2 ⟨_, List.getElem_mem hk, hk2⟩
  have : l.findIdx p = k := by
    rw [List.findIdx_eq hk]
    refine ⟨hk2, fun j hj => ?_⟩
    have := h0 j hj
    rw [List.getD_eq_getElem?_getD, List.getElem?_eq_getElem (by omega)] at this
    simpa using this
  simp [idxF, hany, this]
theorem idxF_none {α : Type} [Inhabited α] {p : α → Bool} {l : List α} (h0 : ∀ q, q < l.length → p (l.getD q default) = false) : idxF p l = -1 := by
  have : l.any p = false := by
    rw [List.any_eq_false]
    intro x hx
    obtain ⟨i, hi, rfl⟩ := List.getElem_of_mem hx
    have := h0 i hi
    rw [List.getD_eq_getElem?_getD, List.getElem?_eq_getElem hi] at this
    simpa using this
  simp [idxF, this]
theorem idxF_lt {α : Type} (p : α → Bool) (l : List α) : idxF p l < l.length := by
  unfold idxF
  split
  · rename_i h
    have := List.findIdx_lt_length_of_exists (List.any_eq_true.1 h)
    omega
  · omega
theorem idxF_ge {α : Type} (p : α → Bool) (l : List α) : decide (0 ≤ idxF p l) = l.any p := by
  unfold idxF
  cases l.any p <;> simp <;> omega

set_option maxRecDepth 8000 in
theorem indexFunc_lst {f : FuncId} {caps : List D} {p : WriteR → Bool} (l : List WriteR) (t : Tok) (hl : l.length < 4000000000) (bs : List (Sh × D)) (hp : PredF f caps wrD p bs) :
    HSpec Try.prog CT 128 [wrsD l t, .fn (.func f) caps] bs fun r b' => r = .lit (.int .i64 (idxF p l)) ∧ b' = bs := by
  refine HSpec.of hT Try.func128 rfl (by kernel_rfl) rfl rfl fun tk => ?_
  simp only [Try.f128, go_sem, Nat.reduceAdd, Nat.reduceSub, Nat.reduceMul, Nat.reduceLT, Nat.reduceLeDiff, ↓reduceIte, reduceCtorEq, Nat.reduceEqDiff, Int.reduceToNat, Int.reduceLT, Int.reduceLE, Int.reduceEq, beq_self_eq_true]
  refine awp_loop (fun n s => ∃ (k : Nat) (g : Nat → D), s = ⟨[wrsD l t, .fn (.func f) caps, g 2, g 3, g 4, g 5, g 6, .lit (.int .i64 l.length), .lit (.int .i64 k), g 9, g 10, g 11, g 12, g 13, g 14, g 15, g 16, g 17, g 18], ⟨bs, tk⟩⟩ ∧ n = l.length - k ∧ k ≤ l.length ∧ ∀ q, q < k → p (l.getD q default) = false) l.length ⟨0, reg_intro rfl rfl ⟨by simp, by omega, by simp⟩⟩ ?_
  rintro n s ⟨k, g, rfl, hn, hk, h0⟩
  simp only [go_sem, Nat.reduceAdd, Nat.reduceSub, Nat.reduceMul, Nat.reduceLT, Nat.reduceLeDiff, ↓reduceIte, reduceCtorEq, Nat.reduceEqDiff, Int.reduceToNat, Int.reduceLT, Int.reduceLE, Int.reduceEq, beq_self_eq_true]
  refine condK_split (fun hc => ?_) (fun hc => ?_)
  · have hk' : k < l.length := by have := of_decide_eq_true hc; omega
    simp only [go_sem, Nat.reduceAdd, Nat.reduceSub, Nat.reduceMul, Nat.reduceLT, Nat.reduceLeDiff, ↓reduceIte, reduceCtorEq, Nat.reduceEqDiff, Int.reduceToNat, Int.reduceLT, Int.reduceLE, Int.reduceEq, beq_self_eq_true, hk', get_enc]
    refine callK_h (hp (l.getD k default) bs fun _ _ => rfl) ?_
    rintro r b' ⟨rfl, rfl⟩
    simp only [go_sem, Nat.reduceAdd, Nat.reduceSub, Nat.reduceMul, Nat.reduceLT, Nat.reduceLeDiff, ↓reduceIte, reduceCtorEq, Nat.reduceEqDiff, Int.reduceToNat, Int.reduceLT, Int.reduceLE, Int.reduceEq, beq_self_eq_true]
    refine condK_split (fun h1 => ?_) (fun h1 => ?_)
    · simp only [go_sem, Nat.reduceAdd, Nat.reduceSub, Nat.reduceMul, Nat.reduceLT, Nat.reduceLeDiff, ↓reduceIte, reduceCtorEq, Nat.reduceEqDiff, Int.reduceToNat, Int.reduceLT, Int.reduceLE, Int.reduceEq, beq_self_eq_true]
      exact finH_lit ⟨by rw [idxF_at hk' h0 h1], rfl⟩
    · simp only [go_sem, Nat.reduceAdd, Nat.reduceSub, Nat.reduceMul, Nat.reduceLT, Nat.reduceLeDiff, ↓reduceIte, reduceCtorEq, Nat.reduceEqDiff, Int.reduceToNat, Int.reduceLT, Int.reduceLE, Int.reduceEq, beq_self_eq_true, wrapNat k (by omega)]
      refine ⟨l.length - (k + 1), by omega, k + 1, reg_intro rfl rfl ⟨rfl, by omega, fun q hq => ?_⟩⟩
      by_cases e : q = k
      · subst e; exact h1
      · exact h0 q (by omega)
  · have hi := of_decide_eq_false hc
    obtain rfl : k = l.length := by omega
    simp only [go_sem, Nat.reduceAdd, Nat.reduceSub, Nat.reduceMul, Nat.reduceLT, Nat.reduceLeDiff, ↓reduceIte, reduceCtorEq, Nat.reduceEqDiff, Int.reduceToNat, Int.reduceLT, Int.reduceLE, Int.reduceEq, beq_self_eq_true]
    exact finH_lit ⟨by rw [idxF_none h0], rfl⟩

theorem containsFunc_lst {f : FuncId} {caps : List D} {p : WriteR → Bool} (l : List WriteR) (t : Tok) (hl : l.length < 4000000000) (bs : List (Sh × D)) (hp : PredF f caps wrD p bs) :
    HSpec Try.prog CT 98 [wrsD l t, .fn (.func f) caps] bs fun r b' => r = .bool (l.any p) ∧ b' = bs := by
  refine HSpec.of hT Try.func98 rfl (by kernel_rfl) rfl rfl fun tk => ?_
  simp only [Try.f98, go_sem, Nat.reduceAdd, Nat.reduceSub, Nat.reduceMul, Nat.reduceLT, Nat.reduceLeDiff, ↓reduceIte, reduceCtorEq, Nat.reduceEqDiff, Int.reduceToNat, Int.reduceLT, Int.reduceLE, Int.reduceEq, beq_self_eq_true]
  refine callK_h (indexFunc_lst l t hl bs hp) ?_
  rintro r b' ⟨rfl, rfl⟩
  simp only [go_sem, Nat.reduceAdd, Nat.reduceSub, Nat.reduceMul, Nat.reduceLT, Nat.reduceLeDiff, ↓reduceIte, reduceCtorEq, Nat.reduceEqDiff, Int.reduceToNat, Int.reduceLT, Int.reduceLE, Int.reduceEq, beq_self_eq_true, idxF_ge]
  exact finH_lit ⟨rfl, rfl⟩

theorem clone_wr (l : List WriteR) (t : Tok) (hl : l.length < 1000000000) (bs : List (Sh × D)) (tk : List Bool) :
    ASpec Try.prog CT 102 [wrsD l t] ⟨bs, tk⟩ fun r h' => ∃ ex, h' = ⟨bs ++ ex, tk⟩ ∧ OutL 65 bs.length r ex (l.map wrD) := by
  refine ASpec.of hT Try.func102 rfl (by kernel_rfl) rfl rfl ?_
  simp only [Try.f102, go_sem, Nat.reduceAdd, Nat.reduceSub, Nat.reduceMul, Nat.reduceLT, Nat.reduceLeDiff, ↓reduceIte, reduceCtorEq, Nat.reduceEqDiff, Int.reduceToNat, Int.reduceLT, Int.reduceLE, Int.reduceEq, beq_self_eq_true]
  refine aop_nilcmp _ _ _ _ _ _ _ _ _ _ _ _ ⟨⟨_, rfl⟩, .inl rfl, rfl, ?_⟩
  intro b hb
  simp only [go_sem, Nat.reduceAdd, Nat.reduceSub, Nat.reduceMul, Nat.reduceLT, Nat.reduceLeDiff, ↓reduceIte, reduceCtorEq, Nat.reduceEqDiff, Int.reduceToNat, Int.reduceLT, Int.reduceLE, Int.reduceEq, beq_self_eq_true]
  refine condK_split (fun h1 => ?_) (fun h1 => ?_)
  · have hl0 : l = [] := by have := hb h1; simpa using this
    subst hl0
    simp only [go_sem, Nat.reduceAdd, Nat.reduceSub, Nat.reduceMul, Nat.reduceLT, Nat.reduceLeDiff, ↓reduceIte, reduceCtorEq, Nat.reduceEqDiff, Int.reduceToNat, Int.reduceLT, Int.reduceLE, Int.reduceEq, beq_self_eq_true]
    exact ⟨[], by simp, .inl ⟨rfl, rfl, rfl⟩⟩
  · simp only [go_sem, Nat.reduceAdd, Nat.reduceSub, Nat.reduceMul, Nat.reduceLT, Nat.reduceLeDiff, ↓reduceIte, reduceCtorEq, Nat.reduceEqDiff, Int.reduceToNat, Int.reduceLT, Int.reduceLE, Int.reduceEq, beq_self_eq_true]
    by_cases hl0 : l = []
    · subst hl0
      refine appK_mut _ _ _ 65 _ _ _ _ ⟨[], [], rfl, rfl, by rw [bytes_write]; omega, by rw [bytes_write]; simp, trivial, fun _ => ?_, (by intro b lo n c N s L h; cases h), fun _ h => absurd rfl h⟩
      simp only [go_sem, Nat.reduceAdd, Nat.reduceSub, Nat.reduceMul, Nat.reduceLT, Nat.reduceLeDiff, ↓reduceIte, reduceCtorEq, Nat.reduceEqDiff, Int.reduceToNat, Int.reduceLT, Int.reduceLE, Int.reduceEq, beq_self_eq_true]
      exact ⟨[], by simp, .inl ⟨rfl, rfl, rfl⟩⟩
    · refine appK_mut _ _ _ 65 _ _ _ _ ⟨[], l.map wrD, rfl, rfl, by rw [bytes_write]; omega, by rw [bytes_write]; simp; omega, trivial, fun h => absurd h (by simpa using hl0), (by intro b lo n c N s L h; cases h), fun _ _ N h1 h2 => ?_⟩
      simp only [go_sem, Nat.reduceAdd, Nat.reduceSub, Nat.reduceMul, Nat.reduceLT, Nat.reduceLeDiff, ↓reduceIte, reduceCtorEq, Nat.reduceEqDiff, Int.reduceToNat, Int.reduceLT, Int.reduceLE, Int.reduceEq, beq_self_eq_true, List.length_nil, Nat.zero_add, List.nil_append, Heap.var]
      simp only [List.length_nil, Nat.zero_add] at h1
      refine ⟨_, rfl, .inr ⟨0, N, l.map wrD ++ List.replicate (N - l.length) (CT.zero 65), by simp, rfl, by simp at h1 ⊢; omega, h1, h2, by simp, ?_⟩⟩
      intro N' s' L' hm
      simp only [List.mem_singleton, Prod.mk.injEq, D.agg.injEq] at hm
      obtain ⟨_, rfl⟩ := hm
      exact pureL_app (pure_wr l) (pure_rep _ _ (by simp [zero65, pureD, pureL]))
end Go.Ab
set_option linter.unusedSimpArgs false
namespace Go.Ab
open Go.Proofs

theorem sl_at {l : List WriteR} {L : List D} (h : L.take l.length = l.map wrD) {k : Nat} (hk : k < l.length) : L[k]? = some (wrD (l.getD k default)) := by
  have h1 : (L.take l.length)[k]? = L[k]? := by rw [List.getElem?_take, if_pos hk]
  rw [← h1, h]
  simp [hk]
set_option maxRecDepth 8000 in
theorem indexFunc_sl {f : FuncId} {caps : List D} {p : WriteR → Bool} (l : List WriteR) (hl : l.length < 1000000000) (bs base : List (Sh × D)) (hpre : ∀ i, i < base.length → bs[i]? = base[i]?) (hp : PredF f caps wrD p base) {b N : Nat} {L : List D}
    (hb : bs[b]? = some (.arr N (CT.sh 65), .agg L)) (hL : L.length = N) (hlN : l.length ≤ N) (hlL : L.take l.length = l.map wrD) :
    HSpec Try.prog CT 128 [.sl 65 b 0 l.length N, .fn (.func f) caps] bs fun r b' => r = .lit (.int .i64 (idxF p l)) ∧ b' = bs := by
  refine HSpec.of hT Try.func128 rfl (by kernel_rfl) rfl rfl fun tk => ?_
  simp only [Try.f128, go_sem, Nat.reduceAdd, Nat.reduceSub, Nat.reduceMul, Nat.reduceLT, Nat.reduceLeDiff, ↓reduceIte, reduceCtorEq, Nat.reduceEqDiff, Int.reduceToNat, Int.reduceLT, Int.reduceLE, Int.reduceEq, beq_self_eq_true]
  refine awp_loop (fun n s => ∃ (k : Nat) (g : Nat → D), s = ⟨[.sl 65 b 0 l.length N, .fn (.func f) caps, g 2, g 3, g 4, g 5, g 6, .lit (.int .i64 l.length), .lit (.int .i64 k), g 9, g 10, g 11, g 12, g 13, g 14, g 15, g 16, g 17, g 18], ⟨bs, tk⟩⟩ ∧ n = l.length - k ∧ k ≤ l.length ∧ ∀ q, q < k → p (l.getD q default) = false) l.length ⟨0, reg_intro rfl rfl ⟨by simp, by omega, by simp⟩⟩ ?_
  rintro n s ⟨k, g, rfl, hn, hk, h0⟩
  simp only [go_sem, Nat.reduceAdd, Nat.reduceSub, Nat.reduceMul, Nat.reduceLT, Nat.reduceLeDiff, ↓reduceIte, reduceCtorEq, Nat.reduceEqDiff, Int.reduceToNat, Int.reduceLT, Int.reduceLE, Int.reduceEq, beq_self_eq_true]
  refine condK_split (fun hc => ?_) (fun hc => ?_)
  · have hk' : k < l.length := by have := of_decide_eq_true hc; omega
    have hkN : k < N := by omega
    have hx := sl_at hlL hk'
    rw [sh_write] at hb
    simp only [go_sem, Nat.reduceAdd, Nat.reduceSub, Nat.reduceMul, Nat.reduceLT, Nat.reduceLeDiff, ↓reduceIte, reduceCtorEq, Nat.reduceEqDiff, Int.reduceToNat, Int.reduceLT, Int.reduceLE, Int.reduceEq, beq_self_eq_true, hk', indexAddr_sl_t, hb, hkN, hx, Nat.zero_add]
    refine callK_h (hp (l.getD k default) bs hpre) ?_
    rintro r b' ⟨rfl, rfl⟩
    simp only [go_sem, Nat.reduceAdd, Nat.reduceSub, Nat.reduceMul, Nat.reduceLT, Nat.reduceLeDiff, ↓reduceIte, reduceCtorEq, Nat.reduceEqDiff, Int.reduceToNat, Int.reduceLT, Int.reduceLE, Int.reduceEq, beq_self_eq_true]
    refine condK_split (fun h1 => ?_) (fun h1 => ?_)
    · simp only [go_sem, Nat.reduceAdd, Nat.reduceSub, Nat.reduceMul, Nat.reduceLT, Nat.reduceLeDiff, ↓reduceIte, reduceCtorEq, Nat.reduceEqDiff, Int.reduceToNat, Int.reduceLT, Int.reduceLE, Int.reduceEq, beq_self_eq_true]
      exact finH_lit ⟨by rw [idxF_at hk' h0 h1], rfl⟩
    · simp only [go_sem, Nat.reduceAdd, Nat.reduceSub, Nat.reduceMul, Nat.reduceLT, Nat.reduceLeDiff, ↓reduceIte, reduceCtorEq, Nat.reduceEqDiff, Int.reduceToNat, Int.reduceLT, Int.reduceLE, Int.reduceEq, beq_self_eq_true, wrapNat k (by omega)]
      refine ⟨l.length - (k + 1), by omega, k + 1, reg_intro rfl rfl ⟨rfl, by omega, fun q hq => ?_⟩⟩
      by_cases e : q = k
      · subst e; exact h1
      · exact h0 q (by omega)
  · have hi := of_decide_eq_false hc
    obtain rfl : k = l.length := by omega
    simp only [go_sem, Nat.reduceAdd, Nat.reduceSub, Nat.reduceMul, Nat.reduceLT, Nat.reduceLeDiff, ↓reduceIte, reduceCtorEq, Nat.reduceEqDiff, Int.reduceToNat, Int.reduceLT, Int.reduceLE, Int.reduceEq, beq_self_eq_true]
    exact finH_lit ⟨by rw [idxF_none h0], rfl⟩
theorem slice_sl_lo_t (C : Tab) (t e : TypeId) (b lo n c : Nat) (k : IntKind) (i : Int) (ht : (C.ty t = .slice e) = True) (h0 : (0 ≤ i) = True) (h1 : (i.toNat ≤ n) = True) (h2 : (n ≤ c) = True) : sliceD C t (.sl e b lo n c) (some (.lit (.int k i))) none none = some (.sl e b (lo + i.toNat) (n - i.toNat) (c - i.toNat)) := by
  have ht := of_eq_true ht
  have h0 := of_eq_true h0
  have h1 := of_eq_true h1
  have h2 := of_eq_true h2
  have h3 : max i 0 = i := by omega
  have h4 : i ≤ (n : Int) := by omega
  simp [sliceD, ht, boundD, natOf, h0, h1, h2, h3, h4]

def keptL {α : Type} (p : α → Bool) (l : List α) : List α := l.filter fun x => !p x
theorem kept_start {α : Type} {p : α → Bool} : ∀ {l : List α}, l.any p = true → keptL p (l.take (l.findIdx p + 1)) = l.take (l.findIdx p) ∧ l.findIdx p < l.length
  | [], h => by simp at h
  | x :: r, h => by
    cases hx : p x with
    | true => simp [List.findIdx_cons, hx, keptL]
    | false =>
      have hr : r.any p = true := by simpa [hx] using h
      obtain ⟨h1, h2⟩ := kept_start hr
      simp only [keptL] at h1 ⊢
      simp only [List.findIdx_cons, hx, cond_false, List.take_succ_cons, List.filter_cons, Bool.not_false, if_true, List.length_cons]
      exact ⟨by rw [h1], by omega⟩
theorem kept_none {α : Type} {p : α → Bool} {l : List α} (h : l.any p = false) : keptL p l = l := by
  rw [keptL, List.filter_eq_self]
  intro x hx
  have := List.any_eq_false.1 h x hx
  simpa using this
theorem kept_snoc {α : Type} [Inhabited α] {p : α → Bool} {l : List α} {j : Nat} (hj : j < l.length) : keptL p (l.take (j + 1)) = keptL p (l.take j) ++ (if p (l.getD j default) then [] else [l.getD j default]) := by
  have e : l.take (j + 1) = l.take j ++ [l.getD j default] := by rw [List.take_add_one, List.getElem?_eq_getElem hj, List.getD_eq_getElem?_getD, List.getElem?_eq_getElem hj]; rfl
  rw [e, keptL, List.filter_append, ← keptL]
  cases h : p (l.getD j default) <;> simp [List.filter_cons]
  · have := h; simp only [List.getD_eq_getElem?_getD] at this; simp [this]
  · have := h; simp only [List.getD_eq_getElem?_getD] at this; simp [this]
theorem kept_len {α : Type} (p : α → Bool) (l : List α) : (keptL p l).length ≤ l.length := List.length_filter_le _ _
theorem pureL_set {L : List D} {k : Nat} {d : D} (h : pureL L) (hd : pureD d) : pureL (L.set k d) := by
  induction L generalizing k with
  | nil => simpa using h
  | cons x r ih => cases k with
    | zero => exact ⟨hd, h.2⟩
    | succ k => exact ⟨h.1, ih h.2⟩
theorem pureL_take {a : List D} (n : Nat) (h : pureL a) : pureL (a.take n) := by
  induction a generalizing n with
  | nil => simpa using h
  | cons x r ih => cases n with
    | zero => trivial
    | succ n => exact ⟨h.1, ih n h.2⟩
theorem pureL_drop {a : List D} (n : Nat) (h : pureL a) : pureL (a.drop n) := by
  induction a generalizing n with
  | nil => simpa using h
  | cons x r ih => cases n with
    | zero => exact h
    | succ n => exact ih n h.2
theorem pureL_over {L m : List D} {o : Nat} (h : pureL L) (hm : pureL m) : pureL (overL L o m) := pureL_app (pureL_app (pureL_take _ h) hm) (pureL_drop _ h)
mutual
theorem low_of_pure {k n : Nat} : ∀ d : D, pureD d → lowD k n d
  | .lit _, _ => trivial
  | .agg l, h => lowL_of_pure l h
  | .lst _ _ t, h => by cases t <;> first | trivial | exact h.elim
  | .ref _ _, _ => trivial
  | .ptr _ _, h => h.elim
  | .fn _ _, h => h.elim
  | .tup _, h => h.elim
  | .ifc _ _, _ => trivial
  | .mref _, h => h.elim
  | .mp _ _ _, h => h.elim
  | .it _ _ _, h => h.elim
  | .sl _ _ _ _ _, h => h.elim
theorem lowL_of_pure {k n : Nat} : ∀ l : List D, pureL l → lowL k n l
  | [], _ => trivial
  | d :: r, h => ⟨low_of_pure d h.1, lowL_of_pure r h.2⟩
end
theorem take_set_snoc {L : List D} {l : List D} {d : D} (h : L.take l.length = l) (hl : l.length < L.length) : (L.set l.length d).take (l.length + 1) = l ++ [d] := by
  rw [List.take_add_one, List.getElem?_set_self hl, List.take_set_of_le (Nat.le_refl _), h]; rfl

/-- The same, where nothing is to be put behind it. -/
def OutM (e : TypeId) (k : Nat) (d : D) (ex : List (Sh × D)) (l : List D) : Prop :=
  (d = .lst e [] .no ∧ l = [] ∧ ex = []) ∨ ∃ j N L, d = .sl e (k + j) 0 l.length N ∧ ex[j]? = some (.arr N (CT.sh e), .agg L) ∧ L.length = N ∧ l.length ≤ N ∧ N ≤ maxLen ∧ L.take l.length = l ∧ ∀ N s L, (Sh.arr N s, D.agg L) ∈ ex → pureL L
set_option maxRecDepth 8000 in
set_option maxHeartbeats 1000000 in
theorem del_wr {f : FuncId} {caps : List D} {p : WriteR → Bool} (l : List WriteR) (hl : l.length < 1000000000) (base ex : List (Sh × D)) (hp : PredF f caps wrD p base) {d : D} (ho : OutL 65 base.length d ex (l.map wrD)) :
    HSpec Try.prog CT 105 [d, .fn (.func f) caps] (base ++ ex) fun r b' => ∃ ex', b' = base ++ ex' ∧ OutM 65 base.length r ex' ((keptL p l).map wrD) := by
  have hpre : ∀ z i, i < base.length → (base ++ z)[i]? = base[i]? := fun z i hi => by rw [List.getElem?_append_left hi]
  rcases ho with ⟨rfl, h2, rfl⟩ | ⟨jx, N, L, rfl, hj, hL, hlN, hN, hlL, hpu⟩
  · obtain rfl : l = [] := by simpa using h2
    rw [List.append_nil]
    refine HSpec.of hT Try.func105 rfl (by kernel_rfl) rfl rfl fun tk => ?_
    simp only [Try.f105, go_sem, Nat.reduceAdd, Nat.reduceSub, Nat.reduceMul, Nat.reduceLT, Nat.reduceLeDiff, ↓reduceIte, reduceCtorEq, Nat.reduceEqDiff, Int.reduceToNat, Int.reduceLT, Int.reduceLE, Int.reduceEq, beq_self_eq_true]
    refine callK_h (indexFunc_lst (p := p) [] .full (by simp) base hp) ?_
    rintro r b' ⟨rfl, rfl⟩
    simp only [go_sem, Nat.reduceAdd, Nat.reduceSub, Nat.reduceMul, Nat.reduceLT, Nat.reduceLeDiff, ↓reduceIte, reduceCtorEq, Nat.reduceEqDiff, Int.reduceToNat, Int.reduceLT, Int.reduceLE, Int.reduceEq, beq_self_eq_true, idxF, List.any_nil, Bool.false_eq_true, decide_true]
    exact finH_keep (by simp) (fun j x h => .inr (.inr h)) (by simp [meltD, lowD]) ⟨[], by simp, .inl ⟨by simp [meltD], rfl, rfl⟩⟩
  · simp only [List.length_map] at hlN hlL ⊢
    have hjl : jx < ex.length := (List.getElem?_eq_some_iff.1 hj).1
    generalize hb : base.length + jx = b
    generalize hbs : base ++ ex = bs
    have hbl : b < bs.length := by rw [← hbs, ← hb]; simp; omega
    have hbx : bs[b]? = some (.arr N (CT.sh 65), .agg L) := by rw [← hbs, ← hb, List.getElem?_append_right (by omega), Nat.add_sub_cancel_left]; exact hj
    have hset : ∀ y, bs.set b y = base ++ ex.set jx y := fun y => by rw [← hbs, ← hb, List.set_append_right _ _ (by omega), Nat.add_sub_cancel_left]
    have hpL : pureL L := hpu _ _ _ (List.mem_of_getElem? hj)
    have hpb : ∀ i, i < base.length → bs[i]? = base[i]? := fun i hi => by rw [← hbs]; exact hpre _ i hi
    refine HSpec.of hT Try.func105 rfl (by kernel_rfl) rfl rfl fun tk => ?_
    simp only [Try.f105, go_sem, Nat.reduceAdd, Nat.reduceSub, Nat.reduceMul, Nat.reduceLT, Nat.reduceLeDiff, ↓reduceIte, reduceCtorEq, Nat.reduceEqDiff, Int.reduceToNat, Int.reduceLT, Int.reduceLE, Int.reduceEq, beq_self_eq_true]
    refine callK_h (indexFunc_sl l hl bs base hpb hp hbx hL hlN hlL) ?_
    rintro r b' ⟨rfl, rfl⟩
    simp only [go_sem, Nat.reduceAdd, Nat.reduceSub, Nat.reduceMul, Nat.reduceLT, Nat.reduceLeDiff, ↓reduceIte, reduceCtorEq, Nat.reduceEqDiff, Int.reduceToNat, Int.reduceLT, Int.reduceLE, Int.reduceEq, beq_self_eq_true]
    refine condK_split (fun h1 => ?_) (fun h1 => ?_)
    · have hany : l.any p = false := by
        have := of_decide_eq_true h1
        unfold idxF at this
        split at this
        · omega
        · rename_i h; simpa using h
      simp only [go_sem, Nat.reduceAdd, Nat.reduceSub, Nat.reduceMul, Nat.reduceLT, Nat.reduceLeDiff, ↓reduceIte, reduceCtorEq, Nat.reduceEqDiff, Int.reduceToNat, Int.reduceLT, Int.reduceLE, Int.reduceEq, beq_self_eq_true]
      have e1 : meltD b' b'.length (.sl 65 b 0 l.length N) = .sl 65 b 0 l.length N := by simp only [meltD]; rw [if_neg (by omega)]
      refine finH_keep (by omega) (fun j x h => .inr (.inr h)) (by rw [e1]; exact hbl) ?_
      rw [e1, kept_none hany]
      exact ⟨ex, hbs.symm, .inr ⟨jx, N, L, by rw [hb, List.length_map], hj, hL, by simpa using hlN, hN, by simpa using hlL, hpu⟩⟩
    · have hany : l.any p = true := by
        have := of_decide_eq_false h1
        unfold idxF at this
        cases h : l.any p with
        | true => rfl
        | false => rw [h] at this; simp at this
      obtain ⟨hk1, hk2⟩ := kept_start hany
      have hix : idxF p l = (l.findIdx p : Nat) := by simp [idxF, hany]
      have hlen0 : (l.take (l.findIdx p)).length = l.findIdx p := by rw [List.length_take]; omega
      simp only [go_sem, Nat.reduceAdd, Nat.reduceSub, Nat.reduceMul, Nat.reduceLT, Nat.reduceLeDiff, ↓reduceIte, reduceCtorEq, Nat.reduceEqDiff, Int.reduceToNat, Int.reduceLT, Int.reduceLE, Int.reduceEq, beq_self_eq_true, hix, wrapNat _ (show l.findIdx p < 4000000000 by omega)]
      have hbx0 : b'.set b (.arr N ((.pair (.pair (.pair .leaf (.pair .leaf .unit)) (.pair .leaf .unit)) (.pair .leaf (.pair .leaf .unit)))), .agg L) = b' := by
        refine List.ext_getElem? fun i => ?_
        rw [List.getElem?_set]
        split
        · rename_i e; subst e; rw [hbx, sh_write]
        · rfl
      have hg : ∀ y (vs : List (Sh × D)), (b'.set b y ++ vs)[b]? = some y := fun y vs => by rw [List.getElem?_append_left (by simp; omega), List.getElem?_set_self hbl]
      have hs : ∀ y y' (vs : List (Sh × D)), (b'.set b y ++ vs).set b y' = b'.set b y' ++ vs := fun y y' vs => by rw [List.set_append_left _ _ (by simp; omega), List.set_set]
      have hg2 : ∀ y (vs : List (Sh × D)) v, (b'.set b y ++ vs ++ [v])[b]? = some y := fun y vs v => by rw [List.append_assoc]; exact hg _ _
      have hs2 : ∀ y y' (vs : List (Sh × D)) v, (b'.set b y ++ vs ++ [v]).set b y' = b'.set b y' ++ vs ++ [v] := fun y y' vs v => by rw [List.append_assoc, hs, List.append_assoc]
      have hpz : ∀ y (z : List (Sh × D)) i, i < base.length → (b'.set b y ++ z)[i]? = base[i]? := fun y z i hi => by
        rw [List.getElem?_append_left (by simp; omega), List.getElem?_set_ne (by omega)]; exact hpb i hi
      refine awp_loop (fun n s => ∃ (j i : Nat) (x : List (Sh × D)) (L' : List D) (vs : List (Sh × D)) (g : Nat → D), s = ⟨[.sl 65 b 0 l.length N, .fn (.func f) caps, g 2, g 3, g 4, .lit (.int .i64 i), .lit (.int .i64 j), g 7, g 8, g 9, g 10, g 11, g 12, g 13, g 14, g 15, g 16, g 17, g 18, g 19, g 20, g 21, g 22, g 23, g 24, g 25, g 26, g 27, g 28, g 29, g 30, g 31, g 32, g 33, g 34, g 35, g 36, g 37, g 38, g 39, g 40, g 41], ⟨x, tk⟩⟩ ∧ n = l.length - j ∧ x = b'.set b (.arr N ((.pair (.pair (.pair .leaf (.pair .leaf .unit)) (.pair .leaf .unit)) (.pair .leaf (.pair .leaf .unit)))), .agg L') ++ vs ∧ i = (keptL p (l.take j)).length ∧ j ≤ l.length ∧ i < j ∧ L'.length = N ∧ L'.take i = (keptL p (l.take j)).map wrD ∧ (∀ k, j ≤ k → L'[k]? = L[k]?) ∧ pureL L' ∧ ∀ x ∈ vs, x.1 = (.pair (.pair (.pair .leaf (.pair .leaf .unit)) (.pair .leaf .unit)) (.pair .leaf (.pair .leaf .unit)))) (l.length - (l.findIdx p + 1)) ⟨l.findIdx p + 1, l.findIdx p, b', L, [], reg_intro rfl rfl ⟨rfl, by rw [hbx0, List.append_nil], by rw [hk1, hlen0], by omega, by omega, hL, ?_, fun _ _ => rfl, hpL, by simp⟩⟩ ?_
      · rw [hk1]
        have := congrArg (List.take (l.findIdx p)) hlL
        rw [List.take_take, Nat.min_eq_left (by omega), ← List.map_take] at this
        exact this
      rintro n s ⟨j, i, x, L', vs, g, rfl, hn, rfl, hi, hj', hij, hL', hlL', hup, hpu', hvs⟩
      have hli : i ≤ l.length := by omega
      simp only [go_sem, Nat.reduceAdd, Nat.reduceSub, Nat.reduceMul, Nat.reduceLT, Nat.reduceLeDiff, ↓reduceIte, reduceCtorEq, Nat.reduceEqDiff, Int.reduceToNat, Int.reduceLT, Int.reduceLE, Int.reduceEq, beq_self_eq_true]
      refine condK_split (fun hc => ?_) (fun hc => ?_)
      · have hjk : j < l.length := by have := of_decide_eq_true hc; omega
        have hjN : j < N := by omega
        have hiN : i < N := by omega
        have hx : L'[j]? = some (wrD (l.getD j default)) := by rw [hup j (Nat.le_refl _)]; exact sl_at hlL hjk
        simp only [go_sem, Nat.reduceAdd, Nat.reduceSub, Nat.reduceMul, Nat.reduceLT, Nat.reduceLeDiff, ↓reduceIte, reduceCtorEq, Nat.reduceEqDiff, Int.reduceToNat, Int.reduceLT, Int.reduceLE, Int.reduceEq, beq_self_eq_true, hjk, hg, hjN, hx, Nat.zero_add, get_last, set_last]
        refine callK_h (hp (l.getD j default) _ fun q hq => by rw [List.append_assoc]; exact hpz _ _ q hq) ?_
        rintro r b2 ⟨rfl, rfl⟩
        simp only [go_sem, Nat.reduceAdd, Nat.reduceSub, Nat.reduceMul, Nat.reduceLT, Nat.reduceLeDiff, ↓reduceIte, reduceCtorEq, Nat.reduceEqDiff, Int.reduceToNat, Int.reduceLT, Int.reduceLE, Int.reduceEq, beq_self_eq_true]
        have hil : i < l.length := by omega
        have hks := kept_snoc (p := p) hjk
        refine condK_split (fun h3 => ?_) (fun h3 => ?_)
        · have hpf : p (l.getD j default) = false := by simpa using h3
          rw [hpf, if_neg (by simp)] at hks
          obtain ⟨y0, hy0⟩ : ∃ y0, L'[i]? = some y0 := ⟨_, List.getElem?_eq_getElem (by omega)⟩
          simp only [go_sem, Nat.reduceAdd, Nat.reduceSub, Nat.reduceMul, Nat.reduceLT, Nat.reduceLeDiff, ↓reduceIte, reduceCtorEq, Nat.reduceEqDiff, Int.reduceToNat, Int.reduceLT, Int.reduceLE, Int.reduceEq, beq_self_eq_true, hil, hiN, hg2, hs2, hy0, get_last, set_last, wrapNat i (by omega), wrapNat j (by omega), Nat.zero_add]
          refine ⟨l.length - (j + 1), by omega, j + 1, i + 1, _, L'.set i (wrD (l.getD j default)), vs ++ [((.pair (.pair (.pair .leaf (.pair .leaf .unit)) (.pair .leaf .unit)) (.pair .leaf (.pair .leaf .unit))), wrD (l.getD j default))], reg_intro rfl rfl ⟨rfl, by rw [List.append_assoc], by rw [hks, hi]; simp, by omega, by omega, by simpa using hL', ?_, ?_, pureL_set hpu' (by simp [pureD, pureL]), ?_⟩⟩
          · have hlen : ((keptL p (l.take j)).map wrD).length = i := by rw [List.length_map, hi]
            have := take_set_snoc (L := L') (l := (keptL p (l.take j)).map wrD) (d := wrD (l.getD j default)) (by rw [hlen]; exact hlL') (by rw [hlen]; omega)
            rw [hlen] at this
            rw [this, hks]; simp
          · intro q hq
            rw [List.getElem?_set_ne (by omega)]; exact hup q (by omega)
          · intro y hy
            rcases List.mem_append.1 hy with hy | hy
            · exact hvs y hy
            · rw [List.mem_singleton] at hy; rw [hy]
        · have hpt : p (l.getD j default) = true := by simpa using h3
          rw [hpt, if_pos rfl, List.append_nil] at hks
          simp only [go_sem, Nat.reduceAdd, Nat.reduceSub, Nat.reduceMul, Nat.reduceLT, Nat.reduceLeDiff, ↓reduceIte, reduceCtorEq, Nat.reduceEqDiff, Int.reduceToNat, Int.reduceLT, Int.reduceLE, Int.reduceEq, beq_self_eq_true, wrapNat j (by omega)]
          refine ⟨l.length - (j + 1), by omega, j + 1, i, _, L', vs ++ [((.pair (.pair (.pair .leaf (.pair .leaf .unit)) (.pair .leaf .unit)) (.pair .leaf (.pair .leaf .unit))), wrD (l.getD j default))], reg_intro rfl rfl ⟨rfl, by rw [List.append_assoc], by rw [hks, hi], by omega, by omega, hL', by rw [hks]; exact hlL', fun q hq => hup q (by omega), hpu', ?_⟩⟩
          intro y hy
          rcases List.mem_append.1 hy with hy | hy
          · exact hvs y hy
          · rw [List.mem_singleton] at hy; rw [hy]
      · have hjl' : j = l.length := by have := of_decide_eq_false hc; omega
        subst hjl'
        rw [List.take_length] at hi hlL'
        have hle := kept_len p l
        simp only [go_sem, Nat.reduceAdd, Nat.reduceSub, Nat.reduceMul, Nat.reduceLT, Nat.reduceLeDiff, ↓reduceIte, reduceCtorEq, Nat.reduceEqDiff, Int.reduceToNat, Int.reduceLT, Int.reduceLE, Int.reduceEq, beq_self_eq_true, hli, slice_sl_lo_t, hlN, Nat.zero_add]
        refine aop_clear _ _ _ _ _ _ _ _ _ _ ⟨65, b, _, _, _, N, _, L', rfl, rfl, hg _ _, ?_⟩
        have hiN : i ≤ N := by omega
        simp only [go_sem, Nat.reduceAdd, Nat.reduceSub, Nat.reduceMul, Nat.reduceLT, Nat.reduceLeDiff, ↓reduceIte, reduceCtorEq, Nat.reduceEqDiff, Int.reduceToNat, Int.reduceLT, Int.reduceLE, Int.reduceEq, beq_self_eq_true, hs, hiN]
        have hoL : (overL L' i (List.replicate (l.length - i) (CT.zero 65))).length = N := by simp [overL]; omega
        have e1 : meltD (b'.set b (.arr N ((.pair (.pair (.pair .leaf (.pair .leaf .unit)) (.pair .leaf .unit)) (.pair .leaf (.pair .leaf .unit)))), .agg (overL L' i (List.replicate (l.length - i) (CT.zero 65)))) ++ vs) (b'.set b (.arr N ((.pair (.pair (.pair .leaf (.pair .leaf .unit)) (.pair .leaf .unit)) (.pair .leaf (.pair .leaf .unit)))), .agg (overL L' i (List.replicate (l.length - i) (CT.zero 65))))).length (.sl 65 b 0 i N) = .sl 65 b 0 i N := by
          simp only [meltD]; rw [if_neg (by rw [List.length_set]; omega)]
        have hpo : pureL (overL L' i (List.replicate (l.length - i) (CT.zero 65))) := pureL_over hpu' (pure_rep _ _ (by simp [zero65, pureD, pureL]))
        refine ⟨_, b'.set b (.arr N ((.pair (.pair (.pair .leaf (.pair .leaf .unit)) (.pair .leaf .unit)) (.pair .leaf (.pair .leaf .unit)))), .agg (overL L' i (List.replicate (l.length - i) (CT.zero 65)))), vs, [], rfl, rfl, by simp, by simp, ?_, ?_, by rw [e1]; simp only [lowD, List.length_set]; exact hbl, ?_⟩
        · intro q y hq
          rw [List.getElem?_set] at hq
          split at hq
          · cases hq; exact .inr (.inl (low_of_pure (.agg _) hpo))
          · exact .inr (.inr hq)
        · intro q N' s' L'' hq hm
          rw [List.getElem?_append_right hq] at hm
          have := hvs _ (List.mem_of_getElem? hm)
          cases this
        · rw [e1]
          refine ⟨ex.set jx _, hset _, .inr ⟨jx, N, _, by rw [hb, List.length_map, ← hi], by rw [sh_write]; exact List.getElem?_set_self hjl, hoL, by rw [List.length_map, ← hi]; omega, hN, ?_, ?_⟩⟩
          · rw [List.length_map, ← hi, overL, List.append_assoc, List.take_append_of_le_length (by simp; omega), List.take_take, Nat.min_self]
            exact hlL'
          · intro N' s' L'' hm
            rcases List.mem_or_eq_of_mem_set hm with h' | h'
            · exact hpu _ _ _ h'
            · simp only [Prod.mk.injEq, D.agg.injEq] at h'
              obtain ⟨_, rfl⟩ := h'
              exact hpo
end Go.Ab
