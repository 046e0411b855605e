/- Slices of members: which is the first such one; a copy; some are taken out; one is put in. Conditions: none. -/
import Derived.Test.YtnagdbamieahgaaReA
set_option linter.unusedSimpArgs false
namespace Go.Ab
open Go.Proofs

abbrev rows_me (l : List MemberR) (t : Tok) : D := .lst 55 (l.map meD) t
theorem sh_me : CT.sh 55 = (.pair .leaf (.pair .leaf (.pair .leaf .unit))) := rfl
theorem bytes_me : CT.bytes 55 = 48 := rfl
theorem pureL_me (l : List MemberR) : pureL (l.map meD) = True := pureL_map _ _ fun _ => by simp [pureD, pureL]
theorem pure_me (l : List MemberR) : pureL (l.map meD) := of_eq_true (pureL_me l)
theorem clone_me (l : List MemberR) (t : Tok) (hl : l.length < 1000000000) (bs : List (Sh × D)) (tk : List Bool) :
    ASpec Try.prog CT 78 [rows_me l t] ⟨bs, tk⟩ fun r h' => ∃ ex, h' = ⟨bs ++ ex, tk⟩ ∧ OutL 55 bs.length r ex (l.map meD) := by
  refine ASpec.of hT Try.func78 rfl (by kernel_rfl) rfl rfl ?_
  simp only [Try.f78, go_sem, Nat.reduceAdd, Nat.reduceSub, Nat.reduceMul, Nat.reduceLT, Nat.reduceLeDiff, ↓reduceIte, reduceCtorEq, Nat.reduceEqDiff, Int.reduceToNat, Int.reduceLT, Int.reduceLE, Int.reduceEq, beq_self_eq_true]
  refine aop_nilcmp _ _ _ _ _ _ _ _ _ _ _ _ ⟨⟨_, rfl⟩, .inl rfl, rfl, ?_⟩
  intro b hb
  simp only [go_sem, Nat.reduceAdd, Nat.reduceSub, Nat.reduceMul, Nat.reduceLT, Nat.reduceLeDiff, ↓reduceIte, reduceCtorEq, Nat.reduceEqDiff, Int.reduceToNat, Int.reduceLT, Int.reduceLE, Int.reduceEq, beq_self_eq_true]
  refine condK_split (fun h1 => ?_) (fun h1 => ?_)
  · have hl0 : l = [] := by have := hb h1; simpa using this
    subst hl0
    simp only [go_sem, Nat.reduceAdd, Nat.reduceSub, Nat.reduceMul, Nat.reduceLT, Nat.reduceLeDiff, ↓reduceIte, reduceCtorEq, Nat.reduceEqDiff, Int.reduceToNat, Int.reduceLT, Int.reduceLE, Int.reduceEq, beq_self_eq_true]
    exact ⟨[], by simp, .inl ⟨rfl, rfl, rfl⟩⟩
  · simp only [go_sem, Nat.reduceAdd, Nat.reduceSub, Nat.reduceMul, Nat.reduceLT, Nat.reduceLeDiff, ↓reduceIte, reduceCtorEq, Nat.reduceEqDiff, Int.reduceToNat, Int.reduceLT, Int.reduceLE, Int.reduceEq, beq_self_eq_true]
    by_cases hl0 : l = []
    · subst hl0
      refine appK_mut _ _ _ 55 _ _ _ _ ⟨[], [], rfl, rfl, by rw [bytes_me]; omega, by rw [bytes_me]; simp, trivial, fun _ => ?_, (by intro b lo n c N s L h; cases h), fun _ h => absurd rfl h⟩
      simp only [go_sem, Nat.reduceAdd, Nat.reduceSub, Nat.reduceMul, Nat.reduceLT, Nat.reduceLeDiff, ↓reduceIte, reduceCtorEq, Nat.reduceEqDiff, Int.reduceToNat, Int.reduceLT, Int.reduceLE, Int.reduceEq, beq_self_eq_true]
      exact ⟨[], by simp, .inl ⟨rfl, rfl, rfl⟩⟩
    · refine appK_mut _ _ _ 55 _ _ _ _ ⟨[], l.map meD, rfl, rfl, by rw [bytes_me]; omega, by rw [bytes_me]; simp; omega, trivial, fun h => absurd h (by simpa using hl0), (by intro b lo n c N s L h; cases h), fun _ _ N h1 h2 => ?_⟩
      simp only [go_sem, Nat.reduceAdd, Nat.reduceSub, Nat.reduceMul, Nat.reduceLT, Nat.reduceLeDiff, ↓reduceIte, reduceCtorEq, Nat.reduceEqDiff, Int.reduceToNat, Int.reduceLT, Int.reduceLE, Int.reduceEq, beq_self_eq_true, List.length_nil, Nat.zero_add, List.nil_append, Heap.var]
      simp only [List.length_nil, Nat.zero_add] at h1
      refine ⟨_, rfl, .inr ⟨0, N, l.map meD ++ List.replicate (N - l.length) (CT.zero 55), by simp, rfl, by simp at h1 ⊢; omega, h1, h2, by simp, ?_⟩⟩
      intro N' s' L' hm
      simp only [List.mem_singleton, Prod.mk.injEq, D.agg.injEq] at hm
      obtain ⟨_, rfl⟩ := hm
      exact pureL_app (pure_me l) (pure_rep _ _ (by simp [zero55, pureD, pureL]))
theorem sl_at_me {l : List MemberR} {L : List D} (h : L.take l.length = l.map meD) {k : Nat} (hk : k < l.length) : L[k]? = some (meD (l.getD k default)) := by
  have h1 : (L.take l.length)[k]? = L[k]? := by rw [List.getElem?_take, if_pos hk]
  rw [← h1, h]
  simp [hk]
theorem take_insAt_me {l : List MemberR} {x : MemberR} {i : Nat} (hi : i ≤ l.length) {L L' : List D} (hL : L.take l.length = l.map meD) (h1 : ∀ q, q < i → L'[q]? = L[q]?) (h2 : L'[i]? = some (meD x)) (h3 : ∀ q, i ≤ q → q < l.length → L'[q + 1]? = L[q]?) :
    L'.take (l.length + 1) = (insAt l i x).map meD := by
  have hLq : ∀ q, q < l.length → L[q]? = (l.map meD)[q]? := fun q hq => by rw [← hL, List.getElem?_take, if_pos hq]
  refine List.ext_getElem? fun q => ?_
  rw [List.getElem?_take]
  simp only [insAt, List.map_append, List.map_take, List.map_cons, List.map_drop]
  have hti : ((l.map meD).take i).length = i := by simp; omega
  by_cases hq : q < l.length + 1
  · rw [if_pos hq]
    rcases Nat.lt_trichotomy q i with h | h | h
    · rw [List.getElem?_append_left (by omega), List.getElem?_take, if_pos h, h1 q h, hLq q (by omega)]
    · subst h
      rw [List.getElem?_append_right (by omega), hti, Nat.sub_self, h2]; rfl
    · rw [List.getElem?_append_right (by omega), hti]
      obtain ⟨q', rfl⟩ : ∃ q', q = q' + 1 := ⟨q - 1, by omega⟩
      rw [show q' + 1 - i = (q' - i) + 1 by omega, List.getElem?_cons_succ, List.getElem?_drop, h3 q' (by omega) (by omega), hLq q' (by omega)]
      congr 1; omega
  · rw [if_neg hq, List.getElem?_eq_none]
    simp; omega
end Go.Ab
