/- Views: all of some, and a few. Conditions: none. -/
import Derived.Test.YtgliaanopmlmfaaViD
set_option linter.unusedSimpArgs false
namespace Go.Ab
open Go.Proofs

theorem slice_sl_hi_t (C : Tab) (t e : TypeId) (b lo n c : Nat) (k : IntKind) (i : Int) (ht : (C.ty t = .slice e) = True) (h0 : (0 ≤ i) = True) (h1 : (i.toNat ≤ c) = True) : sliceD C t (.sl e b lo n c) none (some (.lit (.int k i))) none = some (.sl e b lo i.toNat c) := by
  have ht := of_eq_true ht
  have h0 := of_eq_true h0
  have h1 := of_eq_true h1
  have h4 : max i 0 ≤ c := by omega
  simp [sliceD, ht, boundD, natOf, h0, h1, h4]
theorem cap_full_t (C : Tab) (h : Heap) (t e : TypeId) (ts : List TypeId) (l : List D) (ht : (C.ty t = .slice e) = True) : builtinD C h .cap (t :: ts) [.lst e l .full] = some (.int l.length) := by
  have ht := of_eq_true ht
  simp [builtinD, nrm, capD, ht]
attribute [go_sem] slice_sl_hi_t cap_full_t

theorem out_cat {k : Nat} {d : D} {base ex : List (Sh × D)} {l m : List Int} {K : St → Prop} {dst : Option Tmp} {ts : List D} {tk : List Bool} (t' : Tok) (ho : Out k d ex l) (hk : base.length = k) (hl : l.length + m.length < 1000000000)
    (h : ∀ d' ex', Out k d' ex' (l ++ m) → K (St.put ⟨ts, ⟨base ++ ex', tk⟩⟩ dst d')) : appK CT true K dst ts (base ++ ex) tk (.slice 3) d (.lst 3 (m.map fun n => .lit (.int .i64 n)) t') := by
  have hby : CT.bytes 3 = 8 := rfl
  by_cases hm0 : m = []
  · subst hm0
    have hh := h d ex (by simpa using ho)
    rcases ho with ⟨rfl, rfl, rfl⟩ | ⟨j, N, L, rfl, hj, hL, hlN, hN, htk, hpu⟩
    · exact appK_mut K dst ts 3 _ tk _ _ ⟨[], [], rfl, rfl, by rw [hby]; omega, by rw [hby]; simp, trivial, fun _ => by simpa using hh, (by intro b lo n c N s L h; cases h), fun _ h => absurd rfl h⟩
    · have hbx : (base ++ ex)[k + j]? = some (.arr N .leaf, .agg L) := by rw [List.getElem?_append_right (by omega), hk, Nat.add_sub_cancel_left]; exact hj
      exact appK_mut K dst ts 3 _ tk _ _ ⟨l.map fun n => .lit (.int .i64 n), [], by simp only [rowOf, hbx, List.drop_zero, htk], rfl, by rw [hby]; omega, by rw [hby]; simp; omega, trivial, fun _ => hh, fun _ _ _ _ _ _ _ _ h => absurd rfl h, fun _ h => absurd rfl h⟩
  have hmm : (m.map fun n => D.lit (.int .i64 n)) ≠ [] := by simpa using hm0
  rcases ho with ⟨rfl, rfl, rfl⟩ | ⟨j, N, L, rfl, hj, hL, hlN, hN, htk, hpu⟩
  · refine appK_mut K dst ts 3 _ tk _ _ ⟨[], m.map fun n => .lit (.int .i64 n), rfl, rfl, by rw [hby]; omega, by rw [hby]; simp at hl ⊢; omega, trivial, fun h => absurd h hmm, (by intro b lo n c N s L h; cases h), fun _ _ N h1 h2 => ?_⟩
    simp only [List.length_nil, Nat.zero_add, List.length_map] at h1
    have := h (.sl 3 (k + 0) 0 ([] ++ m).length N) [(.arr N .leaf, .agg ((m.map fun n => .lit (.int .i64 n)) ++ List.replicate (N - m.length) (.lit (.int .i64 0))))] (.inr ⟨0, N, _, rfl, rfl, by simp; omega, by simpa using h1, h2, by simp, by
      intro N' s' L' hm
      simp only [List.mem_singleton, Prod.mk.injEq, D.agg.injEq] at hm
      obtain ⟨_, rfl⟩ := hm
      exact pureL_app (pure_ints _) (pure_reps _)⟩)
    subst hk
    simpa [Heap.var, zero_int, sh_int] using this
  · have hjl : j < ex.length := (List.getElem?_eq_some_iff.1 hj).1
    have hbx : (base ++ ex)[k + j]? = some (.arr N .leaf, .agg L) := by rw [List.getElem?_append_right (by omega), hk, Nat.add_sub_cancel_left]; exact hj
    have hset : ∀ y, (base ++ ex).set (k + j) y = base ++ ex.set j y := fun y => by rw [List.set_append_right _ _ (by omega), hk, Nat.add_sub_cancel_left]
    have hpL : pureL L := hpu _ _ _ (List.mem_of_getElem? hj)
    refine appK_mut K dst ts 3 _ tk _ _ ⟨l.map fun n => .lit (.int .i64 n), m.map fun n => .lit (.int .i64 n), ?_, rfl, by rw [hby]; omega, by rw [hby]; simp; omega, trivial, fun h => absurd h hmm, ?_, ?_⟩
    · simp only [rowOf, hbx, List.drop_zero, htk]
    · intro b1 lo1 n1 c1 N1 s1 L1 h1 _ h2 h3
      cases h1
      simp only at h3
      rw [hbx] at h3; cases h3
      have e1 : l.length + m.length ≤ L.length := by rw [hL]; simpa using h2
      have := h (.sl 3 (k + j) 0 (l ++ m).length N) (ex.set j (.arr N .leaf, .agg (overL L l.length (m.map fun n => .lit (.int .i64 n))))) (.inr ⟨j, N, _, rfl, List.getElem?_set_self hjl, by simp [overL]; omega, by simpa using (by simpa using h2 : l.length + m.length ≤ N), hN, ?_, ?_⟩)
      · simpa [hset] using this
      · rw [List.length_append]
        have := overL_take (L := L) (m := m.map fun n => .lit (.int .i64 n)) (n := l.length) (by simpa using e1)
        simp only [List.length_map] at this
        rw [this, htk]; simp
      · intro N' s' L' hm
        rcases List.mem_or_eq_of_mem_set hm with h' | h'
        · exact hpu _ _ _ h'
        · simp only [Prod.mk.injEq, D.agg.injEq] at h'
          obtain ⟨_, rfl⟩ := h'
          exact pureL_app (pureL_app (pureL_take _ hpL) (pure_ints _)) (pureL_drop _ hpL)
    · intro h1 _ N' h2 h3
      simp only [List.length_map] at h2
      have := h (.sl 3 (k + ex.length) 0 (l ++ m).length N') (ex ++ [(.arr N' .leaf, .agg ((l ++ m).map (fun n => .lit (.int .i64 n)) ++ List.replicate (N' - (l.length + m.length)) (.lit (.int .i64 0))))]) (.inr ⟨ex.length, N', (l ++ m).map (fun n => .lit (.int .i64 n)) ++ List.replicate (N' - (l.length + m.length)) (.lit (.int .i64 0)), rfl, by simp, by simp; omega, by simpa using h2, h3, by rw [List.take_append_of_le_length (by simp), List.take_of_length_le (by simp)], ?_⟩)
      · subst hk
        simpa [Heap.var, zero_int, sh_int] using this
      · intro N' s' L' hm
        rcases List.mem_append.1 hm with h' | h'
        · exact hpu _ _ _ h'
        · simp only [List.mem_singleton, Prod.mk.injEq, D.agg.injEq] at h'
          obtain ⟨_, rfl⟩ := h'
          exact pureL_app (pure_ints _) (pure_reps _)

/-- A function's end, whatever is left in memory. -/
def endA (C : Tab) (rs : List ResultVar) (R : D → Heap → Prop) : AExit → St → Prop := fun e s => match e with | .exit _ => False | _ => ∃ r, resultsD C s rs = some r ∧ R r s.heap
def endB (x : Option D) (R : D → Heap → Prop) (h : Heap) : Prop := ∃ r, x = some r ∧ R r h
section
variable {P : Program} {C : Tab}
theorem endA_ret (rs : List ResultVar) (R : D → Heap → Prop) (ts : List D) (h : Heap) : endA C rs R .ret ⟨ts, h⟩ = endB (resultsD C ⟨ts, h⟩ rs) R h := Eq.trans rfl rfl
theorem endA_normal (rs : List ResultVar) (R : D → Heap → Prop) (ts : List D) (h : Heap) : endA C rs R .normal ⟨ts, h⟩ = endB (resultsD C ⟨ts, h⟩ rs) R h := Eq.trans rfl rfl
theorem endB_some (d : D) (R : D → Heap → Prop) (h : Heap) : endB (some d) R h = R d h := by simp [endB]
theorem ASpec.of (hT : TabOk P C) {f : FuncId} {fn : Func} {c : Code} {args : List D} {h : Heap} {R : D → Heap → Prop} (hf : P.funcs[f]? = some fn) (hb : fn.body = some c) (hn : (fn.name == "runtime.NumGoroutine") = false) {rs : List ResultVar} (hrs : fn.results.toList = rs) {n : Nat}
    (hnt : fn.ntmps - args.length = n) (hw : awp P C c (endA C rs R) ⟨args ++ List.replicate n (.lit undef), h⟩) : ASpec P C f args h R := by
  subst hrs; subst hnt
  refine ⟨⟨fn, hf, by rw [hb]; rfl, hn⟩, ?_⟩
  intro ρ w vs hr hv
  refine calls_of_wp hf hb ?_
  have hlen : vs.size = args.length := by rw [← Array.length_toList]; exact hv.1
  have h0 : Rl C ρ ⟨args ++ List.replicate (fn.ntmps - args.length) (.lit undef), h⟩ { tmps := vs ++ Array.replicate (fn.ntmps - vs.size) undef, defers := [] } w := by
    refine ⟨hr, ?_, rfl⟩
    simp only [Array.toList_append, Array.toList_replicate, hlen]
    refine hv.append ⟨by simp, ?_⟩
    intro i c d hc hd
    rw [List.getElem?_replicate] at hc hd
    split at hc
    · rename_i hi; rw [if_pos hi] at hd; cases hc; cases hd; exact .lit _
    · cases hc
  have fin : ∀ (s' : St) (a' : Act) (w' : World) (ρ' : Env), Ext ρ w ρ' w' → Rl C ρ' s' a' w' → (∃ r, resultsD C s' fn.results.toList = some r ∧ R r s'.heap) →
      a'.defers = [] ∧ ∃ v, (results fn a'.tmps).run P w' = .ok v w' ∧ ∃ v' r h' ρ', Ending.returned v = .returned v' ∧ Ext ρ w ρ' w' ∧ Real C.sh ρ' h' w' ∧ VV C.sh ρ' v' r ∧ R r h' := by
    rintro s' a' w' ρ' k1 k2 ⟨r, hres, hR⟩
    obtain ⟨v, hv, hvd⟩ := results_sound hT k2 hres
    exact ⟨k2.defers, v, hv, v, r, _, ρ', rfl, k1, k2.real, hvd, hR⟩
  refine awp_sound hT h0 hw ?_
  intro e ρ' s' a' w' k1 k2 k3
  cases e with
  | normal => exact fin s' a' w' ρ' k1 k2 k3
  | ret => exact fin s' a' w' ρ' k1 k2 k3
  | exit i => exact k3.elim
end
attribute [go_sem] endA_ret endA_normal endB_some

theorem slices_grow (m : Nat) (hm : m < 1000000000) (bs : List (Sh × D)) (tk : List Bool) : ASpec Try.prog CT 124 [.lst 3 [] .full, .lit (.int .i64 m)] ⟨bs, tk⟩ fun r h' => ∃ ex, h' = ⟨bs ++ ex, tk⟩ ∧ Out bs.length r ex [] := by
  refine ASpec.of hT Try.func124 rfl (by kernel_rfl) rfl rfl ?_
  simp only [Try.f124, go_sem, Nat.reduceAdd, Nat.reduceSub, Nat.reduceMul, Nat.reduceLT, Nat.reduceLeDiff, ↓reduceIte, reduceCtorEq, Nat.reduceEqDiff, Int.reduceToNat, Int.reduceLT, Int.reduceLE, Int.reduceEq, beq_self_eq_true]
  refine condK_split (fun h => absurd (of_decide_eq_true h) (by omega)) (fun _ => ?_)
  have w0 : IntKind.i64.wrap ((m : Int) - IntKind.i64.wrap (((0 : Nat) : Int) - ((0 : Nat) : Int))) = (m : Int) := by
    rw [show IntKind.i64.wrap (((0 : Nat) : Int) - ((0 : Nat) : Int)) = 0 from by decide, wrap64] <;> omega
  simp only [go_sem, Nat.reduceAdd, Nat.reduceSub, Nat.reduceMul, Nat.reduceLT, Nat.reduceLeDiff, ↓reduceIte, reduceCtorEq, Nat.reduceEqDiff, Int.reduceToNat, Int.reduceLT, Int.reduceLE, Int.reduceEq, beq_self_eq_true, w0]
  refine condK_split (fun h => ?_) (fun h => ?_)
  · have h0 : 0 < m := by have := of_decide_eq_true h; omega
    simp only [go_sem, Nat.reduceAdd, Nat.reduceSub, Nat.reduceMul, Nat.reduceLT, Nat.reduceLeDiff, ↓reduceIte, reduceCtorEq, Nat.reduceEqDiff, Int.reduceToNat, Int.reduceLT, Int.reduceLE, Int.reduceEq, beq_self_eq_true]
    apply aop_growth
    refine ⟨3, .i64, rfl, rfl, .i64, m, rfl, rfl, h0, by rw [show CT.bytes 3 = 8 from rfl]; omega, by rw [show CT.bytes 3 = 8 from rfl]; omega, fun N h1 h2 => ?_⟩
    simp only [go_sem, Nat.reduceAdd, Nat.reduceSub, Nat.reduceMul, Nat.reduceLT, Nat.reduceLeDiff, ↓reduceIte, reduceCtorEq, Nat.reduceEqDiff, Int.reduceToNat, Int.reduceLT, Int.reduceLE, Int.reduceEq, beq_self_eq_true, Nat.zero_le]
    refine ⟨[(.arr N .leaf, .agg (List.replicate N (.lit (.int .i64 0))))], rfl, .inr ⟨0, N, List.replicate N (.lit (.int .i64 0)), rfl, rfl, by simp, by simp, h2, by simp, ?_⟩⟩
    intro N' s' L' hm
    simp only [List.mem_singleton, Prod.mk.injEq, D.agg.injEq] at hm
    obtain ⟨_, rfl⟩ := hm
    exact pure_reps _
  · have h0 : m = 0 := by have := of_decide_eq_false h; omega
    simp only [go_sem, Nat.reduceAdd, Nat.reduceSub, Nat.reduceMul, Nat.reduceLT, Nat.reduceLeDiff, ↓reduceIte, reduceCtorEq, Nat.reduceEqDiff, Int.reduceToNat, Int.reduceLT, Int.reduceLE, Int.reduceEq, beq_self_eq_true]
    exact ⟨[], by simp, .inl ⟨rfl, rfl, rfl⟩⟩

theorem get_ll (L : List (List Int)) (k : Nat) (h : (k < L.length) = True) : (L.map fun l => intsL l .no)[k]? = some (intsL (L.getD k []) .no) := by
  have h := of_eq_true h
  simp [h]
theorem flatten_snoc (L : List (List Int)) (k : Nat) (h : k < L.length) : (L.take (k + 1)).flatten = (L.take k).flatten ++ L.getD k [] := by
  have e : L.take (k + 1) = L.take k ++ [L[k]] := by rw [List.take_add_one, List.getElem?_eq_getElem h]; rfl
  rw [e, List.getD_eq_getElem?_getD, List.getElem?_eq_getElem h, List.flatten_append]; simp only [List.flatten_cons, List.flatten_nil, List.append_nil, Option.getD_some]
theorem flatten_le (L : List (List Int)) (k : Nat) : (L.take k).flatten.length ≤ L.flatten.length := by
  have := congrArg (fun l : List (List Int) => l.flatten.length) (List.take_append_drop k L)
  simp only [List.flatten_append, List.length_append] at this
  omega
set_option maxRecDepth 8000 in
theorem slices_concat (L : List (List Int)) (hL : L.length ≤ 1000) (hl : L.flatten.length < 100000000) (bs : List (Sh × D)) (tk : List Bool) : ASpec Try.prog CT 92 [.lst 22 (L.map fun l => intsL l .no) .full] ⟨bs, tk⟩ fun r h' => ∃ ex, h' = ⟨bs ++ ex, tk⟩ ∧ Out bs.length r ex L.flatten := by
  refine ASpec.of hT Try.func92 rfl (by kernel_rfl) rfl rfl ?_
  simp only [Try.f92, go_sem, Nat.reduceAdd, Nat.reduceSub, Nat.reduceMul, Nat.reduceLT, Nat.reduceLeDiff, ↓reduceIte, reduceCtorEq, Nat.reduceEqDiff, Int.reduceToNat, Int.reduceLT, Int.reduceLE, Int.reduceEq, beq_self_eq_true]
  refine awp_loop (fun n s => ∃ (k : Nat) (g : Nat → D), s = ⟨[.lst 22 (L.map fun l => intsL l .no) .full, g 1, g 2, .lit (.int .i64 ((L.take k).flatten.length : Nat)), g 4, g 5, g 6, g 7, g 8, .lst 22 (L.map fun l => intsL l .no) .full, .lit (.int .i64 L.length), .lit (.int .i64 k), g 12, g 13, g 14, g 15, g 16, g 17, g 18, g 19, g 20, g 21, g 22, g 23, g 24, g 25, g 26, g 27, g 28, g 29, g 30, g 31, g 32, g 33, g 34, g 35], ⟨bs, tk⟩⟩ ∧ n = L.length - k ∧ k ≤ L.length) L.length ⟨0, reg_intro rfl rfl ⟨by simp, by omega⟩⟩ ?_
  rintro n s ⟨k, g, rfl, hn, hk⟩
  simp only [go_sem, Nat.reduceAdd, Nat.reduceSub, Nat.reduceMul, Nat.reduceLT, Nat.reduceLeDiff, ↓reduceIte, reduceCtorEq, Nat.reduceEqDiff, Int.reduceToNat, Int.reduceLT, Int.reduceLE, Int.reduceEq, beq_self_eq_true]
  refine condK_split (fun hc => ?_) (fun hc => ?_)
  · have hk' : k < L.length := by have := of_decide_eq_true hc; omega
    have hs := congrArg List.length (flatten_snoc L k hk')
    rw [List.length_append] at hs
    have hle := flatten_le L (k + 1)
    have hw : IntKind.i64.wrap (((L.take k).flatten.length : Nat) + ((L.getD k []).length : Int)) = (((L.take (k + 1)).flatten.length : Nat) : Int) := by rw [wrap64, hs] <;> omega
    simp only [go_sem, Nat.reduceAdd, Nat.reduceSub, Nat.reduceMul, Nat.reduceLT, Nat.reduceLeDiff, ↓reduceIte, reduceCtorEq, Nat.reduceEqDiff, Int.reduceToNat, Int.reduceLT, Int.reduceLE, Int.reduceEq, beq_self_eq_true, hk', get_ll, hw]
    refine condK_split (fun h => absurd (of_decide_eq_true h) (by omega)) (fun _ => ?_)
    simp only [go_sem, Nat.reduceAdd, Nat.reduceSub, Nat.reduceMul, Nat.reduceLT, Nat.reduceLeDiff, ↓reduceIte, reduceCtorEq, Nat.reduceEqDiff, Int.reduceToNat, Int.reduceLT, Int.reduceLE, Int.reduceEq, beq_self_eq_true, wrapNat k (by omega)]
    exact ⟨L.length - (k + 1), by omega, k + 1, reg_intro rfl rfl ⟨rfl, by omega⟩⟩
  · have hi := of_decide_eq_false hc
    obtain rfl : k = L.length := by omega
    simp only [go_sem, Nat.reduceAdd, Nat.reduceSub, Nat.reduceMul, Nat.reduceLT, Nat.reduceLeDiff, ↓reduceIte, reduceCtorEq, Nat.reduceEqDiff, Int.reduceToNat, Int.reduceLT, Int.reduceLE, Int.reduceEq, beq_self_eq_true, List.take_length]
    refine ⟨_, slices_grow L.flatten.length (by omega) bs tk, ?_⟩
    rintro r h' ⟨ex, rfl, ho⟩
    simp only [go_sem, Nat.reduceAdd, Nat.reduceSub, Nat.reduceMul, Nat.reduceLT, Nat.reduceLeDiff, ↓reduceIte, reduceCtorEq, Nat.reduceEqDiff, Int.reduceToNat, Int.reduceLT, Int.reduceLE, Int.reduceEq, beq_self_eq_true, out_nrm ho]
    clear hn hk hc hi
    refine awp_loop (fun n s => ∃ (k : Nat) (d : D) (ex : List (Sh × D)) (g : Nat → D), s = ⟨[g 0, g 1, g 2, g 3, g 4, g 5, d, g 7, g 8, g 9, g 10, g 11, g 12, g 13, g 14, g 15, g 16, g 17, g 18, g 19, g 20, g 21, g 22, g 23, g 24, .lst 22 (L.map fun l => intsL l .no) .full, .lit (.int .i64 L.length), .lit (.int .i64 k), g 28, g 29, g 30, g 31, g 32, g 33, g 34, g 35], ⟨bs ++ ex, tk⟩⟩ ∧ n = L.length - k ∧ k ≤ L.length ∧ Out bs.length d ex (L.take k).flatten) L.length ⟨0, r, ex, reg_intro rfl rfl ⟨by simp, by omega, ho⟩⟩ ?_
    clear ho
    rintro n s ⟨k, d, ex, g, rfl, hn, hk, ho⟩
    simp only [go_sem, Nat.reduceAdd, Nat.reduceSub, Nat.reduceMul, Nat.reduceLT, Nat.reduceLeDiff, ↓reduceIte, reduceCtorEq, Nat.reduceEqDiff, Int.reduceToNat, Int.reduceLT, Int.reduceLE, Int.reduceEq, beq_self_eq_true]
    refine condK_split (fun hc => ?_) (fun hc => ?_)
    · have hk' : k < L.length := by have := of_decide_eq_true hc; omega
      have hs := flatten_snoc L k hk'
      have hle := flatten_le L (k + 1)
      rw [hs, List.length_append] at hle
      simp only [go_sem, Nat.reduceAdd, Nat.reduceSub, Nat.reduceMul, Nat.reduceLT, Nat.reduceLeDiff, ↓reduceIte, reduceCtorEq, Nat.reduceEqDiff, Int.reduceToNat, Int.reduceLT, Int.reduceLE, Int.reduceEq, beq_self_eq_true, hk', get_ll, out_nrm ho]
      refine out_cat .no ho rfl (by omega) fun d' ex' ho' => ?_
      simp only [go_sem, Nat.reduceAdd, Nat.reduceSub, Nat.reduceMul, Nat.reduceLT, Nat.reduceLeDiff, ↓reduceIte, reduceCtorEq, Nat.reduceEqDiff, Int.reduceToNat, Int.reduceLT, Int.reduceLE, Int.reduceEq, beq_self_eq_true, out_nrm ho', wrapNat k (by omega)]
      exact ⟨L.length - (k + 1), by omega, k + 1, d', ex', reg_intro rfl rfl ⟨rfl, by omega, by rw [hs]; exact ho'⟩⟩
    · have hi := of_decide_eq_false hc
      obtain rfl : k = L.length := by omega
      rw [List.take_length] at ho
      simp only [go_sem, Nat.reduceAdd, Nat.reduceSub, Nat.reduceMul, Nat.reduceLT, Nat.reduceLeDiff, ↓reduceIte, reduceCtorEq, Nat.reduceEqDiff, Int.reduceToNat, Int.reduceLT, Int.reduceLE, Int.reduceEq, beq_self_eq_true, out_nrm ho]
      exact ⟨_, rfl, ho⟩
end Go.Ab
