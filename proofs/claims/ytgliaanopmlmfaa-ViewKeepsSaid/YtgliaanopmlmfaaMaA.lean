/- Functions that make and read sets of numbers kept as maps. Conditions: none. -/
import Derived.Test.YtgliaanopmlmfaaSoA
import Derived.Test.YtgliaanopmlmfaaRoB
set_option linter.unusedSimpArgs false
namespace Go.Ab
open Go.Proofs
section
variable {C : Tab}
/-- A function's end, where something is left in memory. -/
def finH (x : Option D) (bs : List (Sh × D)) (tk : List Bool) (R : D → List (Sh × D) → Prop) (bs' : List (Sh × D)) (tk' : List Bool) : Prop :=
  ∃ r keep ex exk, x = some r ∧ bs' = keep ++ ex ∧ tk' = tk ++ exk ∧ bs.length ≤ keep.length ∧
    (∀ (j : Nat) (x : Sh × D), keep[j]? = some x → x.1 = .obj 0 ∨ lowD keep.length tk.length x.2 ∨ bs[j]? = some x) ∧
    (∀ (b N : Nat) (s' : Sh) (L : List D), keep.length ≤ b → (keep ++ ex)[b]? = some (.arr N s', .agg L) → pureL L) ∧
    lowD keep.length tk.length (meltD (keep ++ ex) keep.length r) ∧ R (meltD (keep ++ ex) keep.length r) keep
theorem endH_ret (rs : List ResultVar) (bs : List (Sh × D)) (tk : List Bool) (R : D → List (Sh × D) → Prop) (ts : List D) (bs' : List (Sh × D)) (tk' : List Bool) : endH C rs bs tk R .ret ⟨ts, ⟨bs', tk'⟩⟩ = finH (resultsD C ⟨ts, ⟨bs', tk'⟩⟩ rs) bs tk R bs' tk' := Eq.trans rfl rfl
theorem endH_normal (rs : List ResultVar) (bs : List (Sh × D)) (tk : List Bool) (R : D → List (Sh × D) → Prop) (ts : List D) (bs' : List (Sh × D)) (tk' : List Bool) : endH C rs bs tk R .normal ⟨ts, ⟨bs', tk'⟩⟩ = finH (resultsD C ⟨ts, ⟨bs', tk'⟩⟩ rs) bs tk R bs' tk' := Eq.trans rfl rfl
attribute [go_sem] endH_ret endH_normal
/-- Nothing is dropped. -/
theorem finH_keep {r : D} {bs bs' : List (Sh × D)} {tk : List Bool} {R : D → List (Sh × D) → Prop} (h1 : bs.length ≤ bs'.length) (h2 : ∀ (j : Nat) (x : Sh × D), bs'[j]? = some x → x.1 = .obj 0 ∨ lowD bs'.length tk.length x.2 ∨ bs[j]? = some x)
    (h4 : lowD bs'.length tk.length (meltD bs' bs'.length r)) (h5 : R (meltD bs' bs'.length r) bs') : finH (some r) bs tk R bs' tk :=
  ⟨r, bs', [], [], rfl, by simp, by simp, h1, h2, (by intro b N s L hb h; rw [List.append_nil, List.getElem?_eq_none (by omega)] at h; cases h), by simpa using h4, by simpa using h5⟩
/-- What is new is dropped. -/
theorem finH_drop {r : D} {bs ex : List (Sh × D)} {tk : List Bool} {R : D → List (Sh × D) → Prop} (h3 : ∀ (N : Nat) (s' : Sh) (L : List D), (Sh.arr N s', D.agg L) ∈ ex → pureL L)
    (h4 : lowD bs.length tk.length (meltD (bs ++ ex) bs.length r)) (h5 : R (meltD (bs ++ ex) bs.length r) bs) (exk : List Bool) : finH (some r) bs tk R (bs ++ ex) (tk ++ exk) :=
  ⟨r, bs, ex, exk, rfl, rfl, rfl, Nat.le_refl _, fun _ _ h => .inr (.inr h), by
    intro b N s L hb h
    rw [List.getElem?_append_right hb] at h
    exact h3 N s L (List.mem_of_getElem? h), h4, h5⟩
end

theorem isMap_ok {C : Tab} {t k e : TypeId} (h : C.ty t = .map k e) : isMap C t := by simp [isMap, h]
theorem get_last' (bs : List (Sh × D)) (x : Sh × D) : (bs ++ [x])[bs.length]? = some x := by simp
theorem set_last' (bs : List (Sh × D)) (x y : Sh × D) : (bs ++ [x]).set bs.length y = bs ++ [y] := by simp

/-- roster.opened -/
theorem roster_opened (l : List Int) (hl : l.length < 1000000000) (bs : List (Sh × D)) : HSpec Try.prog CT 75 [intsL l .no] bs fun r bs' => ∃ s g, r = .mref bs.length ∧ bs' = bs ++ [(.obj 1, setD s g)] ∧ s.Nodup ∧ ∀ n, n ∈ s ↔ n ∈ l := by
  refine HSpec.of hT Try.func75 rfl (by kernel_rfl) rfl rfl fun tk => ?_
  simp only [Try.f75, go_sem, Nat.reduceAdd, Nat.reduceSub, Nat.reduceMul, Nat.reduceLT, Nat.reduceLeDiff, ↓reduceIte, reduceCtorEq, Nat.reduceEqDiff, Int.reduceToNat, Int.reduceLT, Int.reduceLE, Int.reduceEq, beq_self_eq_true]
  refine ⟨isMap_ok rfl, ?_⟩
  refine awp_loop (fun m s => ∃ (k : Nat) (z : List Int) (c : Nat) (g : Nat → D), s = ⟨[intsL l .no, g 1, g 2, .mref bs.length, g 4, g 5, g 6, intsL l .no, .lit (.int .i64 l.length), .lit (.int .i64 k), g 10, g 11, g 12, g 13, g 14, g 15, g 16], ⟨bs ++ [(.obj 1, setD z c)], tk⟩⟩ ∧ m = l.length - k ∧ k ≤ l.length ∧ z.Nodup ∧ ∀ n, n ∈ z ↔ n ∈ l.take k) l.length ⟨0, [], 0, reg_intro rfl rfl ⟨by simp, by omega, by simp, by simp⟩⟩ ?_
  rintro m st ⟨k, z, c, g, rfl, hn, hk, hnd, hs⟩
  simp only [go_sem, Nat.reduceAdd, Nat.reduceSub, Nat.reduceMul, Nat.reduceLT, Nat.reduceLeDiff, ↓reduceIte, reduceCtorEq, Nat.reduceEqDiff, Int.reduceToNat, Int.reduceLT, Int.reduceLE, Int.reduceEq, beq_self_eq_true]
  refine condK_split (fun hc => ?_) (fun hc => ?_)
  · have hk' : k < l.length := by have := of_decide_eq_true hc; omega
    have hts := take_snoc l k hk'
    simp only [go_sem, Nat.reduceAdd, Nat.reduceSub, Nat.reduceMul, Nat.reduceLT, Nat.reduceLeDiff, ↓reduceIte, reduceCtorEq, Nat.reduceEqDiff, Int.reduceToNat, Int.reduceLT, Int.reduceLE, Int.reduceEq, beq_self_eq_true, hk']
    refine mapUpd_set rfl rfl (get_last' _ _) fun s' g' hsg => ?_
    simp only [go_sem, Nat.reduceAdd, Nat.reduceSub, Nat.reduceMul, Nat.reduceLT, Nat.reduceLeDiff, ↓reduceIte, reduceCtorEq, Nat.reduceEqDiff, Int.reduceToNat, Int.reduceLT, Int.reduceLE, Int.reduceEq, beq_self_eq_true, set_last', wrapNat k (by omega)]
    refine ⟨l.length - (k + 1), by omega, k + 1, s', g', reg_intro rfl rfl ⟨rfl, by omega, ?_⟩⟩
    rcases hsg with ⟨h1, rfl, rfl⟩ | ⟨h1, rfl, rfl⟩
    · refine ⟨hnd, fun n => ?_⟩
      rw [hts, List.mem_append, ← hs n, List.mem_singleton]
      exact ⟨.inl, fun h => h.elim id fun e => e ▸ h1⟩
    · refine ⟨List.nodup_append.2 ⟨hnd, by simp, fun a ha b hb => by rw [List.mem_singleton] at hb; subst hb; rintro rfl; exact h1 ha⟩, fun n => ?_⟩
      rw [hts, List.mem_append, List.mem_append, ← hs n]
  · have hi := of_decide_eq_false hc
    obtain rfl : k = l.length := by omega
    rw [List.take_of_length_le (Nat.le_refl _)] at hs
    simp only [go_sem, Nat.reduceAdd, Nat.reduceSub, Nat.reduceMul, Nat.reduceLT, Nat.reduceLeDiff, ↓reduceIte, reduceCtorEq, Nat.reduceEqDiff, Int.reduceToNat, Int.reduceLT, Int.reduceLE, Int.reduceEq, beq_self_eq_true]
    refine finH_keep (by simp) ?_ ?_ ?_
    · intro j x hx
      by_cases hj : j < bs.length
      · rw [List.getElem?_append_left hj] at hx; exact .inr (.inr hx)
      · right; left
        rw [List.getElem?_append_right (by omega)] at hx
        have : j - bs.length = 0 := by
          have := (List.getElem?_eq_some_iff.1 hx).1
          simp at this; omega
        rw [this] at hx; cases hx
        simp only [setD, lowD, lowL_iff]
        intro y hy
        obtain ⟨_, _, rfl⟩ := List.mem_map.1 hy
        trivial
    · simp [meltD, lowD]
    · exact ⟨z, c, by simp [meltD], rfl, hnd, hs⟩
end Go.Ab
