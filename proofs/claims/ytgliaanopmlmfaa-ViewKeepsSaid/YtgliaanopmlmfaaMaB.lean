/- Functions that go through sets of numbers kept as maps: what is dropped from one; a set's numbers, rising. Conditions: none. -/
import Derived.Test.YtgliaanopmlmfaaMaA
set_option linter.unusedSimpArgs false
namespace Go.Ab
open Go.Proofs
section
variable {P : Program} {C : Tab}
/-- A call of what a slot holds. -/
def callT (P : Program) (C : Tab) (d : D) (args : List D) (o : Oper) (K : St → Prop) (dst : Option Tmp) (ts : List D) (h : Heap) : Prop :=
  match d with
  | .fn (.func f) caps => callK P C f (args ++ caps) K dst ts h
  | _ => aop P C o K ⟨ts, h⟩
theorem aop_callt (K : St → Prop) (dst : Option Tmp) (ty : TypeId) (pos : String) (after : Array Edge) (g : Option (Nat × Bool)) (ts : List D) (h : Heap) (t : Tmp) (args : Array Operand) (at_ : Array TypeId) :
    aop P C ⟨dst, .call { callee := .value (.tmp t), args := args, argTypes := at_ }, ty, pos, after, g⟩ K ⟨ts, h⟩ =
    callT P C (ts.getD t (.lit undef)) (argsD C (St.ev ⟨ts, h⟩) args.toList at_.toList) ⟨dst, .call { callee := .value (.tmp t), args := args, argTypes := at_ }, ty, pos, after, g⟩ K dst ts h := by
  unfold callT
  split
  · rename_i f caps hd
    have hc : calleeOf C ⟨dst, .call { callee := .value (.tmp t), args := args, argTypes := at_ }, ty, pos, after, g⟩ ⟨ts, h⟩ = some (f, argsD C (St.ev ⟨ts, h⟩) args.toList at_.toList ++ caps) := by
      have he : St.ev ⟨ts, h⟩ (.tmp t) = .fn (.func f) caps := hd
      simp only [calleeOf, he]
    simp only [aop, hc, callK]
  · rfl
theorem callT_fn (f : FuncId) (caps : List D) (args : List D) (o : Oper) (K : St → Prop) (dst : Option Tmp) (ts : List D) (h : Heap) : callT P C (.fn (.func f) caps) args o K dst ts h = callK P C f (args ++ caps) K dst ts h := Eq.trans rfl rfl
attribute [go_sem] aop_callt callT_fn
theorem callK_h {g : FuncId} {args : List D} {bs : List (Sh × D)} {tk : List Bool} {R : D → List (Sh × D) → Prop} {K : St → Prop} {dst : Option Tmp} {ts : List D} (hs : HSpec P C g args bs R) (hk : ∀ r bs', R r bs' → K (St.put ⟨ts, ⟨bs', tk⟩⟩ dst r)) : callK P C g args K dst ts ⟨bs, tk⟩ :=
  ⟨_, hs tk, by rintro r h' ⟨bs', rfl, hr⟩; exact hk r bs' hr⟩
end

/-- How many are still to come. -/
def togo (s l : List Int) : Nat := (s.filter fun n => !decide (n ∈ l)).length
theorem togo_lt {s l : List Int} {n : Int} (h1 : n ∈ s) (h2 : n ∉ l) : togo s (l ++ [n]) < togo s l := by
  unfold togo
  induction s with
  | nil => cases h1
  | cons x r ih =>
    have key : ∀ r : List Int, (r.filter fun m => !decide (m ∈ l ++ [n])).length ≤ (r.filter fun m => !decide (m ∈ l)).length := by
      intro r
      induction r with
      | nil => simp
      | cons y r ih =>
        simp only [List.filter_cons]
        by_cases h : y ∈ l
        · simp [h]; simpa using ih
        · by_cases h' : y = n
          · subst h'; simp [h]; have := ih; simp at this; omega
          · simp [h, h']; simpa using ih
    simp only [List.filter_cons]
    by_cases hx : x = n
    · subst hx
      have := key r
      simp [h2] at this ⊢
      omega
    · have h3 : n ∈ r := by rcases List.mem_cons.1 h1 with h | h; exact absurd h.symm hx; exact h
      have := ih h3
      by_cases h : x ∈ l
      · simp [h]; simpa using this
      · simp [h, hx]; simpa using this
theorem togo_nil (s : List Int) : togo s [] = s.length := by simp [togo]

theorem live_fn (i m : Nat) (n : Int) (b : Bool) (s : List Int) (g : Nat) (bs : List (Sh × D)) (hi : bs[i]? = some (.leaf, .mref m)) (hm : bs[m]? = some (.obj 1, setD s g)) :
    HSpec Try.prog CT 77 [.lit (.int .i64 n), .lit (.bool b), .ptr i []] bs fun r bs' => r = .lit (.bool (decide (n ∈ s))) ∧ bs' = bs := by
  refine HSpec.of hT Try.func77 rfl (by kernel_rfl) rfl rfl fun tk => ?_
  simp only [Try.f77, go_sem, Nat.reduceAdd, Nat.reduceSub, Nat.reduceMul, Nat.reduceLT, Nat.reduceLeDiff, ↓reduceIte, reduceCtorEq, Nat.reduceEqDiff, Int.reduceToNat, Int.reduceLT, Int.reduceLE, Int.reduceEq, beq_self_eq_true, hi, lookup_set (C := CT) (t := 90) n rfl rfl rfl hm]
  have e := finH_drop (ex := []) (bs := bs) (tk := tk) (r := .lit (.bool (decide (n ∈ s)))) (R := fun r bs' => r = .lit (.bool (decide (n ∈ s))) ∧ bs' = bs) (by simp) (by simp [meltD, lowD]) ⟨by simp [meltD], rfl⟩ []
  simpa using e

theorem set_same {bs : List (Sh × D)} {m : Nat} {x : Sh × D} (h : bs[m]? = some x) : bs.set m x = bs := by
  apply List.ext_getElem?
  intro j
  rw [List.getElem?_set]
  split
  · rename_i e; subst e; rw [h]; simp [(List.getElem?_eq_some_iff.1 h).1]
  · rfl

set_option maxRecDepth 8000 in
/-- maps.DeleteFunc, of what is in another set. -/
theorem delete_live (i m m2 : Nat) (u s2 : List Int) (c0 g2 : Nat) (bs : List (Sh × D)) (hi : bs[i]? = some (.leaf, .mref m2)) (hm : bs[m]? = some (.obj 1, setD u c0)) (hm2 : bs[m2]? = some (.obj 1, setD s2 g2)) (hne : m ≠ m2) (hnd : u.Nodup) :
    HSpec Try.prog CT 76 [.mref m, .fn (.func 77) [.ptr i []]] bs fun r bs' => r = .tup [] ∧ ∃ s', bs' = bs.set m (.obj 1, setD s' c0) ∧ s'.Nodup ∧ ∀ n, n ∈ s' ↔ n ∈ u ∧ n ∉ s2 := by
  have hmi : m ≠ i := by rintro rfl; rw [hm] at hi; cases hi
  have hml : m < bs.length := (List.getElem?_eq_some_iff.1 hm).1
  have hil : i < bs.length := (List.getElem?_eq_some_iff.1 hi).1
  have hm2l : m2 < bs.length := (List.getElem?_eq_some_iff.1 hm2).1
  refine HSpec.of hT Try.func76 rfl (by kernel_rfl) rfl rfl fun tk => ?_
  simp only [Try.f76, go_sem, Nat.reduceAdd, Nat.reduceSub, Nat.reduceMul, Nat.reduceLT, Nat.reduceLeDiff, ↓reduceIte, reduceCtorEq, Nat.reduceEqDiff, Int.reduceToNat, Int.reduceLT, Int.reduceLE, Int.reduceEq, beq_self_eq_true]
  refine mapRange_set rfl rfl hm ?_
  simp only [go_sem, Nat.reduceAdd, Nat.reduceSub, Nat.reduceMul, Nat.reduceLT, Nat.reduceLeDiff, ↓reduceIte, reduceCtorEq, Nat.reduceEqDiff, Int.reduceToNat, Int.reduceLT, Int.reduceLE, Int.reduceEq, beq_self_eq_true]
  refine awp_loop (fun n s => ∃ (x : List (Sh × D)) (z l : List Int) (g : Nat → D), s = ⟨[.mref m, .fn (.func 77) [.ptr i []], g 2, g 3, g 4, g 5, g 6, .ptr bs.length [], g 8, g 9, g 10, g 11, g 12, g 13, g 14, g 15, g 16, g 17, g 18], ⟨x ++ [(.obj 2, .it m c0 (seenD l))], tk⟩⟩ ∧ n = togo u l ∧ x = bs.set m (.obj 1, setD z c0) ∧ z.Nodup ∧ ∀ n, n ∈ z ↔ n ∈ u ∧ ¬ (n ∈ l ∧ n ∈ s2)) (togo u []) ⟨bs, u, [], reg_intro rfl rfl ⟨rfl, (set_same hm).symm, hnd, by simp⟩⟩ ?_
  rintro q st ⟨x, z, l, g, rfl, hn, hx, hz, hzs⟩
  have hxl : x.length = bs.length := by rw [hx, List.length_set]
  have xm : ∀ y, (x ++ [y])[m]? = some (.obj 1, setD z c0) := fun y => by rw [List.getElem?_append_left (by omega), hx, List.getElem?_set_self hml]
  have xi : ∀ y, (x ++ [y])[i]? = some (.leaf, .mref m2) := fun y => by rw [List.getElem?_append_left (by omega), hx, List.getElem?_set_ne hmi]; exact hi
  have xm2 : ∀ y, (x ++ [y])[m2]? = some (.obj 1, setD s2 g2) := fun y => by rw [List.getElem?_append_left (by omega), hx, List.getElem?_set_ne hne]; exact hm2
  have xl : ∀ y, (x ++ [y])[bs.length]? = some y := fun y => by rw [← hxl]; simp
  have xs : ∀ y y', (x ++ [y]).set bs.length y' = x ++ [y'] := fun y y' => by rw [← hxl]; simp
  simp only [go_sem, Nat.reduceAdd, Nat.reduceSub, Nat.reduceMul, Nat.reduceLT, Nat.reduceLeDiff, ↓reduceIte, reduceCtorEq, Nat.reduceEqDiff, Int.reduceToNat, Int.reduceLT, Int.reduceLE, Int.reduceEq, beq_self_eq_true]
  refine next_set (xm _) (xl _) (fun n hn1 hn2 => ?_) (fun hall => ?_)
  · have hns : n ∈ u := ((hzs n).1 hn1).1
    simp only [go_sem, Nat.reduceAdd, Nat.reduceSub, Nat.reduceMul, Nat.reduceLT, Nat.reduceLeDiff, ↓reduceIte, reduceCtorEq, Nat.reduceEqDiff, Int.reduceToNat, Int.reduceLT, Int.reduceLE, Int.reduceEq, beq_self_eq_true, xs]
    simp only [go_sem, Nat.reduceAdd, Nat.reduceSub, Nat.reduceMul, Nat.reduceLT, Nat.reduceLeDiff, ↓reduceIte, reduceCtorEq, Nat.reduceEqDiff, Int.reduceToNat, Int.reduceLT, Int.reduceLE, Int.reduceEq, beq_self_eq_true, entry_set (n := n) (l := l) (xm _) (xl _) hn1]
    refine callK_h (live_fn i m2 n true s2 g2 _ (xi _) (xm2 _)) ?_
    rintro _ _ ⟨rfl, rfl⟩
    simp only [go_sem, Nat.reduceAdd, Nat.reduceSub, Nat.reduceMul, Nat.reduceLT, Nat.reduceLeDiff, ↓reduceIte, reduceCtorEq, Nat.reduceEqDiff, Int.reduceToNat, Int.reduceLT, Int.reduceLE, Int.reduceEq, beq_self_eq_true]
    refine condK_split (fun hc => ?_) (fun hc => ?_)
    · have hc := of_decide_eq_true hc
      simp only [go_sem, Nat.reduceAdd, Nat.reduceSub, Nat.reduceMul, Nat.reduceLT, Nat.reduceLeDiff, ↓reduceIte, reduceCtorEq, Nat.reduceEqDiff, Int.reduceToNat, Int.reduceLT, Int.reduceLE, Int.reduceEq, beq_self_eq_true]
      refine mapDel_set rfl rfl (xm _) ?_
      simp only [go_sem, Nat.reduceAdd, Nat.reduceSub, Nat.reduceMul, Nat.reduceLT, Nat.reduceLeDiff, ↓reduceIte, reduceCtorEq, Nat.reduceEqDiff, Int.reduceToNat, Int.reduceLT, Int.reduceLE, Int.reduceEq, beq_self_eq_true]
      have hset : (x ++ [((Sh.obj 2), D.it m c0 (seenD (l ++ [n])))]).set m (.obj 1, setD (z.erase n) c0) = x.set m (.obj 1, setD (z.erase n) c0) ++ [((Sh.obj 2), D.it m c0 (seenD (l ++ [n])))] := by rw [List.set_append_left _ _ (by omega)]
      rw [hset]
      refine ⟨togo u (l ++ [n]), by rw [hn]; exact togo_lt hns hn2, x.set m (.obj 1, setD (z.erase n) c0), z.erase n, l ++ [n], reg_intro rfl rfl ⟨rfl, by rw [hx, List.set_set], hz.erase n, fun y => ?_⟩⟩
      rw [hz.mem_erase_iff, hzs y, List.mem_append, List.mem_singleton]
      constructor
      · rintro ⟨h1, h2, h3⟩
        refine ⟨h2, fun h => h3 ⟨h.1.elim id fun e => absurd e h1, h.2⟩⟩
      · rintro ⟨h1, h2⟩
        refine ⟨fun e => h2 ⟨.inr e, e ▸ hc⟩, h1, fun h => h2 ⟨.inl h.1, h.2⟩⟩
    · have hc := of_decide_eq_false hc
      simp only [go_sem, Nat.reduceAdd, Nat.reduceSub, Nat.reduceMul, Nat.reduceLT, Nat.reduceLeDiff, ↓reduceIte, reduceCtorEq, Nat.reduceEqDiff, Int.reduceToNat, Int.reduceLT, Int.reduceLE, Int.reduceEq, beq_self_eq_true]
      refine ⟨togo u (l ++ [n]), by rw [hn]; exact togo_lt hns hn2, x, z, l ++ [n], reg_intro rfl rfl ⟨rfl, hx, hz, fun y => ?_⟩⟩
      rw [hzs y, List.mem_append, List.mem_singleton]
      constructor
      · rintro ⟨h1, h2⟩
        exact ⟨h1, fun h => h.1.elim (fun h' => h2 ⟨h', h.2⟩) fun e => hc (e ▸ h.2)⟩
      · rintro ⟨h1, h2⟩
        exact ⟨h1, fun h => h2 ⟨.inl h.1, h.2⟩⟩
  · simp only [go_sem, Nat.reduceAdd, Nat.reduceSub, Nat.reduceMul, Nat.reduceLT, Nat.reduceLeDiff, ↓reduceIte, reduceCtorEq, Nat.reduceEqDiff, Int.reduceToNat, Int.reduceLT, Int.reduceLE, Int.reduceEq, beq_self_eq_true]
    refine ⟨.tup [], x, [_], [], rfl, rfl, by simp, by omega, ?_, ?_, by simp [meltD, meltL, lowD, lowL], by simp [meltD, meltL], z, hx, hz, fun n => ?_⟩
    · intro j y hy
      rw [hx, List.getElem?_set] at hy
      split at hy
      · rename_i e; subst e
        cases hy
        right; left
        simp only [setD, lowD, lowL_iff]
        intro y hy
        obtain ⟨_, _, rfl⟩ := List.mem_map.1 hy
        trivial
      · exact .inr (.inr hy)
    · intro b N s' L hb h
      rw [List.getElem?_append_right hb] at h
      have := (List.getElem?_eq_some_iff.1 h).1
      have h0 : b - x.length = 0 := by simp at this; omega
      rw [h0] at h; cases h
    · rw [hzs n]
      constructor
      · rintro ⟨h1, h2⟩
        exact ⟨h1, fun h => h2 ⟨hall n ((hzs n).2 ⟨h1, h2⟩), h⟩⟩
      · rintro ⟨h1, h2⟩
        exact ⟨h1, fun h => h2 h.2⟩
end Go.Ab
