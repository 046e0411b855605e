/- Ends of functions that leave something in memory; calls of what a slot holds. Conditions: none. -/
import Derived.Test.YtebfpijbnklaiaaAbT
namespace Go.Ab
section
variable {P : Program} {C : Tab}
/-- A function's end, where something is left in memory. -/
def finH (x : Option D) (bs : List (Sh × D)) (tk : List Bool) (R : D → List (Sh × D) → Prop) (bs' : List (Sh × D)) (tk' : List Bool) : Prop :=
  ∃ r keep ex exk, x = some r ∧ bs' = keep ++ ex ∧ tk' = tk ++ exk ∧ bs.length ≤ keep.length ∧
    (∀ (j : Nat) (x : Sh × D), keep[j]? = some x → x.1 = .obj 0 ∨ lowD keep.length tk.length x.2 ∨ bs[j]? = some x) ∧
    (∀ (b N : Nat) (s' : Sh) (L : List D), keep.length ≤ b → (keep ++ ex)[b]? = some (.arr N s', .agg L) → pureL L) ∧
    lowD keep.length tk.length (meltD (keep ++ ex) keep.length r) ∧ R (meltD (keep ++ ex) keep.length r) keep
theorem endH_ret (rs : List ResultVar) (bs : List (Sh × D)) (tk : List Bool) (R : D → List (Sh × D) → Prop) (ts : List D) (bs' : List (Sh × D)) (tk' : List Bool) : endH C rs bs tk R .ret ⟨ts, ⟨bs', tk'⟩⟩ = finH (resultsD C ⟨ts, ⟨bs', tk'⟩⟩ rs) bs tk R bs' tk' := Eq.trans rfl rfl
theorem endH_normal (rs : List ResultVar) (bs : List (Sh × D)) (tk : List Bool) (R : D → List (Sh × D) → Prop) (ts : List D) (bs' : List (Sh × D)) (tk' : List Bool) : endH C rs bs tk R .normal ⟨ts, ⟨bs', tk'⟩⟩ = finH (resultsD C ⟨ts, ⟨bs', tk'⟩⟩ rs) bs tk R bs' tk' := Eq.trans rfl rfl
attribute [go_sem] endH_ret endH_normal
/-- Nothing is dropped. -/
theorem finH_keep {r : D} {bs bs' : List (Sh × D)} {tk : List Bool} {R : D → List (Sh × D) → Prop} (h1 : bs.length ≤ bs'.length) (h2 : ∀ (j : Nat) (x : Sh × D), bs'[j]? = some x → x.1 = .obj 0 ∨ lowD bs'.length tk.length x.2 ∨ bs[j]? = some x)
    (h4 : lowD bs'.length tk.length (meltD bs' bs'.length r)) (h5 : R (meltD bs' bs'.length r) bs') : finH (some r) bs tk R bs' tk :=
  ⟨r, bs', [], [], rfl, by simp, by simp, h1, h2, (by intro b N s L hb h; rw [List.append_nil, List.getElem?_eq_none (by omega)] at h; cases h), by simpa using h4, by simpa using h5⟩
/-- What is new is dropped. -/
theorem finH_drop {r : D} {bs ex : List (Sh × D)} {tk : List Bool} {R : D → List (Sh × D) → Prop} (h3 : ∀ (N : Nat) (s' : Sh) (L : List D), (Sh.arr N s', D.agg L) ∈ ex → pureL L)
    (h4 : lowD bs.length tk.length (meltD (bs ++ ex) bs.length r)) (h5 : R (meltD (bs ++ ex) bs.length r) bs) (exk : List Bool) : finH (some r) bs tk R (bs ++ ex) (tk ++ exk) :=
  ⟨r, bs, ex, exk, rfl, rfl, rfl, Nat.le_refl _, fun _ _ h => .inr (.inr h), by
    intro b N s L hb h
    rw [List.getElem?_append_right hb] at h
    exact h3 N s L (List.mem_of_getElem? h), h4, h5⟩
theorem isMap_ok {C : Tab} {t k e : TypeId} (h : C.ty t = .map k e) : isMap C t := by simp [isMap, h]
theorem get_last' (bs : List (Sh × D)) (x : Sh × D) : (bs ++ [x])[bs.length]? = some x := by simp
theorem set_last' (bs : List (Sh × D)) (x y : Sh × D) : (bs ++ [x]).set bs.length y = bs ++ [y] := by simp

/-- A call of what a slot holds. -/
def callT (P : Program) (C : Tab) (d : D) (args : List D) (o : Oper) (K : St → Prop) (dst : Option Tmp) (ts : List D) (h : Heap) : Prop :=
  match d with
  | .fn (.func f) caps => callK P C f (args ++ caps) K dst ts h
  | _ => aop P C o K ⟨ts, h⟩
theorem aop_callt (K : St → Prop) (dst : Option Tmp) (ty : TypeId) (pos : String) (after : Array Edge) (g : Option (Nat × Bool)) (ts : List D) (h : Heap) (t : Tmp) (args : Array Operand) (at_ : Array TypeId) :
    aop P C ⟨dst, .call { callee := .value (.tmp t), args := args, argTypes := at_ }, ty, pos, after, g⟩ K ⟨ts, h⟩ =
    callT P C (ts.getD t (.lit undef)) (argsD C (St.ev ⟨ts, h⟩) args.toList at_.toList) ⟨dst, .call { callee := .value (.tmp t), args := args, argTypes := at_ }, ty, pos, after, g⟩ K dst ts h := by
  unfold callT
  split
  · rename_i f caps hd
    have hc : calleeOf C ⟨dst, .call { callee := .value (.tmp t), args := args, argTypes := at_ }, ty, pos, after, g⟩ ⟨ts, h⟩ = some (f, argsD C (St.ev ⟨ts, h⟩) args.toList at_.toList ++ caps) := by
      have he : St.ev ⟨ts, h⟩ (.tmp t) = .fn (.func f) caps := hd
      simp only [calleeOf, he]
    simp only [aop, hc, callK]
  · rfl
theorem callT_fn (f : FuncId) (caps : List D) (args : List D) (o : Oper) (K : St → Prop) (dst : Option Tmp) (ts : List D) (h : Heap) : callT P C (.fn (.func f) caps) args o K dst ts h = callK P C f (args ++ caps) K dst ts h := Eq.trans rfl rfl
attribute [go_sem] aop_callt callT_fn
theorem callK_h {g : FuncId} {args : List D} {bs : List (Sh × D)} {tk : List Bool} {R : D → List (Sh × D) → Prop} {K : St → Prop} {dst : Option Tmp} {ts : List D} (hs : HSpec P C g args bs R) (hk : ∀ r bs', R r bs' → K (St.put ⟨ts, ⟨bs', tk⟩⟩ dst r)) : callK P C g args K dst ts ⟨bs, tk⟩ :=
  ⟨_, hs tk, by rintro r h' ⟨bs', rfl, hr⟩; exact hk r bs' hr⟩
end
end Go.Ab
