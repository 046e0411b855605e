/- Ends of functions that leave something in memory; calls of what a slot holds. Conditions: none. -/
import Derived.Test.YtehcjnendfpbaaaGreatAbT
namespace Go.Ab
section
variable {P : Program} {C : Tab}
/-- A function's end, where something is left in memory. -/
def finH (x : Option D) (bs : List (Sh × D)) (tk : List Bool) (R : D → List (Sh × D) → Prop) (bs' : List (Sh × D)) (tk' : List Bool) : Prop :=
  ∃ r keep ex exk, x = some r ∧ bs' = keep ++ ex ∧ tk' = tk ++ exk ∧ bs.length ≤ keep.length ∧
    (∀ (j : Nat) (x : Sh × D), keep[j]? = some x → x.1 = .obj 0 ∨ lowD keep.length tk.length x.2 ∨ bs[j]? = some x) ∧
    (∀ (b N : Nat) (s' : Sh) (L : List D), keep.length ≤ b → (keep ++ ex)[b]? = some (.arr N s', .agg L) → pureL L) ∧
    lowD keep.length tk.length (meltD (keep ++ ex) keep.length r) ∧ R (meltD (keep ++ ex) keep.length r) keep
theorem endH_ret (rs : List ResultVar) (bs : List (Sh × D)) (tk : List Bool) (R : D → List (Sh × D) → Prop) (ts : List D) (bs' : List (Sh × D)) (tk' : List Bool) : endH C rs bs tk R .ret ⟨ts, ⟨bs', tk'⟩⟩ = finH (resultsD C ⟨ts, ⟨bs', tk'⟩⟩ rs) bs tk R bs' tk' := Eq.trans rfl rfl
theorem endH_normal (rs : List ResultVar) (bs : List (Sh × D)) (tk : List Bool) (R : D → List (Sh × D) → Prop) (ts : List D) (bs' : List (Sh × D)) (tk' : List Bool) : endH C rs bs tk R .normal ⟨ts, ⟨bs', tk'⟩⟩ = finH (resultsD C ⟨ts, ⟨bs', tk'⟩⟩ rs) bs tk R bs' tk' := Eq.trans rfl rfl
attribute [go_sem] endH_ret endH_normal
/-- Nothing is dropped. -/
theorem finH_keep {r : D} {bs bs' : List (Sh × D)} {tk : List Bool} {R : D → List (Sh × D) → Prop} (h1 : bs.length ≤ bs'.length) (h2 : ∀ (j : Nat) (x : Sh × D), bs'[j]? = some x → x.1 = .obj 0 ∨ lowD bs'.length tk.length x.2 ∨ bs[j]? = some x)
    (h4 : lowD bs'.length tk.length (meltD bs' bs'.length r)) (h5 : R (meltD bs' bs'.length r) bs') : finH (some r) bs tk R bs' tk :=
  ⟨r, bs', [], [], rfl, by simp, by simp, h1, h2, (by intro b N s L hb h; rw [List.append_nil, List.getElem?_eq_none (by omega)] at h; cases h), by simpa using h4, by simpa using h5⟩
/-- What is new is dropped. -/
theorem finH_drop {r : D} {bs ex : List (Sh × D)} {tk : List Bool} {R : D → List (Sh × D) → Prop} (h3 : ∀ (N : Nat) (s' : Sh) (L : List D), (Sh.arr N s', D.agg L) ∈ ex → pureL L)
    (h4 : lowD bs.length tk.length (meltD (bs ++ ex) bs.length r)) (h5 : R (meltD (bs ++ ex) bs.length r) bs) (exk : List Bool) : finH (some r) bs tk R (bs ++ ex) (tk ++ exk) :=
  ⟨r, bs, ex, exk, rfl, rfl, rfl, Nat.le_refl _, fun _ _ h => .inr (.inr h), by
    intro b N s L hb h
    rw [List.getElem?_append_right hb] at h
    exact h3 N s L (List.mem_of_getElem? h), h4, h5⟩
theorem isMap_ok {C : Tab} {t k e : TypeId} (h : C.ty t = .map k e) : isMap C t := by simp [isMap, h]

/-- A call of what a slot holds. -/
def callT (P : Program) (C : Tab) (d : D) (args : List D) (o : Oper) (K : St → Prop) (dst : Option Tmp) (ts : List D) (h : Heap) : Prop :=
  match d with
  | .fn (.func f) caps => callK P C f (args ++ caps) K dst ts h
  | .mp [] fl f => callK P C f (fl ++ args) K dst ts h
  | _ => aop P C o K ⟨ts, h⟩
theorem aop_callt (K : St → Prop) (dst : Option Tmp) (ty : TypeId) (pos : String) (after : Array Edge) (g : Option (Nat × Bool)) (ts : List D) (h : Heap) (t : Tmp) (args : Array Operand) (at_ : Array TypeId) :
    aop P C ⟨dst, .call { callee := .value (.tmp t), args := args, argTypes := at_ }, ty, pos, after, g⟩ K ⟨ts, h⟩ =
    callT P C (ts.getD t (.lit undef)) (argsD C (St.ev ⟨ts, h⟩) args.toList at_.toList) ⟨dst, .call { callee := .value (.tmp t), args := args, argTypes := at_ }, ty, pos, after, g⟩ K dst ts h := by
  unfold callT
  split
  · rename_i f caps hd
    have hc : calleeOf P C ⟨dst, .call { callee := .value (.tmp t), args := args, argTypes := at_ }, ty, pos, after, g⟩ ⟨ts, h⟩ = some (f, argsD C (St.ev ⟨ts, h⟩) args.toList at_.toList ++ caps) := by
      have he : St.ev ⟨ts, h⟩ (.tmp t) = .fn (.func f) caps := hd
      simp only [calleeOf, he]
    simp only [aop, hc, callK_eq]
  · rename_i fl f hd
    have hc : calleeOf P C ⟨dst, .call { callee := .value (.tmp t), args := args, argTypes := at_ }, ty, pos, after, g⟩ ⟨ts, h⟩ = some (f, fl ++ argsD C (St.ev ⟨ts, h⟩) args.toList at_.toList) := by
      have he : St.ev ⟨ts, h⟩ (.tmp t) = .mp [] fl f := hd
      simp only [calleeOf, he]
    simp only [aop, hc, callK_eq]
  · rfl
theorem callT_fn (f : FuncId) (caps : List D) (args : List D) (o : Oper) (K : St → Prop) (dst : Option Tmp) (ts : List D) (h : Heap) : callT P C (.fn (.func f) caps) args o K dst ts h = callK P C f (args ++ caps) K dst ts h := Eq.trans rfl rfl
attribute [go_sem] aop_callt callT_fn
theorem callK_h {g : FuncId} {args : List D} {bs : List (Sh × D)} {tk : List Bool} {R : D → List (Sh × D) → Prop} {K : St → Prop} {dst : Option Tmp} {ts : List D} (hs : HSpec P C g args bs R) (hk : ∀ r bs', R r bs' → K (St.put ⟨ts, ⟨bs', tk⟩⟩ dst r)) : callK P C g args K dst ts ⟨bs, tk⟩ :=
  callK_a (hs tk) (by rintro r h' ⟨bs', rfl, hr⟩; exact hk r bs' hr)
end

-- NUMBERS AND SLICES, MORE OF THEM

theorem finH_lit {bs : List (Sh × D)} {tk : List Bool} {v : Value} {R : D → List (Sh × D) → Prop} (h : R (.lit v) bs) : finH (some (.lit v)) bs tk R bs tk :=
  ⟨.lit v, bs, [], [], rfl, by simp, by simp, Nat.le_refl _, fun _ _ h => .inr (.inr h), (by intro b N s L hb h; rw [List.append_nil, List.getElem?_eq_none (by omega)] at h; cases h), trivial, h⟩

theorem slice_sl_hi_t (C : Tab) (t e : TypeId) (b lo n c : Nat) (k : IntKind) (i : Int) (ht : (C.ty t = .slice e) = True) (h0 : (0 ≤ i) = True) (h1 : (i.toNat ≤ c) = True) : sliceD C t (.sl e b lo n c) none (some (.lit (.int k i))) none = some (.sl e b lo i.toNat c) := by
  have ht := of_eq_true ht
  have h0 := of_eq_true h0
  have h1 := of_eq_true h1
  have h4 : max i 0 ≤ c := by omega
  simp [sliceD, ht, boundD, natOf, h0, h1, h4]
attribute [go_sem] slice_sl_hi_t

/-- A function's end, whatever is left in memory. -/
def endA (C : Tab) (rs : List ResultVar) (R : D → Heap → Prop) : AExit → St → Prop := fun e s => match e with | .exit _ => False | _ => ∃ r, resultsD C s rs = some r ∧ R r s.heap
def endB (x : Option D) (R : D → Heap → Prop) (h : Heap) : Prop := ∃ r, x = some r ∧ R r h
section
variable {P : Program} {C : Tab}
theorem endA_ret (rs : List ResultVar) (R : D → Heap → Prop) (ts : List D) (h : Heap) : endA C rs R .ret ⟨ts, h⟩ = endB (resultsD C ⟨ts, h⟩ rs) R h := Eq.trans rfl rfl
theorem endA_normal (rs : List ResultVar) (R : D → Heap → Prop) (ts : List D) (h : Heap) : endA C rs R .normal ⟨ts, h⟩ = endB (resultsD C ⟨ts, h⟩ rs) R h := Eq.trans rfl rfl
theorem endB_some (d : D) (R : D → Heap → Prop) (h : Heap) : endB (some d) R h = R d h := by simp [endB]
theorem ASpec.of (hT : TabOk P C) {f : FuncId} {fn : Func} {c : Code} {args : List D} {h : Heap} {R : D → Heap → Prop} (hf : P.funcs[f]? = some fn) (hb : fn.body = some c) (hn : (fn.name == "runtime.NumGoroutine") = false) {rs : List ResultVar} (hrs : fn.results.toList = rs) {n : Nat}
    (hnt : fn.ntmps - args.length = n) (hw : awp P C c (endA C rs R) ⟨args ++ List.replicate n (.lit undef), h⟩) : ASpec P C f args h R := by
  subst hrs; subst hnt
  refine ⟨⟨fn, hf, by rw [hb]; rfl, hn⟩, ?_⟩
  intro ρ w vs hr hv
  refine calls_of_wp hf hb ?_
  have hlen : vs.size = args.length := by rw [← Array.length_toList]; exact hv.1
  have h0 : Rl C ρ ⟨args ++ List.replicate (fn.ntmps - args.length) (.lit undef), h⟩ { tmps := vs ++ Array.replicate (fn.ntmps - vs.size) undef, defers := [] } w := by
    refine ⟨hr, ?_, rfl⟩
    simp only [Array.toList_append, Array.toList_replicate, hlen]
    refine hv.append ⟨by simp, ?_⟩
    intro i c d hc hd
    rw [List.getElem?_replicate] at hc hd
    split at hc
    · rename_i hi; rw [if_pos hi] at hd; cases hc; cases hd; exact .lit _
    · cases hc
  have fin : ∀ (s' : St) (a' : Act) (w' : World) (ρ' : Env), Ext ρ w ρ' w' → Rl C ρ' s' a' w' → (∃ r, resultsD C s' fn.results.toList = some r ∧ R r s'.heap) →
      a'.defers = [] ∧ ∃ v, (results fn a'.tmps).run P w' = .ok v w' ∧ ∃ v' r h' ρ', Ending.returned v = .returned v' ∧ Ext ρ w ρ' w' ∧ Real C.sh ρ' h' w' ∧ VV C.sh ρ' v' r ∧ R r h' := by
    rintro s' a' w' ρ' k1 k2 ⟨r, hres, hR⟩
    obtain ⟨v, hv, hvd⟩ := results_sound hT k2 hres
    exact ⟨k2.defers, v, hv, v, r, _, ρ', rfl, k1, k2.real, hvd, hR⟩
  refine awp_sound hT h0 hw ?_
  intro e ρ' s' a' w' k1 k2 k3
  cases e with
  | normal => exact fin s' a' w' ρ' k1 k2 k3
  | ret => exact fin s' a' w' ρ' k1 k2 k3
  | exit i => exact k3.elim
end
attribute [go_sem] endA_ret endA_normal endB_some

end Go.Ab
