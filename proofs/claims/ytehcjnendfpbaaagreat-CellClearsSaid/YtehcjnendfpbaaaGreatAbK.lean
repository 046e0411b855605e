/- Codes at the level of values: what a function's call comes to, one operation behind the other. Conditions: the table fits the program. -/
import Derived.Test.YtehcjnendfpbaaaGreatAbJs
namespace Go.Ab
section
variable {P : Program} {C : Tab} {ρ : Env} {h h' : Heap} {w : World} {o : Oper} {a : Act} {e : Operand → D} {d : D}

theorem aeval_sound (hT : TabOk P C) (r : Real C.sh ρ h w) (he : ∀ x, VV C.sh ρ (a.eval x) (e x)) (hd : aeval C o e h = some d) : Did P C o a w ρ h d := by
  unfold aeval at hd
  split at hd
  · rename_i x ho
    cases hd
    exact Did.quiet r (v := a.eval x) (by rw [execOp, ho]; rfl) (vv_nrm (he x))
  · rename_i x ho
    cases hd
    exact Did.quiet r (v := a.eval x) (by rw [execOp, ho]; rfl) (vv_nrm (he x))
  · rename_i c x y ho
    split at hd
    · rename_i t hc
      exact did_pick r he ho hc (Option.some.inj hd).symm
    · cases hd
  · rename_i t x ho; exact did_load hT r he ho hd
  · rename_i x ho; exact did_nilCheck r he ho hd
  · rename_i op t x y t' ho; exact did_bin hT r he ho hd
  · rename_i op t x ho; exact did_un r he ho hd
  · rename_i s t x ho
    split at hd
    · rename_i hc
      cases hx : e x with
      | lst u l tk => rw [hx] at hd; exact did_str hT r he ho hx hc.1 hc.2 hd
      | _ => exact did_conv hT r he ho hc.1 hc.2 (by rw [hx] at hd ⊢; exact hd)
    · cases hd
  · rename_i t x ho
    split at hd
    · rename_i hc; cases hd; exact did_iface hT r he ho hc.1 hc.2
    · cases hd
  · rename_i x t' t ok ho; exact did_assert hT r he ho hd
  · rename_i f first caps ho
    split at hd
    · rename_i hc; subst hc; cases hd; exact did_makeFunc r he ho
    · split at hd
      · rename_i hc; subst hc
        split at hd
        · cases hd; exact did_makeBound r he ho
        · cases hd
      · cases hd
  · rename_i t parts ho
    split at hd
    · rename_i hc
      cases hd
      by_cases hagg : (C.ty t).isAgg = true
      · exact did_build hT r he ho hc.1 hagg hc.2.2
      · exact absurd hc.2.1 hagg
    · cases hd
  · rename_i t n parts ho
    split at hd
    · rename_i u hty
      split at hd
      · rename_i hc
        cases hd
        exact did_buildSlice hT r he ho hty hc.1 hc.2.1 hc.2.2
      · cases hd
    · cases hd
  · rename_i s x k ho
    split at hd
    · rename_i fs hty; exact did_fieldAddr hT r he ho hty hd
    · cases hd
  · rename_i t x k ho
    split at hd
    · rename_i fs hty; exact did_field hT r he ho hty hd
    · cases hd
  · rename_i t x i ho; exact did_indexAddr hT r he ho hd
  · rename_i t x i ho; exact did_index hT r he ho hd
  · rename_i t x lo hi mx ho; exact did_slice hT r he ho hd
  · rename_i x i ho
    split at hd
    · rename_i l hx; exact did_extract r he ho hx hd
    · cases hd
  · rename_i t x i ok ho; exact did_lookup hT r he ho hd
  · rename_i x ho; exact did_entry r he ho hd
  · rename_i c ho
    split at hd
    · rename_i b hb; exact did_builtin hT r he ho hb hd
    · cases hd
  · cases hd

theorem eff_sound (hT : TabOk P C) (r : Real C.sh ρ h w) (he : ∀ x, VV C.sh ρ (a.eval x) (e x)) (hd : eff C o e h d h') : Did P C o a w ρ h' d := by
  unfold eff at hd
  split at hd
  · rename_i t ho
    obtain ⟨h1, rfl, rfl⟩ := hd
    exact did_alloc hT r ho h1
  · rename_i t x ho
    obtain ⟨h1, h2, rfl, rfl⟩ := hd
    exact did_box hT r he ho h1 h2
  · rename_i t ad x ho
    split at hd
    · rename_i b p had
      split at hd
      · rename_i sh y hb
        obtain ⟨h1, h2, h3, rfl, rfl⟩ := hd
        exact did_store hT r he ho had hb h1 h2 h3
      · exact hd.elim
    · exact hd.elim
  · rename_i args argTypes ho
    split at hd
    · rename_i t t' x y hts has
      obtain ⟨htt, hd⟩ := hd
      subst htt
      split at hd
      · rename_i u hty
        refine did_append hT r he ho rfl (t := t') (x := x) (y := y) ?_ ?_ hty hd
        · apply Array.ext'; simpa using hts
        · apply Array.ext'; simpa using has
      · exact hd.elim
    · exact hd.elim
  · rename_i t n ho
    obtain ⟨h1, h2, rfl, rfl⟩ := hd
    exact did_makeMap r he hT ho h1 (by intro x hx; subst hx; exact h2)
  · rename_i t x i y ho
    obtain ⟨rfl, hd⟩ := hd
    exact did_mapUpdate hT r he ho hd
  · rename_i t x i y ho
    obtain ⟨rfl, hd⟩ := hd
    exact did_insert hT r he ho hd
  · rename_i args argTypes ho
    split at hd
    · rename_i t t' x i hts has
      obtain ⟨rfl, hd⟩ := hd
      refine did_delete hT r he ho rfl (t := t) (t' := t') (x := x) (i := i) ?_ ?_ hd
      · apply Array.ext'; simpa using hts
      · apply Array.ext'; simpa using has
    · exact hd.elim
  · rename_i t x ho
    exact did_range hT r he ho hd
  · rename_i args argTypes ho
    split at hd
    · rename_i t t' x y hts has
      obtain ⟨htt, hd⟩ := hd
      subst htt
      split at hd
      · rename_i u hty
        obtain ⟨b, lo, n, c, N, s, L, m, k1, k2, k3, rfl, rfl⟩ := hd
        refine did_copy hT r he ho rfl (t := t') (x := x) (y := y) ?_ ?_ hty k1 k2 k3
        · apply Array.ext'; simpa using hts
        · apply Array.ext'; simpa using has
      · exact hd.elim
    · exact hd.elim
  · obtain ⟨hd, rfl⟩ := hd
    exact aeval_sound hT r he hd

theorem effN_sound (hT : TabOk P C) (r : Real C.sh ρ h w) (he : ∀ x, VV C.sh ρ (a.eval x) (e x)) {R : D → Heap → Prop} (hd : effN C o e h R) : DidN P C o a w ρ R := by
  unfold effN at hd
  split at hd
  · rename_i x ho
    split at hd
    case h_2 => exact hd.elim
    rename_i i hx
    split at hd
    case h_2 => exact hd.elim
    rename_i m g seen hi
    split at hd
    case h_2 => exact hd.elim
    rename_i ks vs g' hm
    obtain ⟨rfl, h1, h2⟩ := hd
    exact did_next r he ho hx hi hm h1 h2
  · rename_i args argTypes ho
    split at hd
    · rename_i t t' x y hts has
      rcases hd with hd | ⟨u, kn, hty, hty', hd | hd⟩
      rotate_left
      · refine did_grow hT r he ho rfl (t := t) (t' := t') (x := x) (y := y) ?_ ?_ hty hty' hd
        · apply Array.ext'; simpa using hts
        · apply Array.ext'; simpa using has
      · refine did_growS hT r he ho rfl (t := t) (t' := t') (x := x) (y := y) ?_ ?_ hty hty' hd
        · apply Array.ext'; simpa using hts
        · apply Array.ext'; simpa using has
      obtain ⟨htt, hd⟩ := hd
      subst htt
      split at hd
      · rename_i u hty
        refine did_append_mut hT r he ho rfl (t := t') (x := x) (y := y) ?_ ?_ hty hd
        · apply Array.ext'; simpa using hts
        · apply Array.ext'; simpa using has
      · exact hd.elim
    · exact hd.elim
  · rename_i args argTypes ho
    split at hd
    · rename_i t x hts has
      split at hd
      · rename_i u hty
        obtain ⟨b, lo, n, c, N, s, L, k1, k2, k4⟩ := hd
        refine ⟨_, _, k4, did_clear hT r he ho rfl (t := t) (x := x) ?_ ?_ hty k1 k2⟩
        · apply Array.ext'; simpa using hts
        · apply Array.ext'; simpa using has
      · exact hd.elim
    · exact hd.elim
  · rename_i t x y ho
    split at hd
    · rename_i u hty
      obtain ⟨n, c, k1, k2, k3, k4, k5, k6⟩ := hd
      exact ⟨_, _, k6, did_makeSlice hT r he ho hty k1 k2 k3 k4 k5⟩
    · exact hd.elim
  · rename_i op t x y t' ho
    split at hd
    · rename_i hn; exact did_nilcmp hT r he ho hn hd
    · exact hd.elim
  · rename_i t x i ho
    exact did_mapEntry hT r he ho hd
  · rename_i t x s y ho
    exact did_entryStore hT r he ho hd
  · exact hd.elim

end

/-- The slots and the own memory. -/
structure St where
  tmps : List D
  heap : Heap

def St.ev (s : St) : Operand → D
  | .tmp t => s.tmps.getD t (.lit undef)
  | .const v => .lit v
  | .global g => .lit (.pointer (some ⟨g, 0, none⟩))
  | .func f => .lit (.func (.func f) #[] #[])

def St.put (s : St) (dst : Option Tmp) (d : D) : St :=
  match dst with
  | some t => ⟨s.tmps.set t d, s.heap⟩
  | none => s

structure Rl (C : Tab) (ρ : Env) (s : St) (a : Act) (w : World) : Prop where
  real : Real C.sh ρ s.heap w
  tmps : All2 (VV C.sh ρ) a.tmps.toList s.tmps
  defers : a.defers = []

theorem Rl.ev {C : Tab} {ρ : Env} {s : St} {a : Act} {w : World} (h : Rl C ρ s a w) (x : Operand) : VV C.sh ρ (a.eval x) (s.ev x) := by
  cases x with
  | tmp t =>
    show VV C.sh ρ (a.tmps.getD t undef) (s.tmps.getD t (.lit undef))
    rw [Array.getD_eq_getD_getElem?, List.getD_eq_getElem?_getD]
    cases ht : s.tmps[t]? with
    | none =>
      have : a.tmps[t]? = none := by
        rw [List.getElem?_eq_none_iff] at ht
        rw [Array.getElem?_eq_none_iff, ← Array.length_toList, h.tmps.1]; exact ht
      rw [this]; exact .lit _
    | some d =>
      obtain ⟨c, hc, hv⟩ := h.tmps.get ht
      rw [Array.getElem?_toList] at hc
      rw [hc]; exact hv
  | const v => exact .lit _
  | global g => exact .lit _
  | func f => exact .lit _

theorem Rl.put {C : Tab} {ρ ρ' : Env} {s : St} {a : Act} {w w' : World} {h' : Heap} (h : Rl C ρ s a w) (dst : Option Tmp) {v : Value} {d : D} (hle : ρ.le ρ') (hr : Real C.sh ρ' h' w') (hv : VV C.sh ρ' v d) :
    Rl C ρ' (St.put ⟨s.tmps, h'⟩ dst d) (a.put dst v) w' := by
  have ht := h.tmps.mono (R' := VV C.sh ρ') fun _ _ => VV.mono hle
  cases dst with
  | none => exact ⟨hr, ht, h.defers⟩
  | some t =>
    refine ⟨hr, ?_, h.defers⟩
    show All2 _ (a.tmps.setIfInBounds t v).toList (s.tmps.set t d)
    rw [Array.toList_setIfInBounds]
    exact ht.set t hv

/-- A call's contract: with data for its arguments and own memory, it returns data, and leaves own memory, as R says. -/
def ASpec (P : Program) (C : Tab) (f : FuncId) (args : List D) (h : Heap) (R : D → Heap → Prop) : Prop :=
  (∃ fn, P.funcs[f]? = some fn ∧ fn.body.isSome = true ∧ (fn.name == "runtime.NumGoroutine") = false) ∧
  ∀ (ρ : Env) (w : World) (vs : Array Value), Real C.sh ρ h w → All2 (VV C.sh ρ) vs.toList args →
    Calls P f vs w fun e w' => ∃ v r h' ρ', e = .returned v ∧ Ext ρ w ρ' w' ∧ Real C.sh ρ' h' w' ∧ VV C.sh ρ' v r ∧ R r h'

theorem ASpec.mono {P : Program} {C : Tab} {f : FuncId} {args : List D} {h : Heap} {R R' : D → Heap → Prop} (hs : ASpec P C f args h R) (hr : ∀ r h', R r h' → R' r h') : ASpec P C f args h R' :=
  ⟨hs.1, fun ρ w vs hreal ha => (hs.2 ρ w vs hreal ha).mono fun _ _ ⟨v, r, h', ρ', h1, h2, h3, h4, h5⟩ => ⟨v, r, h', ρ', h1, h2, h3, h4, hr _ _ h5⟩⟩

/-- A call of what the model itself answers. -/
def XSpec (P : Program) (C : Tab) (f : FuncId) (args : List D) (h : Heap) (R : D → Heap → Prop) : Prop :=
  ∀ (ρ : Env) (w : World) (vs : Array Value), Real C.sh ρ h w → All2 (VV C.sh ρ) vs.toList args →
    ∃ v w' r h' ρ', (callFunc f vs).run P w = .ok (.value v) w' ∧ Ext ρ w ρ' w' ∧ Real C.sh ρ' h' w' ∧ VV C.sh ρ' v r ∧ R r h'

/-- The function that a method of a type is, if it takes the value itself. -/
def methodOf (P : Program) (t : TypeId) (name : String) : Option FuncId :=
  match P.info? t, P.underlying t with
  | some i, some u => match i.methods.find? (·.name == name) with
    | some m => match m.func, u with
      | _, .pointer _ => none
      | some (g, false), _ => if m.path.size = 0 then some g else none
      | _, _ => none
    | none => none
  | _, _ => none
theorem run_method {P : Program} {t : TypeId} {name : String} {g : FuncId} (h : methodOf P t name = some g) (n : Nat) (v : Value) (w : World) : (method (n + 1) t v name).run P w = .ok (g, v) w := by
  unfold methodOf at h
  split at h
  case h_2 => cases h
  rename_i i u hi hu
  split at h
  case h_2 => cases h
  rename_i m hm
  split at h
  · cases h
  · rename_i g' hf hnp
    split at h
    case isFalse => cases h
    rename_i hsz
    cases h
    have hp : m.path = #[] := Array.eq_empty_of_size_eq_zero hsz
    have hti : (typeInfo t).run P w = .ok i w := by simp [typeInfo, hi]
    have hru : ∀ wr, (receiverAt t (.val v) false wr).run P w = .ok v w := fun wr => by
      unfold receiverAt
      simp only [Sem.run_bind, run_underlying hu, Result.andThen_ok, Place.get, Sem.run_pure]
    unfold method
    simp only [Sem.run_bind, hti, Result.andThen_ok, hm, hp, follow, Sem.run_pure, hf, Array.toList_empty, hru]
  · cases h

def calleeOf (P : Program) (C : Tab) (o : Oper) (s : St) : Option (FuncId × List D) :=
  match o.op with
  | .call { callee := .value f, args, argTypes } => match s.ev f with
    | .lit (.func (.func g) fi ca) => if fi.size = 0 ∧ ca.size = 0 then some (g, argsD C s.ev args.toList argTypes.toList) else none
    | .fn (.func g) caps => some (g, argsD C s.ev args.toList argTypes.toList ++ caps)
    | .mp [] fl g => some (g, fl ++ argsD C s.ev args.toList argTypes.toList)
    | _ => none
  | .call { callee := .invoke x name, args, argTypes } => match s.ev x with
    | .ifc t d => (methodOf P t name).map fun g => (g, d :: argsD C s.ev args.toList argTypes.toList)
    | _ => none
  | _ => none

/-- One operation. -/
def aop (P : Program) (C : Tab) (o : Oper) (K : St → Prop) (s : St) : Prop :=
  match calleeOf P C o s with
  | some (g, args) => (∃ R, ASpec P C g args s.heap R ∧ ∀ r h', R r h' → K (St.put ⟨s.tmps, h'⟩ o.dst r)) ∨ ∃ R, XSpec P C g args s.heap R ∧ ∀ r h', R r h' → K (St.put ⟨s.tmps, h'⟩ o.dst r)
  | none => (∃ r h', eff C o s.ev s.heap r h' ∧ K (St.put ⟨s.tmps, h'⟩ o.dst r)) ∨ effN C o s.ev s.heap fun r h' => K (St.put ⟨s.tmps, h'⟩ o.dst r)

def yieldedD (ops : Array Oper) (tmps : List D) (j : Nat) : Option Bool :=
  match ((ops[j]?).bind (·.dst)).bind (tmps[·]?) with
  | some (.lit (.bool b)) => some b
  | _ => none

theorem yielded_eq {C : Tab} {ρ : Env} {s : St} {a : Act} {w : World} (h : Rl C ρ s a w) (ops : Array Oper) : yielded ops a.tmps = yieldedD ops s.tmps := by
  funext j
  unfold yielded yieldedD
  cases hd : (ops[j]?).bind (·.dst) with
  | none => rfl
  | some t =>
    simp only [Option.bind_some]
    cases ht : s.tmps[t]? with
    | none =>
      have : a.tmps[t]? = none := by
        rw [List.getElem?_eq_none_iff] at ht
        rw [Array.getElem?_eq_none_iff, ← Array.length_toList, h.tmps.1]; exact ht
      rw [this]
    | some d =>
      obtain ⟨c, hc, hv⟩ := h.tmps.get ht
      rw [Array.getElem?_toList] at hc
      rw [hc]
      cases hv with
      | pure hv =>
        cases hv with
        | lit => cases c <;> rfl
        | _ => rfl
      | _ => rfl

theorem args_sound {C : Tab} {ρ : Env} {a : Act} {e : Operand → D} (he : ∀ x, VV C.sh ρ (a.eval x) (e x)) : ∀ (xs : List Operand) (ts : List TypeId), All2 (VV C.sh ρ) (xs.map a.eval) (argsD C e xs ts)
  | [], _ => by simp [argsD]; exact All2.nil
  | x :: xs, [] => by simp only [argsD, List.map_cons]; exact All2.cons (he x) (args_sound he xs [])
  | x :: xs, t :: ts => by simp only [argsD, List.map_cons]; exact All2.cons (vv_nrm (he x)) (args_sound he xs ts)

theorem aop_sound {P : Program} {C : Tab} (hT : TabOk P C) {o : Oper} {K : St → Prop} {s : St} {a : Act} {w : World} {ρ : Env} (h : Rl C ρ s a w) (hk : aop P C o K s) {K' : Act → World → Prop} {Q : Exit → Act → World → Prop}
    (hK : ∀ ρ' s' a' w', Ext ρ w ρ' w' → Rl C ρ' s' a' w' → K s' → K' a' w') : o.wp P a w K' Q := by
  unfold aop at hk
  split at hk
  · rename_i g args hc
    have main : ∀ vs : Array Value, All2 (VV C.sh ρ) vs.toList args → (execOp a.eval o).run P w = (callFunc g vs).run P w → o.wp P a w K' Q := by
      intro vs ha hrun
      rcases hk with ⟨R, hs, hR⟩ | ⟨R, hx, hR⟩
      · obtain ⟨⟨fn, hfn, hbody, hname⟩, hcall⟩ := hs
        have hcf : ∀ vs : Array Value, (callFunc g vs).run P w = .ok (.enter g vs) w := by
          intro vs
          have hb : fn.body.isNone = false := by cases hb : fn.body <;> simp [hb] at hbody ⊢
          have hname' : fn.name ≠ "runtime.NumGoroutine" := by simpa using hname
          have hb' : fn.body ≠ none := by intro e; simp [e] at hb
          simp [callFunc, hfn, hname', hb']
        unfold Oper.wp
        rw [hrun, hcf, Oper.upon_enter]
        refine (hcall ρ w vs h.real ha).mono ?_
        rintro e w' ⟨v, r, h', ρ', rfl, h1, h2, h3, h4⟩
        exact hK ρ' _ _ w' h1 (h.put o.dst h1.le h2 h3) (hR r h' h4)
      · obtain ⟨v, w', r, h', ρ', k1, k2, k3, k4, k5⟩ := hx ρ w vs h.real ha
        unfold Oper.wp
        rw [hrun, k1]
        exact hK ρ' _ _ w' k2 (h.put o.dst k2.le k3 k4) (hR r h' k5)
    unfold calleeOf at hc
    split at hc
    case h_3 => cases hc
    case h_2 =>
      rename_i f name xs ts ho
      have hf := h.ev f
      split at hc
      case h_2 => cases hc
      rename_i t d hef
      rw [hef] at hf
      rw [Option.map_eq_some_iff] at hc
      obtain ⟨g', hm, hc⟩ := hc
      cases hc
      have hv : ∃ v, a.eval f = .iface t v ∧ VV C.sh ρ v d := by
        generalize a.eval f = v at hf
        cases hf with
        | pure hf => cases hf with
          | ifc hd => exact ⟨_, rfl, .pure hd⟩
      obtain ⟨v, hv, hvd⟩ := hv
      refine main (#[v] ++ xs.map a.eval) ?_ ?_
      · simpa using All2.cons hvd (args_sound h.ev xs.toList ts.toList)
      · rw [execOp, ho]
        have he : (#[a.eval f] ++ xs.map a.eval).extract 1 (#[a.eval f] ++ xs.map a.eval).size = xs.map a.eval := by
          apply Array.ext'
          simp only [Array.toList_extract, Array.toList_append, Array.toList_map, List.extract_eq_take_drop, List.cons_append, List.nil_append, List.drop_succ_cons, List.drop_zero, Array.size_append, Array.size_map, List.size_toArray, List.length_cons, List.length_nil]
          exact List.take_of_length_le (by simp)
        have h0 : (#[a.eval f] ++ xs.map a.eval)[0]? = some (a.eval f) := by rw [Array.getElem?_append_left (by simp)]; rfl
        simp only [resolve, Sem.run_bind, Sem.run_pure, Result.andThen_ok, invoke, h0, he]
        rw [hv]
        simp only [callMethod, Sem.run_bind, run_program, Result.andThen_ok]
        rw [show P.types.size + Made.depth = (P.types.size + 99) + 1 from rfl, run_method hm]
        rfl
    rename_i f xs ts ho
    have hf := h.ev f
    split at hc
    · rename_i g' fi ca hef
      split at hc
      case isFalse => cases hc
      rename_i hsz
      obtain rfl : fi = #[] := Array.eq_empty_of_size_eq_zero hsz.1
      obtain rfl : ca = #[] := Array.eq_empty_of_size_eq_zero hsz.2
      cases hc
      rw [hef] at hf
      have hv := vv_lit hf
      refine main (xs.map a.eval) ?_ ?_
      · simpa using args_sound h.ev xs.toList ts.toList
      · rw [execOp, ho]
        simp only [resolve, hv, Deferred.ofValue, Sem.run_bind, Sem.run_pure, Result.andThen_ok, invoke, Array.empty_append, Array.append_empty]
    · rename_i g' caps hef
      cases hc
      rw [hef] at hf
      have hv : ∃ cv : List Value, a.eval f = .func (.func g) #[] cv.toArray ∧ All2 (VV C.sh ρ) cv caps := by
        generalize a.eval f = v at hf
        cases hf with
        | pure hf => cases hf
        | fn h1 h2 => exact ⟨_, rfl, h1, h2⟩
      obtain ⟨cv, hv, hcv⟩ := hv
      refine main (xs.map a.eval ++ cv.toArray) ?_ ?_
      · simpa using (args_sound h.ev xs.toList ts.toList).append hcv
      · rw [execOp, ho]
        simp only [resolve, hv, Deferred.ofValue, Sem.run_bind, Sem.run_pure, Result.andThen_ok, invoke, Array.empty_append]
    · rename_i fl g' hef
      cases hc
      rw [hef] at hf
      have hv : ∃ fv : List Value, a.eval f = .func (.func g) fv.toArray #[] ∧ All2 (VV C.sh ρ) fv fl := by
        generalize a.eval f = v at hf
        cases hf with
        | pure hf => cases hf
        | bnd h1 h2 => exact ⟨_, rfl, h1, h2⟩
      obtain ⟨fv, hv, hfv⟩ := hv
      refine main (fv.toArray ++ xs.map a.eval) ?_ ?_
      · simpa using hfv.append (args_sound h.ev xs.toList ts.toList)
      · rw [execOp, ho]
        simp only [resolve, hv, Deferred.ofValue, Sem.run_bind, Sem.run_pure, Result.andThen_ok, invoke, Array.append_empty]
    · cases hc
  · have hd : ∃ r h', Did P C o a w ρ h' r ∧ K (St.put ⟨s.tmps, h'⟩ o.dst r) := by
      rcases hk with ⟨r, h', heff, hk⟩ | hk
      · exact ⟨r, h', eff_sound hT h.real h.ev heff, hk⟩
      · obtain ⟨r, h', k1, k2⟩ := effN_sound hT h.real h.ev hk
        exact ⟨r, h', k2, k1⟩
    obtain ⟨r, h', ⟨v, ρ', w', hrun, h1, h2, h3⟩, hk⟩ := hd
    have hfin := hK ρ' _ _ w' h1 (h.put o.dst h1.le h2 h3) hk
    unfold Oper.wp
    rcases hrun with hrun | ⟨hrun, rfl⟩
    · rw [hrun]; exact hfin
    · rw [hrun]; exact hfin

/-- Operations, by their numbers. -/
def aopsN (P : Program) (C : Tab) (ops : Array Oper) (Q : St → Prop) : List Nat → St → Prop
  | [], s => Q s
  | i :: r, s => match ops[i]? with
    | none => aopsN P C ops Q r s
    | some o => if Region.wanted o (yieldedD ops s.tmps) then aop P C o (aopsN P C ops Q r) s else aopsN P C ops Q r (s.put o.dst (.lit undef))

theorem aopsN_sound {P : Program} {C : Tab} (hT : TabOk P C) {ops : Array Oper} {Q : St → Prop} {Q' : Exit → Act → World → Prop} : ∀ (l : List Nat) {s : St} {a : Act} {w : World} {ρ : Env}, Rl C ρ s a w → aopsN P C ops Q l s →
    (∀ ρ' s' a' w', Ext ρ w ρ' w' → Rl C ρ' s' a' w' → Q s' → Q' .normal a' w') → wpOps P ops Q' l a w
  | [], s, a, w, ρ, h, hq, hQ => hQ ρ s a w (.refl ρ w) h hq
  | i :: r, s, a, w, ρ, h, hq, hQ => by
    simp only [aopsN] at hq
    simp only [wpOps]
    cases ho : ops[i]? with
    | none => rw [ho] at hq; exact aopsN_sound hT r h hq hQ
    | some o =>
      rw [ho] at hq
      simp only at hq ⊢
      rw [yielded_eq h ops]
      split at hq
      · rename_i hw
        rw [if_pos hw]
        refine .inl (aop_sound hT h hq ?_)
        intro ρ' s' a' w' h1 h2 h3
        exact aopsN_sound hT r h2 h3 fun ρ'' s'' a'' w'' k1 k2 k3 => hQ ρ'' s'' a'' w'' (h1.trans k1) k2 k3
      · rename_i hw
        rw [if_neg hw]
        have h2 := h.put o.dst (Env.le.refl ρ) h.real (VV.lit undef)
        exact aopsN_sound hT r h2 hq hQ

/-- Operations, one behind the other. -/
def aops (P : Program) (C : Tab) (ops : Array Oper) (Q : St → Prop) : List Oper → St → Prop
  | [], s => Q s
  | o :: r, s => if Region.wanted o (yieldedD ops s.tmps) then aop P C o (aops P C ops Q r) s else aops P C ops Q r (s.put o.dst (.lit undef))

theorem aopsN_range' {P : Program} {C : Tab} {ops : Array Oper} {Q : St → Prop} : ∀ (l : List Oper) (k : Nat), (∀ j : Nat, l[j]? = ops[k + j]?) → aopsN P C ops Q (List.range' k l.length) = aops P C ops Q l
  | [], k, _ => by funext s; simp [aopsN, aops]
  | o :: l, k, hj => by
    have h0 : ops[k]? = some o := by simpa using (hj 0).symm
    have ih := aopsN_range' (P := P) (C := C) (Q := Q) l (k + 1) (fun j => by have := hj (j + 1); simpa [Nat.add_assoc, Nat.add_comm 1 j] using this)
    funext s
    simp only [List.length_cons, List.range'_succ, aopsN, h0, aops, ih]

theorem aopsN_range {P : Program} {C : Tab} {ops : Array Oper} {Q : St → Prop} : aopsN P C ops Q (List.range ops.size) = aops P C ops Q ops.toList := by
  rw [List.range_eq_range', ← Array.length_toList]
  exact aopsN_range' ops.toList 0 (by simp)

end Go.Ab
