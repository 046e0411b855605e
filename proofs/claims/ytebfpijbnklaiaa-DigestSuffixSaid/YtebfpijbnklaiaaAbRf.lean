/- Ranges over a function, at the level of values: codes whose operations may call yield; a round; the statement. Conditions: the table fits the program. -/
import Derived.Test.YtebfpijbnklaiaaAbS
import Derived.RangeFuncLeaves
import Derived.RangeFuncRecord
import Derived.RangeFuncSeq
import Derived.RangeFuncCalls
import Derived.LoopNIn
import Derived.Test.YtebfpijbnklaiaaAbHs
namespace Go.Ab
section
variable {P : Program} {C : Tab}

/-- A fence that lets everything in, in a round or not. -/
def Wide (F : Fence) : Prop := F = Fence.wide ∨ ∃ l, F = Fence.wide.inRound l
theorem Wide.fn {F : Fence} (h : Wide F) (f : FuncId) : F.fn f := by rcases h with rfl | ⟨l, rfl⟩ <;> trivial
theorem Wide.depth {F : Fence} (h : Wide F) : F.depth = none := by rcases h with rfl | ⟨l, rfl⟩ <;> rfl
theorem Wide.calls {F : Fence} (h : Wide F) {n : Nat} {f : FuncId} {args : Array Value} {w : World} {R : Ending → World → Prop} (hc : Calls P f args w R) : CallsIn F n P f args w R := by
  rcases h with rfl | ⟨l, rfl⟩
  · exact callsIn_wide.2 hc
  · exact (callsIn_wide.2 hc).inRound l
theorem rows_wide {n : Nat} {row : String} {args : Array Value} {w : World} {R : Value → World → Prop} (hc : Rows P row args w R) : RowsIn Fence.wide n P row args w R :=
  fun c cs _ => let ⟨v, w', r, s⟩ := hc c cs; ⟨v, w', r, stepsIn_wide.2 s⟩
theorem Wide.rows {F : Fence} (h : Wide F) {n : Nat} {row : String} {args : Array Value} {w : World} {R : Value → World → Prop} (hc : Rows P row args w R) : RowsIn F n P row args w R := by
  rcases h with rfl | ⟨l, rfl⟩
  · exact rows_wide hc
  · exact (rows_wide hc : RowsIn Fence.wide n P row args w R)

/-- A state, with some marks among the deferred calls. -/
structure RlD (C : Tab) (ds : List Deferred) (ρ : Env) (s : St) (a : Act) (w : World) : Prop where
  real : Real C.sh ρ s.heap w
  tmps : All2 (VV C.sh ρ) a.tmps.toList s.tmps
  defers : a.defers = ds
theorem RlD.low {ds : List Deferred} {ρ : Env} {s : St} {a : Act} {w : World} (h : RlD C ds ρ s a w) : Rl C ρ s { a with defers := [] } w := ⟨h.real, h.tmps, rfl⟩
theorem RlD.ev {ds : List Deferred} {ρ : Env} {s : St} {a : Act} {w : World} (h : RlD C ds ρ s a w) (x : Operand) : VV C.sh ρ (a.eval x) (s.ev x) := by
  have := h.low.ev x
  have e : ({ a with defers := [] } : Act).eval x = a.eval x := by cases x <;> rfl
  rwa [e] at this
theorem RlD.put {ds : List Deferred} {ρ ρ' : Env} {s : St} {a : Act} {w w' : World} {h' : Heap} (h : RlD C ds ρ s a w) (dst : Option Tmp) {v : Value} {d : D} (hle : ρ.le ρ') (hr : Real C.sh ρ' h' w') (hv : VV C.sh ρ' v d) :
    RlD C ds ρ' (St.put ⟨s.tmps, h'⟩ dst d) (a.put dst v) w' := by
  have h1 := h.low.put dst hle hr hv
  refine ⟨h1.real, ?_, by cases dst <;> exact h.defers⟩
  have := h1.tmps
  cases dst <;> exact this

theorem put_back {a : Act} {ds : List Deferred} (h : a.defers = ds) (dst : Option Tmp) (v : Value) : { (({ a with defers := [] } : Act).put dst v) with defers := ds } = a.put dst v := by
  cases dst <;> simp [Act.put, ← h]

theorem aop_nodefer {o : Oper} {K : St → Prop} {s : St} (h : aop P C o K s) : ∀ c, o.op ≠ .defer c := by
  intro c hc
  have h1 : calleeOf C o s = none := by simp [calleeOf, hc]
  unfold aop at h
  rw [h1] at h
  rcases h with ⟨r, h', he, _⟩ | he
  · simp [eff, hc, aeval] at he
  · simp [effN, hc] at he

theorem op_wide (hT : TabOk P C) {F : Fence} (hF : Wide F) {n : Nat} {o : Oper} {K : St → Prop} {s : St} {a : Act} {w : World} {ρ : Env} {ds : List Deferred} (h : RlD C ds ρ s a w) (hk : aop P C o K s) {K' : Act → World → Prop} {Q : Exit → Act → World → Prop}
    (hK : ∀ ρ' s' a' w', Ext ρ w ρ' w' → RlD C ds ρ' s' a' w' → K s' → K' a' w') : o.wpIn F n P a w K' Q := by
  have h0 := aop_sound hT h.low hk (K' := fun b w' => b.defers = [] ∧ K' { b with defers := ds } w') (Q := fun _ _ _ => False)
    (fun ρ' s' a' w' k1 k2 k3 => ⟨k2.defers, hK ρ' s' _ w' k1 ⟨k2.real, k2.tmps, rfl⟩ k3⟩)
  refine ⟨fun f _ => hF.fn f, ?_⟩
  rw [Oper.semAt_eq _ _ _ (aop_nodefer hk)]
  unfold Oper.wp at h0
  have e : ({ a with defers := [] } : Act).eval = a.eval := by funext x; cases x <;> rfl
  rw [e] at h0
  generalize (execOp a.eval o).run P w = res at h0 ⊢
  have hd : F.depth.isSome = true → 1 ≤ n := by rw [hF.depth]; intro h; cases h
  cases res with
  | ok v w' =>
    cases v with
    | value v => obtain ⟨_, h1⟩ := h0; rw [put_back h.defers] at h1; exact h1
    | skip => obtain ⟨_, h1⟩ := h0; rw [put_back h.defers] at h1; exact h1
    | defer d =>
      obtain ⟨h1, _⟩ := h0
      cases hdst : o.dst <;> simp [Act.put, hdst] at h1
    | enter f args =>
      refine ⟨hd, hF.calls (h0.mono ?_)⟩
      intro e w'' hr
      cases e with
      | returned v => obtain ⟨_, h1⟩ := hr; rw [put_back h.defers] at h1; exact h1
      | panicked chain => exact hr.elim
      | outgrown => obtain ⟨_, _, h1⟩ := hr; exact h1.elim
    | row r args =>
      refine ⟨hd, hF.rows (h0.mono ?_)⟩
      rintro v w'' ⟨_, h1⟩
      rw [put_back h.defers] at h1; exact h1
    | _ => exact h0.elim
  | halt x w' => cases x <;> exact h0.elim

/-- Who is asked for a round, with what. -/
def yieldOf (C : Tab) (o : Oper) (s : St) : Option (Nat × List D) :=
  match o.op with
  | .call { callee := .value f, args, argTypes } => match s.ev f with
    | .fn (.yield l) [] => some (l, argsD C s.ev args.toList argTypes.toList)
    | _ => none
  | _ => none

/-- What a call of yield may do: with these arguments' data, from this own memory. -/
abbrev Hook := Nat → List D → Heap → (D → Heap → Prop) → Prop
def noHook : Hook := fun _ _ _ _ => False
def aopY (P : Program) (C : Tab) (Y : Hook) (o : Oper) (K : St → Prop) (s : St) : Prop :=
  match yieldOf C o s with
  | some (l, args) => ∃ R, Y l args s.heap R ∧ ∀ r h', R r h' → K (St.put ⟨s.tmps, h'⟩ o.dst r)
  | none => aop P C o K s
def aopsY (P : Program) (C : Tab) (Y : Hook) (ops : Array Oper) (Q : St → Prop) : List Oper → St → Prop
  | [], s => Q s
  | o :: r, s => if Region.wanted o (yieldedD ops s.tmps) then aopY P C Y o (aopsY P C Y ops Q r) s else aopsY P C Y ops Q r (s.put o.dst (.lit undef))

/-- What is known behind a call. -/
def yPost (C : Tab) (ρ : Env) (w : World) (R : D → Heap → Prop) : Ending → World → Prop := fun e w' => ∃ v r h' ρ', e = .returned v ∧ Ext ρ w ρ' w' ∧ Real C.sh ρ' h' w' ∧ VV C.sh ρ' v r ∧ R r h'

/-- The machine keeps a hook's word. -/
def HookOk (P : Program) (C : Tab) (F : Fence) (Y : Hook) (G : Env → World → Prop) : Prop :=
  ∀ (n : Nat) (ρ : Env) (w : World) (l : Nat) (args : List D) (h : Heap) (R : D → Heap → Prop) (vs : Array Value), Y l args h R → G ρ w → Real C.sh ρ h w → All2 (VV C.sh ρ) vs.toList args → YieldAt F n P l vs w (yPost C ρ w R)
theorem noHook_ok {F : Fence} {G : Env → World → Prop} : HookOk P C F noHook G := fun _ _ _ _ _ _ _ _ h => h.elim

/-- What is so and stays, whatever comes. -/
def Stays (G : Env → World → Prop) : Prop := ∀ ρ w ρ' w', Ext ρ w ρ' w' → G ρ w → G ρ' w'

/-- An iterator's contract: of what it does, if its yield does as the hook says. -/
def YSpec (P : Program) (C : Tab) (f : FuncId) (args : List D) (h : Heap) (Y : Hook) (R : D → Heap → Prop) : Prop :=
  (∃ fn, P.funcs[f]? = some fn ∧ fn.body.isSome = true ∧ (fn.name == "runtime.NumGoroutine") = false) ∧
  ∀ (F : Fence) (n : Nat) (G : Env → World → Prop), Wide F → F.round = none → HookOk P C F Y G → Stays G → ∀ (ρ : Env) (w : World) (vs : Array Value), G ρ w → Real C.sh ρ h w → All2 (VV C.sh ρ) vs.toList args →
    CallsIn F n P f vs w (yPost C ρ w R)

/-- The slots of a round. -/
def setPs : List D → List Tmp → List D → List D
  | ts, t :: r, d :: ds => setPs (ts.set t d) r ds
  | ts, _, _ => ts

def awpY (P : Program) (C : Tab) : Code → Bool → Hook → (AExit → St → Prop) → St → Prop
  | .skip, _, _, Q, s => Q .normal s
  | .region _ ops draw, _, Y, Q, s => draw = false ∧ aopsY P C Y ops (Q .normal) ops.toList s
  | .seq a b, o, Y, Q, s => awpY P C a o Y (AExit.then (awpY P C b o Y Q) Q) s
  | .cond c a b, o, Y, Q, s => match s.ev c with
    | .lit (.bool t) => (t = true → awpY P C a o Y Q s) ∧ (t = false → awpY P C b o Y Q s)
    | _ => False
  | .block id c, o, Y, Q, s => awpY P C c o Y (AExit.inBlock id Q) s
  | .loop c, o, Y, Q, s => ∃ (I : Nat → St → Prop) (n : Nat), I n s ∧ ∀ n s, I n s → awpY P C c o Y (AExit.then (fun s' => ∃ m, m < n ∧ I m s') Q) s
  | .exit id, _, _, Q, s => Q (.exit id) s
  | .ret, _, _, Q, s => Q .ret s
  | .label _, _, _, Q, s => Q .normal s
  | .rangeFunc g ps asg body, o, _, Q, s => o = true ∧ match s.ev g with
    | .fn (.func f) caps => ∀ l, ∃ R0, YSpec P C f (.fn (.yield l) [] :: caps) s.heap (fun l' args h R => l' = l ∧ args.length = ps.size ∧
        awpY P C asg false noHook (fun e s1 => match e with | .normal => awpY P C body false noHook (fun e s2 => match e with | .normal => R (.lit (.bool true)) s2.heap | _ => False) s1 | _ => False) ⟨setPs s.tmps ps.toList args, h⟩) R0 ∧
        ∀ r h', R0 r h' → Q .normal ⟨s.tmps, h'⟩
    | _ => False
  | _, _, _, _, _ => False

/-- A state, with marks of loops among the deferred calls. -/
def Marks (N : Nat) (ρ : Env) (w : World) : List Deferred → Prop
  | [] => True
  | d :: r => (∃ D, N ≤ D ∧ d = { target := .collected D, args := #[] } ∧ w.heap[D]? = some (.deferred (some [])) ∧ ¬ ρ.own D ∧ ∀ x ∈ r, x ≠ d) ∧ Marks N ρ w r
theorem Marks.ext {N : Nat} {ρ ρ' : Env} {w w' : World} (k : Ext ρ w ρ' w') : ∀ {ds : List Deferred}, Marks N ρ w ds → Marks N ρ' w' ds
  | [], _ => trivial
  | d :: r, ⟨⟨D, h0, h1, h2, h3, h4⟩, h5⟩ => by
    have hlt : D < w.heap.size := (Array.getElem?_eq_some_iff.1 h2).1
    exact ⟨⟨D, h0, h1, (k.blk D hlt h3).trans h2, fun ho => h3 (k.own D hlt ho), h4⟩, h5.ext k⟩
theorem Marks.lt {N : Nat} {ρ : Env} {w : World} : ∀ {ds : List Deferred}, Marks N ρ w ds → ∀ x ∈ ds, ∃ D, D < w.heap.size ∧ x = { target := .collected D, args := #[] }
  | [], _, x, hx => by cases hx
  | d :: r, ⟨⟨D, _, h1, h2, _, _⟩, h5⟩, x, hx => by
    rcases List.mem_cons.1 hx with rfl | hx
    · exact ⟨D, (Array.getElem?_eq_some_iff.1 h2).1, h1⟩
    · exact h5.lt x hx

structure RlM (C : Tab) (N : Nat) (ρ : Env) (s : St) (a : Act) (w : World) : Prop where
  real : Real C.sh ρ s.heap w
  tmps : All2 (VV C.sh ρ) a.tmps.toList s.tmps
  marks : Marks N ρ w a.defers
  base : N ≤ w.heap.size
theorem RlM.d {N : Nat} {ρ : Env} {s : St} {a : Act} {w : World} (h : RlM C N ρ s a w) : RlD C a.defers ρ s a w := ⟨h.real, h.tmps, rfl⟩
theorem RlD.m {N : Nat} {ρ ρ' : Env} {s s₀ : St} {a a' : Act} {w w' : World} (h : RlD C a.defers ρ' s a' w') (k : Ext ρ w ρ' w') (hm : RlM C N ρ s₀ a w) : RlM C N ρ' s a' w' := ⟨h.real, h.tmps, by rw [h.defers]; exact hm.marks.ext k, Nat.le_trans hm.base k.size⟩

theorem yop_wide {F : Fence} (hF : Wide F) {N : Nat} {Y : Hook} {G : Env → World → Prop} (hY : HookOk P C F Y G) (hT : TabOk P C) {n : Nat} {o : Oper} {K : St → Prop} {s : St} {a : Act} {w : World} {ρ : Env} (h : RlM C N ρ s a w) (hg : G ρ w) (hk : aopY P C Y o K s)
    {K' : Act → World → Prop} {Q : Exit → Act → World → Prop} (hK : ∀ ρ' s' a' w', Ext ρ w ρ' w' → RlM C N ρ' s' a' w' → K s' → K' a' w') : o.wpIn F n P a w K' Q := by
  unfold aopY at hk
  cases hy : yieldOf C o s with
  | none => rw [hy] at hk; exact op_wide hT hF h.d hk fun ρ' s' a' w' k1 k2 k3 => hK ρ' s' a' w' k1 (k2.m k1 h) k3
  | some la =>
    obtain ⟨l, args⟩ := la
    rw [hy] at hk
    obtain ⟨R, hYR, hR⟩ := hk
    unfold yieldOf at hy
    split at hy
    case h_2 => cases hy
    rename_i f xs ts ho
    split at hy
    case h_2 => cases hy
    rename_i l' hef
    cases hy
    have hf := h.d.ev f
    rw [hef] at hf
    have hv : a.eval f = .func (.yield l) #[] #[] := by
      generalize a.eval f = v at hf
      cases hf with
      | pure hf => cases hf
      | @fn _ cv _ h1 h2 => simp only [List.length_nil] at h1; rw [List.eq_nil_of_length_eq_zero h1]
    have hargs : All2 (VV C.sh ρ) (xs.map a.eval).toList (argsD C s.ev xs.toList ts.toList) := by simpa using args_sound h.d.ev xs.toList ts.toList
    obtain ⟨fn, tm, ag, bd, hrun, hround⟩ := hY (n - 1) ρ w l _ s.heap R _ hYR hg h.real hargs
    have hd : F.depth.isSome = true → 1 ≤ n := by rw [hF.depth]; intro h; cases h
    refine ⟨fun f _ => hF.fn f, ?_⟩
    rw [Oper.semAt_eq _ _ _ (by intro c hc; rw [ho] at hc; cases hc)]
    have hexec : (execOp a.eval o).run P w = .ok (.round l fn tm ag bd) w := by
      rw [execOp, ho]
      simp only [resolve, hv, Deferred.ofValue, Sem.run_bind, Sem.run_pure, Result.andThen_ok, invoke, Array.empty_append, hrun]
    rw [hexec]
    refine ⟨hd, hround.mono ?_⟩
    rintro e w' ⟨v, r, h', ρ', rfl, k1, k2, k3, k4⟩
    exact hK ρ' _ _ w' k1 ((h.d.put o.dst k1.le k2 k3).m k1 h) (hR r h' k4)

theorem RlM.skip {N : Nat} {ρ : Env} {s : St} {a : Act} {w : World} (h : RlM C N ρ s a w) (dst : Option Tmp) : RlM C N ρ (s.put dst (.lit undef)) (a.put dst undef) w := by
  have := (h.d.put dst (.refl ρ) h.real (.lit undef)).m (.refl ρ w) h
  exact this

theorem yops_wide {F : Fence} (hF : Wide F) {N : Nat} {Y : Hook} {G : Env → World → Prop} (hY : HookOk P C F Y G) (hG : Stays G) (hT : TabOk P C) {n : Nat} {ops : Array Oper} {Q : St → Prop} {Q' : Exit → Act → World → Prop} : ∀ (l : List Oper) {s : St} {a : Act} {w : World} {ρ : Env}, RlM C N ρ s a w → G ρ w → aopsY P C Y ops Q l s →
    (∀ ρ' s' a' w', Ext ρ w ρ' w' → RlM C N ρ' s' a' w' → Q s' → Q' .normal a' w') → wpListIn F n P ops Q' l a w
  | [], s, a, w, ρ, h, _, hq, hQ => hQ ρ s a w (.refl ρ w) h hq
  | o :: r, s, a, w, ρ, h, hg, hq, hQ => by
    refine wpListIn_step fun K hK => ?_
    have hy : yielded ops a.tmps = yieldedD ops s.tmps := yielded_eq (a := { a with defers := [] }) h.d.low ops
    simp only [aopsY] at hq
    rw [hy]
    split
    · rename_i hw
      rw [if_pos hw] at hq
      exact yop_wide hF hY hT h hg hq fun ρ' s' a' w' k1 k2 k3 => hK _ _ (yops_wide hF hY hG hT r k2 (hG _ _ _ _ k1 hg) k3 fun ρ'' s'' a'' w'' j1 j2 j3 => hQ ρ'' s'' a'' w'' (k1.trans j1) j2 j3)
    · rename_i hw
      rw [if_neg hw] at hq
      exact ⟨fun f _ => hF.fn f, hK _ _ (yops_wide hF hY hG hT r (h.skip o.dst) hg hq hQ)⟩

/-- A block that is nobody's changes. -/
theorem real_putObj {T : TypeId → Sh} {ρ : Env} {h : Heap} {w : World} (r : Real T ρ h w) {l : Nat} {o : Obj} (o' : Obj) (hl : w.heap[l]? = some o) (hc : o.isCells = false) (ho : ¬ ρ.own l) : Real T ρ h (w.putObj l o') := by
  have hne : ∀ B, ρ.own B → (w.putObj l o').heap[B]? = w.heap[B]? := fun B hB => World.putObj_heap_other (by rintro rfl; exact ho hB)
  refine ⟨?_, r.lenB, r.lenT, r.bown, ?_, r.inj, ?_, r.tinj, ?_⟩
  · intro B i v hv
    obtain ⟨c, e, fr, hb, hi⟩ := r.st B i v hv
    refine ⟨c, e, fr, ?_, hi⟩
    rw [World.putObj_heap_other]; exact hb
    rintro rfl; rw [hl] at hb; cases hb; cases hc
  · intro b B sh sh' d hb hd hn
    obtain ⟨h1, h2, h4, h5⟩ := r.box b B sh sh' d hb hd hn
    refine ⟨h1, h2, h4, h5.keep (.refl ρ) (fun x hx => by rw [hne B (r.bown b B sh hb)]; exact hx) fun m Bm hm => ⟨fun x hx => ?_, fun _ h => h⟩⟩
    rw [hne Bm (r.bown m Bm _ hm)] at hx; exact hx
  · intro t B n lim ht hl'
    obtain ⟨h1, h2, ⟨c, e, h3, h4⟩, h5⟩ := r.tok t B n lim ht hl'
    exact ⟨h1, h2, ⟨c, e, by rw [hne B h1]; exact h3, h4⟩, h5⟩
  · intro B hB
    simpa using r.lt B hB

theorem Marks.putLoop {N : Nat} {ρ : Env} {w : World} {l : Nat} {r : Loop} (o : Obj) (hl : w.heap[l]? = some (.loop r)) : ∀ {ds : List Deferred}, Marks N ρ w ds → Marks N ρ (w.putObj l o) ds
  | [], _ => trivial
  | d :: ds, ⟨⟨D, h0, h1, h2, h3, h4⟩, h5⟩ => by
    refine ⟨⟨D, h0, h1, ?_, h3, h4⟩, h5.putLoop o hl⟩
    rw [World.putObj_heap_other]; exact h2
    rintro rfl; rw [hl] at h2; cases h2

/-- What happens while a block is otherwise. -/
theorem Ext.hole {ρ ρ₁ ρ₂ : Env} {w w₁ w₂ : World} {l : Nat} {o x : Obj} (h : Ext ρ w ρ₁ w₁) (k : Ext ρ₁ (w₁.putObj l x) ρ₂ w₂) (hl : w.heap[l]? = some o) : Ext ρ w ρ₂ (w₂.putObj l o) := by
  have hlt : l < w.heap.size := (Array.getElem?_eq_some_iff.1 hl).1
  have hs : w₁.heap.size ≤ w₂.heap.size := by simpa using k.size
  refine ⟨h.le.trans k.le, k.os.trans h.os, k.tape.trans h.tape, k.output.trans h.output, by simpa using Nat.le_trans h.size hs, ?_, ?_, ?_⟩
  · intro i hi hn
    by_cases hil : i = l
    · subst hil
      rw [World.putObj_heap_same (by have := h.size; omega), hl]
    · rw [World.putObj_heap_other hil, k.blk i (by simpa using Nat.lt_of_lt_of_le hi h.size) (fun x => hn (h.own i hi x)), World.putObj_heap_other hil, h.blk i hi hn]
  · intro i hi hn
    exact h.own i hi (k.own i (by simpa using Nat.lt_of_lt_of_le hi h.size) hn)
  · intro B i v hB hv
    exact (k.old B i v (by simpa using Nat.lt_of_lt_of_le hB h.size) hv).elim (fun x => .inl (h.own B hB x)) (fun x => h.old B i v hB x)

/-- A block that is new changes. -/
theorem Ext.late {ρ ρ₁ : Env} {w w₁ : World} {l : Nat} (h : Ext ρ w ρ₁ w₁) (x : Obj) (hl : w.heap.size ≤ l) : Ext ρ w ρ₁ (w₁.putObj l x) := by
  refine ⟨h.le, h.os, h.tape, h.output, by simpa using h.size, ?_, h.own, h.old⟩
  intro i hi hn
  rw [World.putObj_heap_other (by omega), h.blk i hi hn]

theorem setPs_ok {T : TypeId → Sh} {ρ : Env} : ∀ (ps : List Tmp) (vs : List Value) (ds : List D) (t : Array Value) (ts : List D), All2 (VV T ρ) vs ds → All2 (VV T ρ) t.toList ts →
    All2 (VV T ρ) ((ps.zip vs).foldl (fun t (x : Tmp × Value) => t.setIfInBounds x.1 x.2) t).toList (setPs ts ps ds)
  | [], _, _, t, ts, _, h => by simpa [setPs] using h
  | p :: ps, [], ds, t, ts, ha, h => by
    have : ds = [] := List.eq_nil_of_length_eq_zero (by rw [← ha.1]; rfl)
    subst this; simpa [setPs] using h
  | p :: ps, v :: vs, [], t, ts, ha, h => by have := ha.1; simp at this
  | p :: ps, v :: vs, d :: ds, t, ts, ha, h => by
    simp only [List.zip_cons_cons, List.foldl_cons, setPs]
    refine setPs_ok ps vs ds _ _ ha.head.2 ?_
    rw [Array.toList_setIfInBounds]
    exact h.set p ha.head.1

theorem callFunc_run {f : FuncId} (h : ∃ fn, P.funcs[f]? = some fn ∧ fn.body.isSome = true ∧ (fn.name == "runtime.NumGoroutine") = false) (vs : Array Value) (w : World) : (callFunc f vs).run P w = .ok (.enter f vs) w := by
  obtain ⟨fn, hfn, hbody, hname⟩ := h
  have hb : fn.body.isNone = false := by cases hb : fn.body <;> simp [hb] at hbody ⊢
  have hname' : fn.name ≠ "runtime.NumGoroutine" := by simpa using hname
  have hb' : fn.body ≠ none := by intro e; simp [e] at hb
  simp [callFunc, hfn, hname', hb']
end
end Go.Ab
namespace Go.Ab
section
variable {P : Program} {C : Tab}

def mkLoop (fn : FuncId) (tmps : Array Value) (ps : Array Tmp) (asg body : Code) (D : Nat) (st : LoopState) : Loop := { state := st, pending := none, fn, tmps, params := ps, assign := asg, body, defers := D }

theorem awpY_sound (hT : TabOk P C) {c : Code} : ∀ {F : Fence} {n N : Nat} {o : Bool} {Y : Hook} {G : Env → World → Prop} {Q : AExit → St → Prop} {Q' : Exit → Act → World → Prop} {s : St} {a : Act} {w : World} {ρ : Env},
    Wide F → (o = true → F.round = none) → HookOk P C F Y G → Stays G → RlM C N ρ s a w → G ρ w → awpY P C c o Y Q s →
    (∀ e ρ' s' a' w', Ext ρ w ρ' w' → RlM C N ρ' s' a' w' → Q e s' → Q' e.con a' w') → c.wpIn F n P Q' a w := by
  induction c with
  | skip => intro F n N o Y G Q Q' s a w ρ hF ho hY hG h hg hq hQ; exact wpIn_skip (hQ .normal ρ s a w (.refl ρ w) h hq)
  | region id ops draw =>
    intro F n N o Y G Q Q' s a w ρ hF ho hY hG h hg hq hQ
    obtain ⟨rfl, hq⟩ := hq
    exact wpIn_region_list (yops_wide hF hY hG hT _ h hg hq fun ρ' s' a' w' k1 k2 k3 => hQ .normal ρ' s' a' w' k1 k2 k3)
  | seq x y ihx ihy =>
    intro F n N o Y G Q Q' s a w ρ hF ho hY hG h hg hq hQ
    refine wpIn_seq (ihx hF ho hY hG h hg hq ?_)
    intro e ρ' s' a' w' k1 k2 k3
    cases e with
    | normal => exact ihy hF ho hY hG k2 (hG _ _ _ _ k1 hg) k3 fun e ρ'' s'' a'' w'' j1 j2 j3 => hQ e ρ'' s'' a'' w'' (k1.trans j1) j2 j3
    | exit i => exact hQ (.exit i) ρ' s' a' w' k1 k2 k3
    | ret => exact hQ .ret ρ' s' a' w' k1 k2 k3
  | cond c x y ihx ihy =>
    intro F n N o Y G Q Q' s a w ρ hF ho hY hG h hg hq hQ
    simp only [awpY] at hq
    split at hq
    · rename_i t hc
      have hv := h.d.ev c
      rw [hc] at hv
      exact wpIn_cond_split (vv_lit hv) (fun ht => ihx hF ho hY hG h hg (hq.1 ht) hQ) (fun ht => ihy hF ho hY hG h hg (hq.2 ht) hQ)
    · exact hq.elim
  | block id c ih =>
    intro F n N o Y G Q Q' s a w ρ hF ho hY hG h hg hq hQ
    refine wpIn_block (ih hF ho hY hG h hg hq ?_)
    intro e ρ' s' a' w' k1 k2 k3
    cases e with
    | normal => exact hQ .normal ρ' s' a' w' k1 k2 k3
    | exit i =>
      simp only [AExit.inBlock] at k3
      simp only [AExit.con, Exit.inBlock]
      split
      · rename_i hi; rw [if_pos hi] at k3; exact hQ .normal ρ' s' a' w' k1 k2 k3
      · rename_i hi; rw [if_neg hi] at k3; exact hQ (.exit i) ρ' s' a' w' k1 k2 k3
    | ret => exact hQ .ret ρ' s' a' w' k1 k2 k3
  | loop c ih =>
    intro F n N o Y G Q Q' s a w ρ hF ho hY hG h hg hq hQ
    obtain ⟨I, m, hI, hround⟩ := hq
    refine wpIn_loop_rounds (m + 1) ?_
    have key : ∀ M m s a w ρ, m < M → RlM C N ρ s a w → G ρ w → I m s → (∀ e ρ' s' a' w', Ext ρ w ρ' w' → RlM C N ρ' s' a' w' → (∃ e', e = e' ∧ e ≠ .normal ∧ Q e s') → Q' e.con a' w') → Code.roundsIn F n P c Q' M a w := by
      intro M
      induction M with
      | zero => intro m s a w ρ hm; omega
      | succ M ihM =>
        intro m s a w ρ hm h hg hI hQ
        rw [roundsIn_succ]
        refine ih hF ho hY hG h hg (hround m s hI) ?_
        intro e ρ' s' a' w' k1 k2 k3
        cases e with
        | normal =>
          obtain ⟨m', hm', hI'⟩ := k3
          exact ihM m' s' a' w' ρ' (by omega) k2 (hG _ _ _ _ k1 hg) hI' fun e ρ'' s'' a'' w'' j1 j2 j3 => hQ e ρ'' s'' a'' w'' (k1.trans j1) j2 j3
        | exit i => exact hQ (.exit i) ρ' s' a' w' k1 k2 ⟨_, rfl, by simp, k3⟩
        | ret => exact hQ .ret ρ' s' a' w' k1 k2 ⟨_, rfl, by simp, k3⟩
    refine key (m + 1) m s a w ρ (by omega) h hg hI ?_
    rintro e ρ' s' a' w' k1 k2 ⟨_, _, _, k3⟩
    exact hQ e ρ' s' a' w' k1 k2 k3
  | exit id => intro F n N o Y G Q Q' s a w ρ hF ho hY hG h hg hq hQ; exact wpIn_exit (hQ (.exit id) ρ s a w (.refl ρ w) h hq)
  | ret => intro F n N o Y G Q Q' s a w ρ hF ho hY hG h hg hq hQ; exact wpIn_ret (hQ .ret ρ s a w (.refl ρ w) h hq)
  | label l => intro F n N o Y G Q Q' s a w ρ hF ho hY hG h hg hq hQ; exact wpIn_label (hQ .normal ρ s a w (.refl ρ w) h hq)
  | scope c _ => intro F n N o Y G Q Q' s a w ρ hF ho hY hG h hg hq; exact hq.elim
  | goto l => intro F n N o Y G Q Q' s a w ρ hF ho hY hG h hg hq; exact hq.elim
  | refuse why => intro F n N o Y G Q Q' s a w ρ hF ho hY hG h hg hq; exact hq.elim
  | rangeFunc g ps asg body iha ihb =>
    intro F n N o Y G Q Q' s a w ρ hF ho hY hG h hg hq hQ
    obtain ⟨ho', hq⟩ := hq
    have hro := ho ho'
    split at hq
    case h_2 => exact hq.elim
    rename_i f caps hev
    have hf := h.d.ev g
    rw [hev] at hf
    have hv : ∃ cv : List Value, a.eval g = .func (.func f) #[] cv.toArray ∧ All2 (VV C.sh ρ) cv caps := by
      generalize a.eval g = v at hf
      cases hf with
      | pure hf => cases hf
      | fn h1 h2 => exact ⟨_, rfl, h1, h2⟩
    obtain ⟨cv, hv, hcv⟩ := hv
    obtain ⟨R0, hspec, hR0⟩ := hq (w.heap.size + 1)
    refine wpIn_rangeFunc fun fn hfn => ?_
    rw [hro]
    have hn1 : ¬ ρ.own w.heap.size := fun x => Nat.lt_irrefl _ (h.real.lt _ x)
    have hn2 : ¬ ρ.own (w.heap.size + 1) := fun x => by have := h.real.lt _ x; omega
    obtain ⟨rec, hrec⟩ : ∃ rec : LoopState → Loop, rec = mkLoop fn a.tmps ps asg body w.heap.size := ⟨_, rfl⟩
    obtain ⟨W1, hW1⟩ : ∃ W1, (w.alloc (.deferred (some []))).alloc (.loop (rec .ready)) = W1 := ⟨_, rfl⟩
    have hx1 : Ext ρ w ρ W1 := by rw [← hW1]; exact (Ext.alloc ρ w _).trans (Ext.alloc ρ _ _)
    have hr1 : Real C.sh ρ s.heap W1 := by rw [← hW1]; exact (h.real.alloc _).alloc _
    have hL1 : W1.heap[w.heap.size + 1]? = some (.loop (rec .ready)) := by
      rw [← hW1]; have := World.alloc_heap_new (w.alloc (.deferred (some []))) (.loop (rec .ready)); rwa [World.size_alloc] at this
    have hK1 : W1.heap[w.heap.size]? = some (.deferred (some [])) := by
      rw [← hW1, heap_alloc_old (h := by simp)]; exact World.alloc_heap_new w _
    have hsz : W1.heap.size = w.heap.size + 2 := by rw [← hW1]; simp
    have hargs : All2 (VV C.sh ρ) (#[Value.func (.yield (w.heap.size + 1)) #[] #[]] ++ cv.toArray).toList (.fn (.yield (w.heap.size + 1)) [] :: caps) := by
      simp only [List.append_toArray, List.cons_append, List.nil_append]
      exact All2.cons (.fn (caps := []) rfl (fun i c d hc => by simp at hc)) hcv
    refine ⟨w.heap.size + 1, [{ target := .collected w.heap.size, args := #[] }], W1, { target := .fn (.func f) cv.toArray, args := #[.func (.yield (w.heap.size + 1)) #[] #[]] }, W1, f,
      #[.func (.yield (w.heap.size + 1)) #[] #[]] ++ cv.toArray, W1, ?_, ?_, ?_, ?_, fun hd => ?_, ?_⟩
    · rw [← hW1, hrec]; exact run_enterLoop_outer _ _ _ _ _
    · simp only [resolve, hv]
      simp [go_sem]
    · intro f' _; exact hF.fn f'
    · simp only [invoke, callFunc_run hspec.1]
    · rw [hF.depth] at hd; cases hd
    · have hFw : F = Fence.wide := by
        rcases hF with h | ⟨l, rfl⟩
        · exact h
        · cases hro
      refine (hspec.2 F (n - 1) (fun ρ' w' => ρ.le ρ' ∧ w'.heap[w.heap.size + 1]? = some (.loop (rec .ready)) ∧ ¬ ρ'.own (w.heap.size + 1)) hF hro ?_ ?_ ρ W1 _ ⟨.refl ρ, hL1, hn2⟩ hr1 hargs).mono ?_
      · -- a round
        rintro m ρ1 w1 l' args h1 R vs ⟨rfl, hlen, hA⟩ ⟨hle, hL, hno⟩ hreal hvs
        have hl1 : w.heap.size + 1 < w1.heap.size := (Array.getElem?_eq_some_iff.1 hL).1
        have hp : (rec .ready).params = ps := by rw [hrec]; rfl
        have ht : (rec .ready).tmps = a.tmps := by rw [hrec]; rfl
        have hfn' : (rec .ready).fn = fn := by rw [hrec]; rfl
        have has : (rec .ready).assign = asg := by rw [hrec]; rfl
        have hbd : (rec .ready).body = body := by rw [hrec]; rfl
        have hst : (rec .ready).state = .ready := by rw [hrec]; rfl
        refine ⟨_, _, _, _, run_yield hL (by rw [hp, ← hlen, ← hvs.1]; simp), ?_⟩
        rw [hp, ht, hfn', has, hbd]
        have hslots : All2 (VV C.sh ρ1) ((ps.zip vs).foldl (fun tmps (t, a) => tmps.setIfInBounds t a) a.tmps).toList (setPs s.tmps ps.toList args) := by
          have := setPs_ok ps.toList vs.toList args a.tmps s.tmps hvs (h.tmps.mono fun _ _ => VV.mono hle)
          rw [← Array.foldl_toList, Array.toList_zip]
          exact this
        have hw1 : Wide (F.inRound (w.heap.size + 1)) := .inr ⟨_, by rw [hFw]⟩
        refine roundIn_of_wpIn (hF.fn fn) ?_
        refine iha (N := 0) (ρ := ρ1) (G := fun _ _ => True) hw1 (fun x => by cases x) noHook_ok (fun _ _ _ _ _ _ => trivial) ⟨hreal, hslots, trivial, Nat.zero_le _⟩ trivial hA ?_
        intro e ρ2 s2 a2 w2 k1 k2 k3
        cases e with
        | exit i => exact k3.elim
        | ret => exact k3.elim
        | normal =>
          have hno2 : ¬ ρ2.own (w.heap.size + 1) := fun x => hno (k1.own _ hl1 x)
          have hL2 : w2.heap[w.heap.size + 1]? = some (.loop (rec .ready)) := (k1.blk _ hl1 hno).trans hL
          refine ⟨_, run_beginRound hL2 hst, ?_⟩
          obtain ⟨w2', hw2'⟩ : ∃ w2', w2' = w2.putObj (w.heap.size + 1) (.loop { rec .ready with state := .busy }) := ⟨_, rfl⟩
          rw [← hw2']
          have hL2' : w2'.heap[w.heap.size + 1]? = some (.loop { rec .ready with state := .busy }) := by
            rw [hw2']; exact World.putObj_heap_same (Array.getElem?_eq_some_iff.1 hL2).1
          have hreal2 : Real C.sh ρ2 s2.heap w2' := by rw [hw2']; exact real_putObj k2.real _ hL2 rfl hno2
          have hl2 : w.heap.size + 1 < w2'.heap.size := (Array.getElem?_eq_some_iff.1 hL2').1
          refine ihb (N := 0) (ρ := ρ2) (G := fun _ _ => True) hw1 (fun x => by cases x) noHook_ok (fun _ _ _ _ _ _ => trivial) ⟨hreal2, k2.tmps, by rw [hw2']; exact k2.marks.putLoop _ hL2, Nat.zero_le _⟩ trivial k3 ?_
          · intro e ρ3 s3 a3 w3 j1 j2 j3
            cases e with
            | exit i => exact j3.elim
            | ret => exact j3.elim
            | normal =>
              have hno3 : ¬ ρ3.own (w.heap.size + 1) := fun x => hno2 (j1.own _ hl2 x)
              have hL3 : w3.heap[w.heap.size + 1]? = some (.loop { rec .ready with state := .busy }) := (j1.blk _ hl2 hno2).trans hL2'
              refine ⟨_, _, run_endRound none hL3, .bool true, .lit (.bool true), s3.heap, ρ3, rfl, ?_, ?_, .lit _, j3⟩
              · have := Ext.hole (o := .loop (rec .ready)) (x := .loop { rec .ready with state := .busy }) k1 (by rw [← hw2']; exact j1) hL
                rw [hrec] at this ⊢; exact this
              · exact real_putObj j2.real _ hL3 rfl hno3
      · rintro ρ1 w1 ρ2 w2 k ⟨hle, hL, hno⟩
        have hl : w.heap.size + 1 < w1.heap.size := (Array.getElem?_eq_some_iff.1 hL).1
        exact ⟨hle.trans k.le, (k.blk _ hl hno).trans hL, fun x => hno (k.own _ hl x)⟩
      · rintro e w3 ⟨v, r, h', ρ', rfl, k1, k2, k3, k4⟩
        have hL3 : w3.heap[w.heap.size + 1]? = some (.loop (rec .ready)) := (k1.blk _ (by omega) hn2).trans hL1
        have hno3 : ¬ ρ'.own (w.heap.size + 1) := fun x => hn2 (k1.own _ (by omega) x)
        have hK3 : w3.heap[w.heap.size]? = some (.deferred (some [])) := (k1.blk _ (by omega) hn1).trans hK1
        have hext : Ext ρ w ρ' (w3.putObj (w.heap.size + 1) (.loop { rec .ready with state := .exhausted })) := (hx1.trans k1).late _ (by omega)
        refine ⟨none, w3.putObj (w.heap.size + 1) (.loop { rec .ready with state := .exhausted }), ?_, ?_⟩
        · have := run_endLoop (P := P) hL3 (by rw [hrec]; simp [mkLoop])
          rw [this, hrec]; rfl
        · refine hQ .normal ρ' ⟨s.tmps, h'⟩ _ _ hext ⟨real_putObj k2 _ hL3 rfl hno3, h.tmps.mono fun _ _ => VV.mono (hx1.trans k1).le, ?_, Nat.le_trans h.base hext.size⟩ (hR0 r h' k4)
          refine ⟨⟨w.heap.size, h.base, rfl, ?_, fun x => hn1 (k1.own w.heap.size (by omega) x), ?_⟩, h.marks.ext hext⟩
          · rw [World.putObj_heap_other (by omega)]; exact hK3
          · intro x hx hxe
            obtain ⟨D, hD, rfl⟩ := h.marks.lt x hx
            injection hxe with h1 h2
            injection h1 with h1
            omega

theorem leaves_marks (hT : TabOk P C) {F : Fence} {n : Nat} {fn : Func} {tmps : Array Value} {h : Heap} {ρ0 ρ : Env} {w0 : World} {R : Ending → World → Prop}
    (hend : ∀ w', Real C.sh ρ h w' → Ext ρ0 w0 ρ w' → ∃ v, (results fn tmps).run P w' = .ok v w' ∧ R (.returned v) w') :
    ∀ (ds : List Deferred) (w : World), Marks w0.heap.size ρ w ds → Real C.sh ρ h w → Ext ρ0 w0 ρ w → LeavesInM F n P fn tmps R ds .returning w
  | [], w, _, hr, hx => hend w hr hx
  | d :: ds, w, ⟨⟨D, h0, h1, h2, h3, h4⟩, h5⟩, hr, hx => by
    refine ⟨by simp, .inl ⟨D, w.putObj D (.deferred none), by rw [h1], run_takeDeferred h2, leaves_marks hT hend ds _ ?_ (real_putObj hr _ h2 rfl h3) (hx.late _ h0)⟩⟩
    have key : ∀ {l : List Deferred}, (∀ x ∈ l, x ≠ d) → Marks w0.heap.size ρ w l → Marks w0.heap.size ρ (w.putObj D (.deferred none)) l := by
      intro l
      induction l with
      | nil => intro _ _; trivial
      | cons x l ih =>
        rintro hne ⟨⟨D', k0, k1, k2, k3, k4⟩, k5⟩
        refine ⟨⟨D', k0, k1, ?_, k3, k4⟩, ih (fun y hy => hne y (List.mem_cons_of_mem _ hy)) k5⟩
        rw [World.putObj_heap_other]; exact k2
        rintro rfl
        exact hne x (List.mem_cons_self ..) (by rw [k1, h1])
    exact key h4 h5

/-- A function's contract, out of its body, which may call yield or go over what an iterator gives. -/
theorem YSpec.of_body (hT : TabOk P C) {f : FuncId} {fn : Func} {c : Code} {args : List D} {h : Heap} {Y : Hook} {R : D → Heap → Prop} (hf : P.funcs[f]? = some fn) (hb : fn.body = some c) (hn : (fn.name == "runtime.NumGoroutine") = false)
    (hw : awpY P C c true Y (fun e s => match e with | .exit _ => False | _ => ∃ r, resultsD C s fn.results.toList = some r ∧ R r s.heap) ⟨args ++ List.replicate (fn.ntmps - args.length) (.lit undef), h⟩) :
    YSpec P C f args h Y R := by
  refine ⟨⟨fn, hf, by rw [hb]; rfl, hn⟩, ?_⟩
  intro F n G hF hro hY hG ρ w vs hg hr hv
  refine callsIn_of_wp_marks hf hb (hF.fn f) ?_ hro
  have hlen : vs.size = args.length := by rw [← Array.length_toList]; exact hv.1
  have h0 : RlM C w.heap.size ρ ⟨args ++ List.replicate (fn.ntmps - args.length) (.lit undef), h⟩ { tmps := vs ++ Array.replicate (fn.ntmps - vs.size) undef, defers := [] } w := by
    refine ⟨hr, ?_, trivial, Nat.le_refl _⟩
    simp only [Array.toList_append, Array.toList_replicate, hlen]
    refine hv.append ⟨by simp, ?_⟩
    intro i c d hc hd
    rw [List.getElem?_replicate] at hc hd
    split at hc
    · rename_i hi; rw [if_pos hi] at hd; cases hc; cases hd; exact .lit _
    · cases hc
  have fin : ∀ (s' : St) (a' : Act) (w' : World) (ρ' : Env), Ext ρ w ρ' w' → RlM C w.heap.size ρ' s' a' w' → (∃ r, resultsD C s' fn.results.toList = some r ∧ R r s'.heap) →
      LeavesInM F n P fn a'.tmps (yPost C ρ w R) a'.defers .returning w' := by
    rintro s' a' w' ρ' k1 k2 ⟨r, hres, hR⟩
    refine leaves_marks hT ?_ _ _ k2.marks k2.real k1
    intro w'' j1 j2
    obtain ⟨v, hv, hvd⟩ := results_sound hT (a := { a' with defers := [] }) ⟨j1, k2.tmps, rfl⟩ hres
    exact ⟨v, hv, v, r, s'.heap, ρ', rfl, j2, j1, hvd, hR⟩
  refine awpY_sound hT hF (fun _ => hro) hY hG h0 hg hw ?_
  intro e ρ' s' a' w' k1 k2 k3
  cases e with
  | normal => exact fin s' a' w' ρ' k1 k2 k3
  | ret => exact fin s' a' w' ρ' k1 k2 k3
  | exit i => exact k3.elim

/-- Without a yield of its own: a function's contract such as others. -/
theorem ASpec.ofY {f : FuncId} {args : List D} {h : Heap} {R : D → Heap → Prop} (hs : YSpec P C f args h noHook R) : ASpec P C f args h R :=
  ⟨hs.1, fun ρ w vs hr hv => callsIn_wide.1 (hs.2 Fence.wide 0 (fun _ _ => True) (.inl rfl) rfl noHook_ok (fun _ _ _ _ _ _ => trivial) ρ w vs trivial hr hv)⟩

theorem PSpec.ofY {f : FuncId} {args : List D} {R : D → Prop} (hs : YSpec P C f args ⟨[], []⟩ noHook fun r _ => pureR (erase r) ∧ R (erase r)) : PSpec P C f args R := by
  have := ASpec.ofY hs
  refine ⟨this.1, fun ρ w vs hr hv => (this.2 ρ w vs hr hv).mono ?_⟩
  rintro e w' ⟨v, r, h', ρ', rfl, k1, k2, k3, k4, k5⟩
  exact ⟨v, erase r, h', ρ', rfl, k1, k2, vv_erase k3, k4, k5⟩

/-- Is there nobody who calls a value? -/
def calmO (o : Oper) : Bool :=
  match o.op with
  | .call { callee := .value (.func _), .. } => true
  | .call { callee := .value _, .. } => false
  | _ => true
def calm : List Oper → Bool
  | [] => true
  | o :: r => calmO o && calm r
theorem calmO_yield {o : Oper} (h : calmO o = true) (s : St) : yieldOf C o s = none := by
  unfold calmO at h
  unfold yieldOf
  split at h
  · rename_i f _ _ ho; rw [ho]; rfl
  · cases h
  · rename_i h1 h2
    split
    · rename_i f xs ts ho; exact (h2 _ _ _ ho).elim
    · rfl
theorem calm_ops {Y : Hook} {ops : Array Oper} {Q : St → Prop} : ∀ {l : List Oper}, calm l = true → ∀ s, aopsY P C Y ops Q l s = aops P C ops Q l s
  | [], _, s => rfl
  | o :: r, h, s => by
    simp only [calm, Bool.and_eq_true] at h
    have hr : aopsY P C Y ops Q r = aops P C ops Q r := funext fun s => calm_ops h.2 s
    simp only [aopsY, aops, aopY, calmO_yield h.1, hr]

end
end Go.Ab
namespace Go.Ab
section steps
variable {P : Program} {C : Tab} (Y : Hook) (o : Bool) (Q : AExit → St → Prop) (ts : List D) (h : Heap)
def regY (c : Bool) (a b : Prop) : Prop := if c = true then a else b
theorem regY_tt (a b : Prop) : regY true a b = a := by simp [regY]
theorem regY_ff (a b : Prop) : regY false a b = b := by simp [regY]
theorem calm_nil : calm [] = true := Eq.trans rfl rfl
theorem calm_cons (x : Oper) (r : List Oper) : calm (x :: r) = (calmO x && calm r) := Eq.trans rfl rfl
theorem awpY_skip : awpY P C .skip o Y Q ⟨ts, h⟩ = Q .normal ⟨ts, h⟩ := Eq.trans rfl rfl
theorem awpY_region (id : Nat) (l : List Oper) : awpY P C (.region id l.toArray false) o Y Q ⟨ts, h⟩ = regY (calm l) (aops P C l.toArray (Q .normal) l ⟨ts, h⟩) (aopsY P C Y l.toArray (Q .normal) l ⟨ts, h⟩) := by
  unfold regY
  split
  · rename_i hc
    rw [← calm_ops (Y := Y) hc]
    simp [awpY]
  · simp [awpY]
def thenY (P : Program) (C : Tab) (b : Code) (o : Bool) (Y : Hook) (Q : AExit → St → Prop) : AExit → St → Prop := AExit.then (awpY P C b o Y Q) Q
theorem awpY_seq (a b : Code) : awpY P C (.seq a b) o Y Q ⟨ts, h⟩ = awpY P C a o Y (thenY P C b o Y Q) ⟨ts, h⟩ := Eq.trans rfl rfl
theorem thenY_normal (b : Code) : thenY P C b o Y Q .normal ⟨ts, h⟩ = awpY P C b o Y Q ⟨ts, h⟩ := Eq.trans rfl rfl
theorem thenY_exit (b : Code) (i : Nat) : thenY P C b o Y Q (.exit i) ⟨ts, h⟩ = Q (.exit i) ⟨ts, h⟩ := Eq.trans rfl rfl
theorem thenY_ret (b : Code) : thenY P C b o Y Q .ret ⟨ts, h⟩ = Q .ret ⟨ts, h⟩ := Eq.trans rfl rfl
theorem awpY_cond (c : Operand) (a b : Code) : awpY P C (.cond c a b) o Y Q ⟨ts, h⟩ = condK (St.ev ⟨ts, h⟩ c) (awpY P C a o Y Q) (awpY P C b o Y Q) ⟨ts, h⟩ := Eq.trans rfl rfl
theorem awpY_block (id : Nat) (c : Code) : awpY P C (.block id c) o Y Q ⟨ts, h⟩ = awpY P C c o Y (AExit.inBlock id Q) ⟨ts, h⟩ := Eq.trans rfl rfl
theorem awpY_exit (id : Nat) : awpY P C (.exit id) o Y Q ⟨ts, h⟩ = Q (.exit id) ⟨ts, h⟩ := Eq.trans rfl rfl
theorem awpY_ret : awpY P C .ret o Y Q ⟨ts, h⟩ = Q .ret ⟨ts, h⟩ := Eq.trans rfl rfl
theorem awpY_loop {c : Code} {s : St} (I : Nat → St → Prop) (n : Nat) (h0 : I n s) (hr : ∀ n s, I n s → awpY P C c o Y (AExit.then (fun s' => ∃ m, m < n ∧ I m s') Q) s) : awpY P C (.loop c) o Y Q s := ⟨I, n, h0, hr⟩

/-- An operation that may call yield. -/
def aopV (P : Program) (C : Tab) (Y : Hook) (x : Oper) (K : St → Prop) (s : St) : Prop := aopY P C Y x K s
theorem aopY_eq (x : Oper) (K : St → Prop) (s : St) : aopY P C Y x K s = regY (calmO x) (aop P C x K s) (aopV P C Y x K s) := by
  unfold regY
  split
  · rename_i hc
    simp only [aopY, calmO_yield hc]
  · rfl
def skipY (P : Program) (C : Tab) (Y : Hook) (ops : Array Oper) (Q : St → Prop) (r : List Oper) (dst : Option Tmp) (s : St) : Prop := aopsY P C Y ops Q r (s.put dst (.lit undef))
theorem skipY_at (ops : Array Oper) (Q : St → Prop) (r : List Oper) (t : Tmp) (ts : List D) (h : Heap) : skipY P C Y ops Q r (some t) ⟨ts, h⟩ = aopsY P C Y ops Q r ⟨ts.set t (.lit undef), h⟩ := Eq.trans rfl rfl
theorem skipY_none (ops : Array Oper) (Q : St → Prop) (r : List Oper) (ts : List D) (h : Heap) : skipY P C Y ops Q r none ⟨ts, h⟩ = aopsY P C Y ops Q r ⟨ts, h⟩ := Eq.trans rfl rfl
theorem aopsY_nil (ops : Array Oper) (K : St → Prop) : aopsY P C Y ops K [] ⟨ts, h⟩ = K ⟨ts, h⟩ := Eq.trans rfl rfl
theorem aopsY_cons (ops : Array Oper) (Q : St → Prop) (dst : Option Tmp) (op : Op) (ty : TypeId) (pos : String) (after : Array Edge) (r : List Oper) :
    aopsY P C Y ops Q (⟨dst, op, ty, pos, after, none⟩ :: r) ⟨ts, h⟩ = regY (calmO ⟨dst, op, ty, pos, after, none⟩) (aop P C ⟨dst, op, ty, pos, after, none⟩ (aopsY P C Y ops Q r) ⟨ts, h⟩) (aopV P C Y ⟨dst, op, ty, pos, after, none⟩ (aopsY P C Y ops Q r) ⟨ts, h⟩) := by
  rw [← aopY_eq]; simp [aopsY, Region.wanted]
def nextY (P : Program) (C : Tab) (Y : Hook) (x : Oper) (K : St → Prop) (s : St) : Prop := aopY P C Y x K s
theorem nextY_eq (x : Oper) (K : St → Prop) (s : St) : nextY P C Y x K s = regY (calmO x) (aop P C x K s) (aopV P C Y x K s) := aopY_eq ..
theorem aopsY_guard (ops : Array Oper) (Q : St → Prop) (dst : Option Tmp) (op : Op) (ty : TypeId) (pos : String) (after : Array Edge) (j : Nat) (w : Bool) (r : List Oper) :
    aopsY P C Y ops Q (⟨dst, op, ty, pos, after, some (j, w)⟩ :: r) ⟨ts, h⟩ = guardK (yieldedD ops ts j) w (nextY P C Y ⟨dst, op, ty, pos, after, some (j, w)⟩ (aopsY P C Y ops Q r)) (skipY P C Y ops Q r dst) ⟨ts, h⟩ := by
  simp only [aopsY, Region.wanted, guardK, skipY, nextY]
  by_cases hy : yieldedD ops ts j = some w <;> simp [hy]
/-- A call of yield. -/
def yieldK (Y : Hook) (f : D) (args : List D) (K : St → Prop) (dst : Option Tmp) (ts : List D) (h : Heap) : Prop :=
  ∃ l, f = .fn (.yield l) [] ∧ ∃ R, Y l args h R ∧ ∀ r h', R r h' → K (St.put ⟨ts, h'⟩ dst r)
def valK (P : Program) (C : Tab) (Y : Hook) (f : D) (args : List D) (x : Oper) (K : St → Prop) (dst : Option Tmp) (ts : List D) (h : Heap) : Prop :=
  match f with
  | .fn (.yield l) [] => ∃ R, Y l args h R ∧ ∀ r h', R r h' → K (St.put ⟨ts, h'⟩ dst r)
  | _ => aop P C x K ⟨ts, h⟩
theorem aopV_call (f : Tmp) (args : Array Operand) (at_ : Array TypeId) (dst : Option Tmp) (ty : TypeId) (pos : String) (after : Array Edge) (g : Option (Nat × Bool)) (K : St → Prop) :
    aopV P C Y ⟨dst, .call { callee := .value (.tmp f), args := args, argTypes := at_ }, ty, pos, after, g⟩ K ⟨ts, h⟩ =
    valK P C Y (ts.getD f (.lit undef)) (argsD C (St.ev ⟨ts, h⟩) args.toList at_.toList) ⟨dst, .call { callee := .value (.tmp f), args := args, argTypes := at_ }, ty, pos, after, g⟩ K dst ts h := by
  have he : (St.ev ⟨ts, h⟩) (.tmp f) = ts.getD f (.lit undef) := rfl
  simp only [aopV, aopY, yieldOf, he, valK]
  split
  · rename_i l args' hy
    split at hy
    · rename_i l' hl
      cases hy
      simp only [hl]
    · cases hy
  · rename_i hy
    split at hy
    · cases hy
    · rename_i hne
      first
        | rfl
        | (split
           · rename_i l hl; exact absurd hl (hne l)
           · rfl)
theorem valK_yield (l : Nat) (args : List D) (x : Oper) (K : St → Prop) (dst : Option Tmp) : valK P C Y (.fn (.yield l) []) args x K dst ts h = ∃ R, Y l args h R ∧ ∀ r h', R r h' → K (St.put ⟨ts, h'⟩ dst r) := Eq.trans rfl rfl
theorem valK_intro {l : Nat} {args : List D} {x : Oper} {K : St → Prop} {dst : Option Tmp} (R : D → Heap → Prop) (hR : Y l args h R) (hK : ∀ r h', R r h' → K (St.put ⟨ts, h'⟩ dst r)) : valK P C Y (.fn (.yield l) []) args x K dst ts h := ⟨R, hR, hK⟩

/-- A round. -/
def roundHook (P : Program) (C : Tab) (l : Nat) (ts : List D) (ps : List Tmp) (asg body : Code) : Hook := fun l' args h R => l' = l ∧ args.length = ps.length ∧
  awpY P C asg false noHook (fun e s1 => match e with | .normal => awpY P C body false noHook (fun e s2 => match e with | .normal => R (.lit (.bool true)) s2.heap | _ => False) s1 | _ => False) ⟨setPs ts ps args, h⟩
def rangeK (P : Program) (C : Tab) (d : D) (ps : List Tmp) (asg body : Code) (K : St → Prop) (ts : List D) (h : Heap) : Prop :=
  match d with
  | .fn (.func f) caps => ∀ l, ∃ R0, YSpec P C f (.fn (.yield l) [] :: caps) h (roundHook P C l ts ps asg body) R0 ∧ ∀ r h', R0 r h' → K ⟨ts, h'⟩
  | _ => False
theorem awpY_range (g : Operand) (ps : List Tmp) (asg body : Code) : awpY P C (.rangeFunc g ps.toArray asg body) true Y Q ⟨ts, h⟩ = rangeK P C (St.ev ⟨ts, h⟩ g) ps asg body (Q .normal) ts h := by
  simp only [awpY, rangeK, true_and]
  cases St.ev ⟨ts, h⟩ g with
  | fn f c => cases f <;> rfl
  | _ => rfl
theorem rangeK_fn {f : FuncId} {caps : List D} {ps : List Tmp} {asg body : Code} {K : St → Prop} (R0 : D → Heap → Prop) (hs : ∀ l, YSpec P C f (.fn (.yield l) [] :: caps) h (roundHook P C l ts ps asg body) R0) (hk : ∀ r h', R0 r h' → K ⟨ts, h'⟩) :
    rangeK P C (.fn (.func f) caps) ps asg body K ts h := fun l => ⟨R0, hs l, hk⟩
/-- A round's end, in words. -/
def roundK (P : Program) (C : Tab) (body : Code) (R : D → Heap → Prop) : AExit → St → Prop := fun e s1 => match e with | .normal => awpY P C body false noHook (fun e s2 => match e with | .normal => R (.lit (.bool true)) s2.heap | _ => False) s1 | _ => False
def roundE (R : D → Heap → Prop) : AExit → St → Prop := fun e s2 => match e with | .normal => R (.lit (.bool true)) s2.heap | _ => False
theorem roundK_normal (body : Code) (R : D → Heap → Prop) : roundK P C body R .normal ⟨ts, h⟩ = awpY P C body false noHook (roundE R) ⟨ts, h⟩ := Eq.trans rfl rfl
theorem roundE_normal (R : D → Heap → Prop) : roundE R .normal ⟨ts, h⟩ = R (.lit (.bool true)) h := Eq.trans rfl rfl
theorem roundHook_intro {l : Nat} {ts : List D} {ps : List Tmp} {asg body : Code} {args : List D} {h : Heap} {R : D → Heap → Prop} (hl : args.length = ps.length) (hw : awpY P C asg false noHook (roundK P C body R) ⟨setPs ts ps args, h⟩) :
    roundHook P C l ts ps asg body l args h R := ⟨rfl, hl, hw⟩
theorem setPs_nil (args : List D) : setPs ts [] args = ts := by cases args <;> rfl
theorem setPs_cons (t : Tmp) (r : List Tmp) (d : D) (ds : List D) : setPs ts (t :: r) (d :: ds) = setPs (ts.set t d) r ds := Eq.trans rfl rfl

/-- An iterator's contract, out of its body, its end in words. -/
def endY (C : Tab) (rs : List ResultVar) (R : D → Heap → Prop) : AExit → St → Prop := fun e s => match e with | .exit _ => False | _ => ∃ r, resultsD C s rs = some r ∧ R r s.heap
def endO (x : Option D) (R : D → Heap → Prop) (h : Heap) : Prop := ∃ r, x = some r ∧ R r h
theorem endY_ret (rs : List ResultVar) (R : D → Heap → Prop) : endY C rs R .ret ⟨ts, h⟩ = endO (resultsD C ⟨ts, h⟩ rs) R h := Eq.trans rfl rfl
theorem endY_normal (rs : List ResultVar) (R : D → Heap → Prop) : endY C rs R .normal ⟨ts, h⟩ = endO (resultsD C ⟨ts, h⟩ rs) R h := Eq.trans rfl rfl
theorem endO_some (d : D) (R : D → Heap → Prop) : endO (some d) R h = R d h := by simp [endO]
theorem YSpec.of (hT : TabOk P C) {f : FuncId} {fn : Func} {c : Code} {args : List D} {h : Heap} {Y : Hook} {R : D → Heap → Prop} (hf : P.funcs[f]? = some fn) (hb : fn.body = some c) (hn : (fn.name == "runtime.NumGoroutine") = false) {rs : List ResultVar} (hrs : fn.results.toList = rs) {n : Nat}
    (hnt : fn.ntmps - args.length = n) (hw : awpY P C c true Y (endY C rs R) ⟨args ++ List.replicate n (.lit undef), h⟩) : YSpec P C f args h Y R := by
  subst hrs; subst hnt
  exact YSpec.of_body hT hf hb hn hw
theorem PSpec.ofRange (hT : TabOk P C) {f : FuncId} {fn : Func} {c : Code} {args : List D} {R : D → Prop} (hf : P.funcs[f]? = some fn) (hb : fn.body = some c) (hn : (fn.name == "runtime.NumGoroutine") = false) {rs : List ResultVar} (hrs : fn.results.toList = rs) {n : Nat}
    (hnt : fn.ntmps - args.length = n) (hw : awpY P C c true noHook (endY C rs fun r _ => pureR (erase r) ∧ R (erase r)) ⟨args ++ List.replicate n (.lit undef), ⟨[], []⟩⟩) : PSpec P C f args R :=
  PSpec.ofY (YSpec.of hT hf hb hn hrs hnt hw)

theorem awpY_congr (c : Code) {s s' : St} (h : s = s') : awpY P C c o Y Q s = awpY P C c o Y Q s' := by rw [h]
theorem aopsY_congr (ops : Array Oper) (Q : St → Prop) (r : List Oper) {s s' : St} (h : s = s') : aopsY P C Y ops Q r s = aopsY P C Y ops Q r s' := by rw [h]
theorem aopV_congr (x : Oper) (K : St → Prop) {s s' : St} (h : s = s') : aopV P C Y x K s = aopV P C Y x K s' := by rw [h]
theorem nextY_congr (x : Oper) (K : St → Prop) {s s' : St} (h : s = s') : nextY P C Y x K s = nextY P C Y x K s' := by rw [h]
theorem skipY_congr (ops : Array Oper) (Q : St → Prop) (r : List Oper) (dst : Option Tmp) {s s' : St} (h : s = s') : skipY P C Y ops Q r dst s = skipY P C Y ops Q r dst s' := by rw [h]
theorem thenY_congr (b : Code) (e : AExit) {s s' : St} (h : s = s') : thenY P C b o Y Q e s = thenY P C b o Y Q e s' := by rw [h]
theorem regY_congr {c c' : Bool} (a b : Prop) (h : c = c') : regY c a b = regY c' a b := by rw [h]
theorem valK_congr {f f' : D} {args args' : List D} (x : Oper) (K : St → Prop) (dst : Option Tmp) {ts ts' : List D} {h h' : Heap} (h0 : f = f') (h1 : args = args') (h2 : ts = ts') (h3 : h = h') : valK P C Y f args x K dst ts h = valK P C Y f' args' x K dst ts' h' := by rw [h0, h1, h2, h3]
theorem rangeK_congr {d d' : D} (ps : List Tmp) (asg body : Code) (K : St → Prop) {ts ts' : List D} {h h' : Heap} (h1 : d = d') (h2 : ts = ts') (h3 : h = h') : rangeK P C d ps asg body K ts h = rangeK P C d' ps asg body K ts' h' := by rw [h1, h2, h3]
theorem roundK_congr (body : Code) (R : D → Heap → Prop) (e : AExit) {s s' : St} (h : s = s') : roundK P C body R e s = roundK P C body R e s' := by rw [h]
end steps
attribute [congr] awpY_congr aopsY_congr aopV_congr nextY_congr skipY_congr thenY_congr regY_congr valK_congr rangeK_congr roundK_congr
attribute [go_sem] regY_tt regY_ff calm_nil calm_cons calmO awpY_skip awpY_region awpY_seq thenY_normal thenY_exit thenY_ret awpY_cond awpY_block awpY_exit awpY_ret nextY_eq skipY_at skipY_none aopsY_nil aopsY_cons aopsY_guard aopV_call awpY_range roundK_normal roundE_normal setPs_nil setPs_cons endY_ret endY_normal endO_some Bool.and_true Bool.true_and Bool.and_false Bool.false_and
end Go.Ab
