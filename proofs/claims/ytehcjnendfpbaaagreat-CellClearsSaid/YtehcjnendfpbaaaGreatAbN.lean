/- Codes at the level of values: branches, loops, a function's call; a function that only computes. Conditions: the table fits the program. -/
import Derived.Test.YtehcjnendfpbaaaGreatAbM
import Derived.Scope
namespace Go.Ab

inductive AExit where
  | normal | exit (id : Nat) | ret

def AExit.con : AExit → Exit
  | .normal => .normal
  | .exit i => .exit i
  | .ret => .ret

def AExit.then (K : St → Prop) (Q : AExit → St → Prop) : AExit → St → Prop
  | .normal, s => K s
  | .exit i, s => Q (.exit i) s
  | .ret, s => Q .ret s

def AExit.inBlock (id : Nat) (Q : AExit → St → Prop) : AExit → St → Prop
  | .normal, s => Q .normal s
  | .exit i, s => if i = id then Q .normal s else Q (.exit i) s
  | .ret, s => Q .ret s

/-- What must hold ahead of a code. -/
def awp (P : Program) (C : Tab) : Code → (AExit → St → Prop) → St → Prop
  | .skip, Q, s => Q .normal s
  | .region _ ops draw, Q, s => if draw = true then (okDraw ops = true ∧ aopsD P C ops (Q .normal) ops.toList s) ∨ drawN P C ops (Q .normal) s else aops P C ops (Q .normal) ops.toList s
  | .seq a b, Q, s => awp P C a (AExit.then (awp P C b Q) Q) s
  | .cond c a b, Q, s => match s.ev c with
    | .lit (.bool t) => (t = true → awp P C a Q s) ∧ (t = false → awp P C b Q s)
    | _ => False
  | .block id c, Q, s => awp P C c (AExit.inBlock id Q) s
  | .loop c, Q, s => ∃ (I : Nat → St → Prop) (n : Nat), I n s ∧ ∀ n s, I n s → awp P C c (AExit.then (fun s' => ∃ m, m < n ∧ I m s') Q) s
  | .exit id, Q, s => Q (.exit id) s
  | .ret, Q, s => Q .ret s
  | .label _, Q, s => Q .normal s
  | .scope c, Q, s => awp P C c Q s
  | .goto _, _, _ => False
  | .rangeFunc _ _ _ _, _, _ => False
  | .refuse _, _, _ => False

section
variable {P : Program} {C : Tab}


theorem awp_sound (hT : TabOk P C) {c : Code} : ∀ {Q : AExit → St → Prop} {Q' : Exit → Act → World → Prop} {s : St} {a : Act} {w : World} {ρ : Env}, Rl C ρ s a w → awp P C c Q s →
    (∀ e ρ' s' a' w', Ext ρ w ρ' w' → Rl C ρ' s' a' w' → Q e s' → Q' e.con a' w') → c.wp P Q' a w := by
  induction c with
  | skip => intro Q Q' s a w ρ h hq hQ; exact wp_skip (hQ .normal ρ s a w (.refl ρ w) h hq)
  | region id ops draw =>
    intro Q Q' s a w ρ h hq hQ
    simp only [awp] at hq
    cases draw with
    | true =>
      rw [if_pos rfl] at hq
      refine wp_region_draw fun t => ?_
      have hrun := drawn_sound hq (P.follows .mixedOrders) t
      have h' : Rl C ρ s a { w with drawn := w.drawn + 1 } := ⟨h.real.drew, h.tmps, h.defers⟩
      refine aopsN_sound hT _ h' hrun ?_
      intro ρ' s'' a' w' k1 k2 k3
      exact hQ .normal ρ' s'' a' w' ((Ext.drew ρ w).trans k1) k2 k3
    | false =>
      rw [if_neg (by simp)] at hq
      refine wp_region (aopsN_sound hT _ h (by rw [aopsN_range]; exact hq) ?_)
      intro ρ' s'' a' w' k1 k2 k3
      exact hQ .normal ρ' s'' a' w' k1 k2 k3
  | seq x y ihx ihy =>
    intro Q Q' s a w ρ h hq hQ
    simp only [awp] at hq
    refine wp_seq (ihx h hq ?_)
    intro e ρ' s' a' w' k1 k2 k3
    cases e with
    | normal => exact ihy k2 k3 fun e ρ'' s'' a'' w'' j1 j2 j3 => hQ e ρ'' s'' a'' w'' (k1.trans j1) j2 j3
    | exit i => exact hQ (.exit i) ρ' s' a' w' k1 k2 k3
    | ret => exact hQ .ret ρ' s' a' w' k1 k2 k3
  | cond c x y ihx ihy =>
    intro Q Q' s a w ρ h hq hQ
    simp only [awp] at hq
    split at hq
    · rename_i t hc
      have hv := h.ev c
      rw [hc] at hv
      exact wp_cond_split (vv_lit hv) (fun ht => ihx h (hq.1 ht) hQ) (fun ht => ihy h (hq.2 ht) hQ)
    · exact hq.elim
  | block id c ih =>
    intro Q Q' s a w ρ h hq hQ
    simp only [awp] at hq
    refine wp_block (ih h hq ?_)
    intro e ρ' s' a' w' k1 k2 k3
    cases e with
    | normal => exact hQ .normal ρ' s' a' w' k1 k2 k3
    | exit i =>
      simp only [AExit.inBlock] at k3
      simp only [AExit.con, Exit.inBlock]
      split
      · rename_i hi; rw [if_pos hi] at k3; exact hQ .normal ρ' s' a' w' k1 k2 k3
      · rename_i hi; rw [if_neg hi] at k3; exact hQ (.exit i) ρ' s' a' w' k1 k2 k3
    | ret => exact hQ .ret ρ' s' a' w' k1 k2 k3
  | loop c ih =>
    intro Q Q' s a w ρ h hq hQ
    simp only [awp] at hq
    obtain ⟨I, n, hI, hround⟩ := hq
    intro b k cs
    have key : ∀ n s a w ρ, Rl C ρ s a w → I n s → (∀ e ρ' s' a' w', Ext ρ w ρ' w' → Rl C ρ' s' a' w' → (∃ e', e = e' ∧ e ≠ .normal ∧ Q e s') → Q' e.con a' w') →
        ∃ e a' w', Q' e a' w' ∧ Arrives P (lone (b.at a (.code c :: .inLoop c :: k)) cs w) b k cs e a' w' := by
      intro n
      induction n using Nat.strongRecOn with
      | _ n ihn =>
        intro s a w ρ h hI hQ
        have hr := ih (Q' := fun e a' w' => (∃ ρ' s', e = .normal ∧ Ext ρ w ρ' w' ∧ Rl C ρ' s' a' w' ∧ ∃ m, m < n ∧ I m s') ∨ (e ≠ .normal ∧ Q' e a' w')) h (hround n s hI) (by
          intro e ρ' s' a' w' k1 k2 k3
          cases e with
          | normal => exact .inl ⟨ρ', s', rfl, k1, k2, k3⟩
          | exit i => exact .inr ⟨by simp [AExit.con], hQ (.exit i) ρ' s' a' w' k1 k2 ⟨_, rfl, by simp, k3⟩⟩
          | ret => exact .inr ⟨by simp [AExit.con], hQ .ret ρ' s' a' w' k1 k2 ⟨_, rfl, by simp, k3⟩⟩) b (.inLoop c :: k) cs
        obtain ⟨e, a₁, w₁, hq, harr⟩ := hr
        rcases hq with ⟨ρ', s', rfl, k1, k2, m, hm, hIm⟩ | ⟨hne, hq⟩
        · obtain ⟨e₂, a₂, w₂, hq₂, harr₂⟩ := ihn m hm s' a₁ w₁ ρ' k2 hIm (fun e ρ'' s'' a'' w'' j1 j2 j3 => hQ e ρ'' s'' a'' w'' (k1.trans j1) j2 j3)
          exact ⟨e₂, a₂, w₂, hq₂, .of_steps (Steps.trans harr (.one step_inLoop)) harr₂⟩
        · exact ⟨e, a₁, w₁, hq, .pass (x := .inLoop c) rfl (fun _ _ => .inl hne) harr⟩
    obtain ⟨e, a', w', hq, harr⟩ := key n s a w ρ h hI (by
      rintro e ρ' s' a' w' k1 k2 ⟨_, _, _, k3⟩
      exact hQ e ρ' s' a' w' k1 k2 k3)
    exact ⟨e, a', w', hq, .of_steps (.one step_loop) harr⟩
  | exit id => intro Q Q' s a w ρ h hq hQ; exact wp_exit (hQ (.exit id) ρ s a w (.refl ρ w) h hq)
  | ret => intro Q Q' s a w ρ h hq hQ; exact wp_ret (hQ .ret ρ s a w (.refl ρ w) h hq)
  | label l => intro Q Q' s a w ρ h hq hQ; exact wp_label (hQ .normal ρ s a w (.refl ρ w) h hq)
  | scope c ih =>
    intro Q Q' s a w ρ h hq hQ
    refine wp_scope_straight (ih h hq ?_)
    intro e ρ' s' a' w' k1 k2 k3
    have := hQ e ρ' s' a' w' k1 k2 k3
    cases e <;> exact this
  | goto l => intro Q Q' s a w ρ h hq; exact hq.elim
  | rangeFunc f p x y _ _ => intro Q Q' s a w ρ h hq; exact hq.elim
  | refuse why => intro Q Q' s a w ρ h hq; exact hq.elim

/-- A function's results. -/
def resD (C : Tab) (s : St) : ResultVar → Option D
  | .tmp t => some (s.ev (.tmp t))
  | .cell a t => loadD C s.heap t (s.ev (.tmp a))

def resultsD (C : Tab) (s : St) (l : List ResultVar) : Option D :=
  match l with
  | [x] => resD C s x
  | l => (l.mapM (resD C s)).map .tup

theorem resD_sound (hT : TabOk P C) {ρ : Env} {s : St} {a : Act} {w : World} (h : Rl C ρ s a w) {x : ResultVar} {d : D} (hd : resD C s x = some d) :
    ∀ g : ResultVar → Sem Value, (∀ t, g (.tmp t) = pure (a.tmps.getD t undef)) → (∀ b t, g (.cell b t) = (do loadVar t (← asAddr (a.tmps.getD b undef)))) → ∃ v, (g x).run P w = .ok v w ∧ VV C.sh ρ v d := by
  intro g g1 g2
  cases x with
  | tmp t =>
    simp only [resD, Option.some.injEq] at hd
    subst hd
    exact ⟨_, by rw [g1]; rfl, h.ev (.tmp t)⟩
  | cell b t =>
    simp only [resD] at hd
    have hv := h.ev (.tmp b)
    have hd2 := did_load (o := { dst := none, op := .load t (.tmp b), type := 0, pos := "", after := #[], guard := none }) hT h.real h.ev rfl hd
    obtain ⟨v, ρ', w', hrun, h1, h2, h3⟩ := hd2
    -- a load changes nothing: read it off once more
    unfold loadD at hd
    split at hd
    · rename_i b' p hb
      split at hd
      · rename_i sh y hbx
        split at hd
        · rename_i hc
          obtain ⟨hat, htb⟩ := hc
          rw [hb] at hv
          obtain ⟨B, sh', s', hv, hbox, hs⟩ := vv_ptr hv
          obtain ⟨rfl, hsh, c, tt, hw, ha⟩ := real_box h.real hbox hbx (Sh.at_cellular hat (hT t htb).cellular)
          obtain ⟨k1, k2⟩ := sub_cells hsh hat hd ha
          obtain ⟨v, hr, hvd⟩ := run_loadVar (hT t htb) k1 (rd_of_block hw _ _) k2
          refine ⟨v, ?_, hvd⟩
          have hv' : a.tmps.getD b undef = .pointer (some ⟨B, sh.off p, none⟩) := hv
          rw [g2]
          simp only [hv', asAddr, Sem.run_bind, Sem.run_pure, Result.andThen_ok, hr]
        · cases hd
      · cases hd
    · rename_i s' y hb
      split at hd
      · rename_i hc
        obtain ⟨hst, htb⟩ := hc
        cases hd
        rw [hb] at hv
        obtain ⟨ad, cs, hve, hrow, hl, hall, hsh⟩ := vv_ref hv
        subst hst
        obtain ⟨v, hr, hvd⟩ := run_loadVar (hT t htb) hsh (rd_of_row h.real hrow) ⟨hl, fun i c y hc hy => VV.pure (hall i c y hc hy)⟩
        refine ⟨v, ?_, hvd⟩
        have hv' : a.tmps.getD b undef = .pointer (some ad) := hve
        rw [g2]
        simp only [hv', asAddr, Sem.run_bind, Sem.run_pure, Result.andThen_ok, hr]
      · cases hd
    · cases hd

theorem results_sound (hT : TabOk P C) {ρ : Env} {s : St} {a : Act} {w : World} (h : Rl C ρ s a w) {fn : Func} {d : D} (hd : resultsD C s fn.results.toList = some d) :
    ∃ v, (results fn a.tmps).run P w = .ok v w ∧ VV C.sh ρ v d := by
  have main : ∀ (l : List ResultVar) (ds : List D), l.mapM (resD C s) = some ds →
      ∀ g : ResultVar → Sem Value, (∀ t, g (.tmp t) = pure (a.tmps.getD t undef)) → (∀ b t, g (.cell b t) = (do loadVar t (← asAddr (a.tmps.getD b undef)))) →
      ∃ vs : List Value, (l.mapM g).run P w = .ok vs w ∧ All2 (VV C.sh ρ) vs ds := by
    intro l ds hds g g1 g2
    revert ds
    induction l with
    | nil => intro ds hds; simp at hds; subst hds; exact ⟨[], by simp, All2.nil⟩
    | cons x l ih =>
      intro ds hds
      simp only [List.mapM_cons, Option.bind_eq_bind, Option.bind_eq_some_iff, Option.pure_def, Option.some.injEq] at hds
      obtain ⟨d, hd, ds', hds', rfl⟩ := hds
      obtain ⟨v, hv, hvd⟩ := resD_sound hT h hd g g1 g2
      obtain ⟨vs, hvs, hvsd⟩ := ih ds' hds'
      refine ⟨v :: vs, ?_, All2.cons hvd hvsd⟩
      simp only [List.mapM_cons, Sem.run_bind, hv, Result.andThen_ok, hvs, Sem.run_pure]
  have hrun : ∀ (ds : List D), fn.results.toList.mapM (resD C s) = some ds → ∃ vs : List Value, (results fn a.tmps).run P w = .ok (if h : vs.toArray.size = 1 then vs.toArray[0] else .tuple vs.toArray) w ∧ All2 (VV C.sh ρ) vs ds := by
    intro ds hds
    obtain ⟨vs, hvs, hvd⟩ := main _ _ hds (fun x => match x with | .tmp t => pure (a.tmps.getD t undef) | .cell b t => (do loadVar t (← asAddr (a.tmps.getD b undef)))) (fun _ => rfl) (fun _ _ => rfl)
    refine ⟨vs, ?_, hvd⟩
    unfold results
    rw [Array.mapM_eq_mapM_toList]
    simp only [Sem.run_bind, Sem.run_map]
    exact congrArg (fun r : Result (List Value) => (r.andThen fun a w' => Result.ok a.toArray w').andThen fun a w' => Result.ok (if h : a.size = 1 then a[0] else Value.tuple a) w') hvs
  unfold resultsD at hd
  split at hd
  · rename_i x hx
    have : fn.results.toList.mapM (resD C s) = some [d] := by rw [hx]; simp [hd]
    obtain ⟨vs, hr, ha⟩ := hrun _ this
    cases vs with
    | nil => simp [All2] at ha
    | cons v vs =>
      cases vs with
      | cons _ _ => simp [All2] at ha
      | nil =>
        rw [dif_pos (by simp)] at hr
        exact ⟨v, by simpa using hr, ha.head.1⟩
  · rename_i hne
    rw [Option.map_eq_some_iff] at hd
    obtain ⟨ds, hds, rfl⟩ := hd
    obtain ⟨vs, hr, ha⟩ := hrun _ hds
    have hlen : vs.length ≠ 1 := by
      intro h1
      have h2 : fn.results.toList.length = ds.length := by
        have : ∀ (l : List ResultVar) (ds : List D), l.mapM (resD C s) = some ds → l.length = ds.length := by
          intro l
          induction l with
          | nil => intro ds hds; simp at hds; subst hds; rfl
          | cons x l ih =>
            intro ds hds
            simp only [List.mapM_cons, Option.bind_eq_bind, Option.bind_eq_some_iff, Option.pure_def, Option.some.injEq] at hds
            obtain ⟨d, hd, ds', hds', rfl⟩ := hds
            simp [ih ds' hds']
        exact this _ _ hds
      have h3 := ha.1
      have h4 : fn.results.toList.length = 1 := by omega
      obtain ⟨x, hx⟩ := List.length_eq_one_iff.1 h4
      exact hne x hx
    rw [dif_neg (by simpa using hlen)] at hr
    exact ⟨_, hr, .tup ha.1 ha.2⟩

mutual
/-- Data without a token. -/
def erase : D → D
  | .agg l => .agg (eraseL l)
  | .lst e l _ => .lst e l .no
  | .tup l => .tup (eraseL l)
  | .lit v => .lit v
  | .ref s d => .ref s d
  | .ptr b p => .ptr b p
  | .fn f c => .fn f c
  | .ifc t d => .ifc t d
  | .mref b => .mref b
  | .mp k v g => .mp k v g
  | .it m g s => .it m g s
  | .sl e b lo n c => .sl e b lo n c
def eraseL : List D → List D
  | [] => []
  | d :: r => erase d :: eraseL r
end

theorem eraseL_map (l : List D) : eraseL l = l.map erase := by
  induction l with
  | nil => rfl
  | cons d r ih => simp [eraseL, ih]

mutual
theorem leaves_erase : ∀ d : D, leaves (erase d) = (leaves d).map erase
  | .agg l => by simp only [erase, leaves]; exact leavesL_erase l
  | .lit v => by simp [erase, leaves]
  | .lst e l t => by simp [erase, leaves]
  | .ref s d => by simp [erase, leaves]
  | .ptr b p => by simp [erase, leaves]
  | .fn f c => by simp [erase, leaves]
  | .tup l => by simp [erase, leaves]
  | .ifc t d => by simp [erase, leaves]
  | .mref b => by simp [erase, leaves]
  | .mp k v g => by simp [erase, leaves]
  | .it m g s => by simp [erase, leaves]
  | .sl e b lo n c => by simp [erase, leaves]
theorem leavesL_erase : ∀ l : List D, leavesL (eraseL l) = (leavesL l).map erase
  | [] => by simp [eraseL, leavesL]
  | d :: r => by simp only [eraseL, leavesL, List.map_append]; rw [leaves_erase d, leavesL_erase r]
end

theorem vp_erase {T : TypeId → Sh} {S : Nat → Nat → Option Value} {v : Value} {d : D} (h : VP T S v d) : VP T S v (erase d) := by
  induction h with
  | lit v => exact .lit v
  | @agg cs l hl _ ih =>
    refine .agg (by rw [leavesL_erase, List.length_map]; exact hl) ?_
    intro i c d hc hd
    rw [leavesL_erase, List.getElem?_map, Option.map_eq_some_iff] at hd
    obtain ⟨x, hx, rfl⟩ := hd
    exact ih i c x hc hx
  | nil _ => exact .nil (by simp)
  | lst cs hr hl h hs hc hm _ _ => exact .lst cs hr hl h hs hc hm (by simp) (by simp)
  | ref cs hr hl h hs => exact .ref cs hr hl h hs
  | ifc h => exact .ifc h

theorem vv_erase {T : TypeId → Sh} {ρ : Env} {v : Value} {d : D} (h : VV T ρ v d) : VV T ρ v (erase d) := by
  induction h with
  | pure h => exact .pure (vp_erase h)
  | @agg cs l hl _ ih =>
    refine .agg (by rw [leavesL_erase, List.length_map]; exact hl) ?_
    intro i c d hc hd
    rw [leavesL_erase, List.getElem?_map, Option.map_eq_some_iff] at hd
    obtain ⟨x, hx, rfl⟩ := hd
    exact ih i c x hc hx
  | ownNil _ => exact .pure (.nil (by simp))
  | own _ _ hv => exact .pure hv
  | ptr h hp => exact .ptr h hp
  | fn hl h => exact .fn hl h
  | bnd hl h => exact .bnd hl h
  | @tup vs l hl _ ih =>
    simp only [erase]
    refine .tup (by rw [eraseL_map, List.length_map]; exact hl) ?_
    intro i c d hc hd
    rw [eraseL_map, List.getElem?_map, Option.map_eq_some_iff] at hd
    obtain ⟨x, hx, rfl⟩ := hd
    exact ih i c x hc hx
  | mref h => exact .mref h
  | sl h hc hn hm ho => exact .sl h hc hn hm ho

/-- A result that leads to no own memory. -/
def pureR : D → Prop
  | .tup l => pureL l
  | d => pureD d

theorem vv_close {ρ ρ' : Env} {v : Value} {d : D} (hv : VV C.sh ρ v d) (hp : pureR d) (hS : ∀ B i x, ρ.S B i = some x → ρ'.S B i = some x) : VV C.sh ρ' v d := by
  have key : ∀ {v : Value} {d : D}, VV C.sh ρ v d → pureD d → VV C.sh ρ' v d := fun hv hp => .pure ((vp_of_vv hv hp).mono hS)
  cases d with
  | tup l =>
    cases hv with
    | pure h => cases h
    | tup hl h => exact .tup hl fun i c d hc hd => key (h i c d hc hd) (pureL_mem hp d (List.mem_of_getElem? hd))
  | _ => exact key hv hp

def noHeap : Heap := ⟨[], []⟩

/-- A function that only computes: of these arguments' data its result's data is as R says. -/
def PSpec (P : Program) (C : Tab) (f : FuncId) (args : List D) (R : D → Prop) : Prop := ASpec P C f args noHeap fun r _ => pureR r ∧ R r

/-- Such a function may be called with whatever own memory there is. -/
theorem PSpec.call {f : FuncId} {args args' : List D} {R : D → Prop} (hs : PSpec P C f args' R) (h : Heap) (ha : args.map erase = args') (hp : pureL args') :
    ASpec P C f args h fun r h' => R r ∧ h' = h := by
  refine ⟨hs.1, ?_⟩
  intro ρ w vs hr hv
  let ρ0 : Env := { S := ρ.S, box := [], tok := [], own := fun _ => False }
  have hr0 : Real C.sh ρ0 noHeap w := by
    refine ⟨hr.st, rfl, rfl, ?_, ?_, ?_, ?_, ?_, fun _ h => h.elim⟩
    · intro b B sh hb; simp [ρ0] at hb
    · intro b B sh sh' d hb; simp [ρ0] at hb
    · intro b b' B sh sh' hb; simp [ρ0] at hb
    · intro t B n lim ht; simp [ρ0] at ht
    · intro t t' B n n' lim lim' ht; simp [ρ0] at ht
  have hv0 : All2 (VV C.sh ρ0) vs.toList args' := by
    refine ⟨by rw [hv.1, ← ha, List.length_map], ?_⟩
    intro i c d hc hd
    have hpd := pureL_mem hp d (List.mem_of_getElem? hd)
    rw [← ha, List.getElem?_map, Option.map_eq_some_iff] at hd
    obtain ⟨x, hx, rfl⟩ := hd
    have hvp := vp_of_vv (vv_erase (hv.2 i c x hc hx)) hpd
    exact .pure hvp
  refine (hs.2 ρ0 w vs hr0 hv0).mono ?_
  rintro e w' ⟨v, r, h', ρ', rfl, he, hr', hvr, hpr, hR⟩
  have hS : ∀ B i x, ρ.S B i = some x → ρ'.S B i = some x := he.le.S
  have hold : ∀ B i x, B < w.heap.size → ρ'.S B i = some x → ρ.S B i = some x := by
    intro B i x hB hx
    rcases he.old B i x hB hx with h1 | h1
    · exact h1.elim
    · exact h1
  have hblk : ∀ k, k < w.heap.size → w'.heap[k]? = w.heap[k]? := fun k hk => he.blk k hk (fun h => h)
  let ρ'' : Env := { S := ρ'.S, box := ρ.box, tok := ρ.tok, own := ρ.own }
  have hle : ρ.le ρ'' := ⟨hS, fun _ _ h => h, fun _ _ h => h⟩
  refine ⟨v, r, h, ρ'', rfl, ⟨hle, he.os, he.tape, he.output, he.size, fun k hk _ => hblk k hk, fun _ _ h => h, fun B i x hB hx => .inr (hold B i x hB hx), he.dr⟩, ?_, vv_close hvr hpr (fun _ _ _ h => h), hR, rfl⟩
  refine ⟨hr'.st, hr.lenB, hr.lenT, hr.bown, ?_, hr.inj, ?_, hr.tinj, ?_⟩
  · intro b B sh sh' d hb hd hne
    obtain ⟨k1, k2, k4, k5⟩ := hr.box b B sh sh' d hb hd hne
    have hB := hr.lt B (hr.bown b B sh hb)
    refine ⟨k1, k2, ?_, k5.keep hle (fun y hy => by rw [hblk B hB]; exact hy) fun m Bm hm => ⟨fun y hy => by rw [hblk Bm (hr.lt Bm (hr.bown m Bm _ hm))] at hy; exact hy, fun _ h => h⟩⟩
    intro j
    cases hj : ρ'.S B j with
    | none => rfl
    | some x => have := hold B j x hB hj; rw [k4 j] at this; cases this
  · intro t B n lim ht hl
    obtain ⟨k1, k2, ⟨c, t', k3, k4⟩, k5⟩ := hr.tok t B n lim ht hl
    have hB := hr.lt B k1
    refine ⟨k1, ?_, ⟨c, t', by rw [hblk B hB]; exact k3, k4⟩, k5⟩
    intro j hj
    cases hjj : ρ'.S B j with
    | none => rfl
    | some x => have := hold B j x hB hjj; rw [k2 j hj] at this; cases this
  · intro B hB
    exact Nat.lt_of_lt_of_le (hr.lt B hB) he.size

/-- A function's contract, out of its body. -/
theorem PSpec.of_body (hT : TabOk P C) {f : FuncId} {fn : Func} {c : Code} {args : List D} {R : D → Prop} (hf : P.funcs[f]? = some fn) (hb : fn.body = some c) (hn : (fn.name == "runtime.NumGoroutine") = false)
    (hw : awp P C c (fun e s => match e with | .exit _ => False | _ => ∃ r, resultsD C s fn.results.toList = some r ∧ pureR (erase r) ∧ R (erase r)) ⟨args ++ List.replicate (fn.ntmps - args.length) (.lit undef), noHeap⟩) :
    PSpec P C f args R := by
  refine ⟨⟨fn, hf, by rw [hb]; rfl, hn⟩, ?_⟩
  intro ρ w vs hr hv
  refine calls_of_wp hf hb ?_
  have hlen : vs.size = args.length := by rw [← Array.length_toList]; exact hv.1
  have h0 : Rl C ρ ⟨args ++ List.replicate (fn.ntmps - args.length) (.lit undef), noHeap⟩ { tmps := vs ++ Array.replicate (fn.ntmps - vs.size) undef, defers := [] } w := by
    refine ⟨hr, ?_, rfl⟩
    simp only [Array.toList_append, Array.toList_replicate, hlen]
    refine hv.append ⟨by simp, ?_⟩
    intro i c d hc hd
    rw [List.getElem?_replicate] at hc hd
    split at hc
    · rename_i hi; rw [if_pos hi] at hd; cases hc; cases hd; exact .lit _
    · cases hc
  have fin : ∀ (s' : St) (a' : Act) (w' : World) (ρ' : Env), Ext ρ w ρ' w' → Rl C ρ' s' a' w' → (∃ r, resultsD C s' fn.results.toList = some r ∧ pureR (erase r) ∧ R (erase r)) →
      a'.defers = [] ∧ ∃ v, (results fn a'.tmps).run P w' = .ok v w' ∧ ∃ v' r h' ρ', Ending.returned v = .returned v' ∧ Ext ρ w ρ' w' ∧ Real C.sh ρ' h' w' ∧ VV C.sh ρ' v' r ∧ pureR r ∧ R r := by
    rintro s' a' w' ρ' k1 k2 ⟨r, hres, hp, hR⟩
    obtain ⟨v, hv, hvd⟩ := results_sound hT k2 hres
    exact ⟨k2.defers, v, hv, v, erase r, _, ρ', rfl, k1, k2.real, vv_erase hvd, hp, hR⟩
  refine awp_sound hT h0 hw ?_
  intro e ρ' s' a' w' k1 k2 k3
  cases e with
  | normal => exact fin s' a' w' ρ' k1 k2 k3
  | ret => exact fin s' a' w' ρ' k1 k2 k3
  | exit i => exact k3.elim

end
end Go.Ab
