/- Each operation does in the machine what is said of it at the level of values (1: what changes nothing). Conditions: the table fits the program. -/
import Derived.Test.YtehcjnendfpbaaaGreatAbD
import Derived.ChangeKeysEq
namespace Go.Ab

mutual
theorem pureD_leaves : ∀ d : D, pureD d → ∀ x ∈ leaves d, pureD x
  | .agg l, hp, x, hx => pureL_leaves l (by simpa [pureD] using hp) x (by simpa [leaves] using hx)
  | .lit v, hp, x, hx => by simp only [leaves, List.mem_singleton] at hx; subst hx; exact hp
  | .lst e l t, hp, x, hx => by simp only [leaves, List.mem_singleton] at hx; subst hx; exact hp
  | .ref s d, hp, x, hx => by simp only [leaves, List.mem_singleton] at hx; subst hx; exact hp
  | .ptr b p, hp, x, hx => by simp only [leaves, List.mem_singleton] at hx; subst hx; exact hp
  | .fn f c, hp, x, hx => by simp only [leaves, List.mem_singleton] at hx; subst hx; exact hp
  | .tup l, hp, x, hx => by simp only [leaves, List.mem_singleton] at hx; subst hx; exact hp
  | .ifc t d, hp, x, hx => by simp only [leaves, List.mem_singleton] at hx; subst hx; exact hp
theorem pureL_leaves : ∀ l : List D, pureL l → ∀ x ∈ leavesL l, pureD x
  | [], _, x, hx => by simp [leavesL] at hx
  | d :: r, hp, x, hx => by
    simp only [pureL] at hp
    simp only [leavesL, List.mem_append] at hx
    rcases hx with hx | hx
    · exact pureD_leaves d hp.1 x hx
    · exact pureL_leaves r hp.2 x hx
end

theorem pureL_mem {l : List D} (hl : pureL l) : ∀ x ∈ l, pureD x := by
  induction l with
  | nil => simp
  | cons d r ih =>
    intro x hx
    simp only [pureL] at hl
    rcases List.mem_cons.1 hx with rfl | hx
    · exact hl.1
    · exact ih hl.2 x hx

section
variable {P : Program} {C : Tab} {ρ : Env} {h : Heap} {w : World}

theorem vv_nrm {t : TypeId} {v : Value} {d : D} (hv : VV C.sh ρ v d) : VV C.sh ρ v (nrm C t d) := by
  cases d with
  | lit x =>
    simp only [nrm]
    split
    · split
      · cases hv with
        | pure hv => cases hv with | lit => exact .pure (.nil (by simp))
      · exact hv
    · exact hv
  | _ => exact hv

theorem vp_of_vv {v : Value} {d : D} (hv : VV C.sh ρ v d) (hp : pureD d) : VP C.sh ρ.S v d := by
  induction hv with
  | pure h => exact h
  | @agg cs l hl _ ih => exact .agg hl fun i c x hc hx => ih i c x hc hx (pureL_leaves l (by simpa [pureD] using hp) x (List.mem_of_getElem? hx))
  | _ => simp [pureD] at hp

/-- What is to be shown of an operation. -/
def Did (P : Program) (C : Tab) (o : Oper) (a : Act) (w : World) (ρ : Env) (h' : Heap) (d : D) : Prop :=
  ∃ v ρ' w', ((execOp a.eval o).run P w = .ok (.value v) w' ∨ ((execOp a.eval o).run P w = .ok .skip w' ∧ v = undef)) ∧ Ext ρ w ρ' w' ∧ Real C.sh ρ' h' w' ∧ VV C.sh ρ' v d

theorem Did.quiet {o : Oper} {a : Act} {d : D} (r : Real C.sh ρ h w) {v : Value} (hr : (execOp a.eval o).run P w = .ok (.value v) w) (hv : VV C.sh ρ v d) : Did P C o a w ρ h d :=
  ⟨v, ρ, w, .inl hr, .refl ρ w, r, hv⟩

variable {o : Oper} {a : Act} {e : Operand → D} {d : D}

theorem vv_lit {v x : Value} (hv : VV C.sh ρ v (.lit x)) : v = x := by cases hv with | pure h => cases h with | lit => rfl

theorem did_pick (r : Real C.sh ρ h w) (he : ∀ x, VV C.sh ρ (a.eval x) (e x)) {c x y : Operand} (ho : o.op = .pick c x y) {t : Bool} (hc : e c = .lit (.bool t)) (hd : d = if t then e x else e y) :
    Did P C o a w ρ h d := by
  have h1 := he c
  rw [hc] at h1
  have h2 : a.eval c = .bool t := vv_lit h1
  refine Did.quiet r (v := if t then a.eval x else a.eval y) ?_ ?_
  · simp [execOp, ho, h2, asBool]
  · subst hd; cases t
    · exact he y
    · exact he x

theorem intOp_sound {k : IntKind} {op : BinOp} {x y : Int} (t : TypeId) (h0 : intOp op k x y = some d) :
    ∃ v, (binOp op t (.int k x) (.int k y)).run P w = .ok v w ∧ VV C.sh ρ v d := by
  cases op <;> simp [intOp] at h0
  case quo =>
    obtain ⟨hy, rfl⟩ := h0
    exact ⟨_, by simp [binOp, Op.intDiv, hy], .lit _⟩
  case rem =>
    obtain ⟨hy, rfl⟩ := h0
    exact ⟨_, by simp [binOp, Op.intDiv, hy], .lit _⟩
  case shr =>
    obtain ⟨hy, rfl⟩ := h0
    have : ¬ y < 0 := by omega
    exact ⟨_, by simp [binOp, Op.shift, this], .lit _⟩
  all_goals
    subst h0
    first
      | exact ⟨_, by simp [binOp, Op.intArith]; rfl, .lit _⟩
      | exact ⟨_, by simp [binOp]; rfl, .lit _⟩

theorem dec_toList (x y : ByteArray) : decide (x = y) = (x.toList == y.toList) := by
  rw [Bool.eq_iff_iff]
  simp only [decide_eq_true_eq, beq_iff_eq, ByteArray.toList_eq]
  constructor
  · rintro rfl; rfl
  · intro h
    obtain ⟨⟨x⟩⟩ := x
    obtain ⟨⟨y⟩⟩ := y
    simp at h
    simp [h]

theorem strOp_sound {op : BinOp} {x y : ByteArray} (t : TypeId) (h0 : strOp op x y = some d) :
    ∃ v, (binOp op t (.string x) (.string y)).run P w = .ok v w ∧ VV C.sh ρ v d := by
  have hmax : IntKind.i64.max = 9223372036854775807 := rfl
  cases op <;> simp only [strOp, Option.some.injEq] at h0
  case add =>
    split at h0
    · rename_i hsz
      cases h0
      have : ¬ (((x.size + y.size : Nat) : Int) > IntKind.i64.max) := by rw [hmax]; omega
      exact ⟨_, by simp only [binOp, Op.stringOp, if_neg this, Sem.run_pure], .lit _⟩
    · cases h0
  all_goals
    first
      | cases h0; done
      | (subst h0; exact ⟨_, by simp only [binOp, Op.stringOp, Sem.run_pure, ← dec_toList] <;> rfl, .lit _⟩)

theorem ofList_kid {fs : List TypeId} {f : Nat} {u : TypeId} (hk : fs[f]? = some u) : (Sh.ofList (fs.map C.sh)).kid f = some (C.sh u) := by
  induction fs generalizing f with
  | nil => simp at hk
  | cons a r ih =>
    cases f with
    | zero => simp at hk; subst hk; simp [Sh.ofList, Sh.kid]
    | succ f => simp only [List.getElem?_cons_succ] at hk; simp [Sh.ofList, Sh.kid]; exact ih hk

theorem kidTy_kid (hT : TabOk P C) {t : TypeId} {f : Nat} {u : TypeId} (hk : C.kidTy t f = some u) : C.ty t ≠ .bad ∧ C.ty u ≠ .bad ∧ (C.sh t).kid f = some (C.sh u) ∧ C.dep u < C.dep t := by
  have ht : C.ty t ≠ .bad := by intro e; simp [Tab.kidTy, e] at hk
  have hd := (hT t ht).desc
  refine ⟨ht, ?_⟩
  unfold Tab.kidTy at hk
  split at hk
  · rename_i fs hty
    rw [hty] at hd
    obtain ⟨h1, flds, hu, hsz, hsi, hall⟩ := hd
    have hfl : f < flds.size := by rw [hsz]; exact (List.getElem?_eq_some_iff.1 hk).1
    obtain ⟨k1, k2, k3, k4, k5, k6⟩ := hall f flds[f] (Array.getElem?_eq_getElem hfl)
    have hfu : flds[f].type = u := by rw [hk] at k1; exact (Option.some.inj k1).symm
    rw [hfu] at k5 k6
    exact ⟨k5, by rw [h1]; exact ofList_kid hk, k6⟩
  · rename_i n e' hty
    rw [hty] at hd
    split at hk
    · rename_i hlt
      cases hk
      exact ⟨hd.2.2.1, by rw [hd.1]; simp [Sh.kid, hlt], hd.2.2.2⟩
    · cases hk
  · cases hk

theorem part_of {t : TypeId} (hT : TabOk P C) {f : Nat} {u : TypeId} {cs : List Value} {l : List D} (hk : C.kidTy t f = some u) (hs : hasSh (C.sh t) (.agg l)) (ha : All2 (VV C.sh ρ) cs (leavesL l)) : ∃ v x, l[f]? = some x ∧ hasSh (C.sh u) x ∧ VV C.sh ρ v x ∧ C.ty u ≠ .bad ∧ (part u cs.toArray ((C.sh t).kidOff f)).run P w = .ok v w := by
  have main : C.ty u ≠ .bad → (C.sh t).kid f = some (C.sh u) → ∃ v x, l[f]? = some x ∧ hasSh (C.sh u) x ∧ VV C.sh ρ v x ∧ C.ty u ≠ .bad ∧ (part u cs.toArray ((C.sh t).kidOff f)).run P w = .ok v w := by
    intro hu hkid
    have hfu := hT u hu
    obtain ⟨x, l', hl, hx, hsx, hsp, hle⟩ := kid_split hs hkid
    cases hl
    have hlx := leaves_length hsx
    have hlen := leaves_length hs
    simp only [leaves] at hlen
    have hsub : All2 (VV C.sh ρ) ((cs.drop ((C.sh t).kidOff f)).take (C.sh u).size) (leaves x) := by
      have h1 := (ha.drop ((C.sh t).kidOff f)).take (C.sh u).size
      have h2 : (List.drop ((C.sh t).kidOff f) (leavesL l)).take (C.sh u).size = leaves x := by
        simp only [leaves] at hsp
        conv => lhs; rw [hsp]
        rw [List.append_assoc, List.drop_append, List.drop_eq_nil_of_le (by rw [List.length_take]; omega), List.length_take, Nat.min_eq_left (by omega), Nat.sub_self]
        simp [← hlx]
      rwa [h2] at h1
    rcases hfu.agg_cases with ⟨h1, h2⟩ | ⟨h1, h2, h3⟩
    · obtain ⟨l2, rfl⟩ := hfu.sh_agg h1 hsx
      refine ⟨.agg ((cs.drop ((C.sh t).kidOff f)).take (C.sh u).size).toArray, _, hx, hsx, .agg hsub.1 hsub.2, hu, ?_⟩
      simp [part, h2, hfu.run_sizeOf]
    · rw [h2] at hsub hsx
      have hl := leaves_of_isLeaf hsx
      rw [hl] at hsub
      simp only [Sh.size] at hsub
      have h1 := hsub.1
      cases hc : cs[(C.sh t).kidOff f]? with
      | none =>
        rw [List.getElem?_eq_none_iff] at hc
        simp at h1; omega
      | some c =>
        refine ⟨c, x, hx, by rw [h2]; exact hsx, ?_, hu, by simp [part, h3, hc]⟩
        exact hsub.2 0 c x (by simp [List.getElem?_drop, hc]) rfl
  obtain ⟨_, k1, k2, _⟩ := kidTy_kid hT hk
  exact main k1 k2

theorem kidTy_mem {t : TypeId} {l : List D} (hp : plain C t (.agg l)) {i : Nat} {x : D} (hx : l[i]? = some x) : ∃ u, C.kidTy t i = some u ∧ plain C u x := by
  unfold plain at hp
  unfold Tab.kidTy
  split at hp
  · rename_i n e ht
    rw [ht]
    obtain ⟨rfl, hp⟩ := hp
    have hi := (List.getElem?_eq_some_iff.1 hx).1
    refine ⟨e, by simp [hi], ?_⟩
    clear ht hi
    induction l generalizing i with
    | nil => simp at hx
    | cons d r ih =>
      simp only [plainAll] at hp
      cases i with
      | zero => simp at hx; subst hx; exact hp.1
      | succ i => exact ih (by simpa using hx) hp.2
  · rename_i fs ht
    rw [ht]
    clear ht
    induction l generalizing i fs with
    | nil => simp at hx
    | cons d r ih =>
      cases fs with
      | nil => simp [plainEach] at hp
      | cons f gs =>
        simp only [plainEach] at hp
        cases i with
        | zero => simp at hx; subst hx; exact ⟨f, rfl, hp.1⟩
        | succ i => exact ih (fs := gs) (i := i) (by simpa using hx) hp.2
  · exact hp.elim

theorem plain_len {t : TypeId} {l : List D} (hp : plain C t (.agg l)) : ∀ i, (C.kidTy t i).isSome = decide (i < l.length) := by
  intro i
  unfold plain at hp
  unfold Tab.kidTy
  split at hp
  · rename_i n e ht
    rw [ht]
    obtain ⟨rfl, hp⟩ := hp
    by_cases hi : i < l.length <;> simp [hi]
  · rename_i fs ht
    rw [ht]
    clear ht
    induction l generalizing i fs with
    | nil => simp [plainEach] at hp; subst hp; simp
    | cons d r ih =>
      cases fs with
      | nil => simp [plainEach] at hp
      | cons f gs =>
        simp only [plainEach] at hp
        cases i with
        | zero => simp
        | succ i => have := ih (i := i) (fs := gs) hp.2; simpa using this
  · exact hp.elim

theorem plain_sh (hT : TabOk P C) : ∀ (n : Nat) (t : TypeId) (d : D), C.dep t < n → plain C t d → hasSh (C.sh t) d := by
  intro n
  induction n with
  | zero => intro t d h; exact absurd h (Nat.not_lt_zero _)
  | succ n ih =>
    intro t d hn hp
    have ht : C.ty t ≠ .bad := by
      intro e
      cases d with
      | lit v => cases v <;> simp [plain, e] at hp
      | agg l => simp [plain, e] at hp
      | _ => simp [plain] at hp
    have hd := (hT t ht).desc
    cases d with
    | lit v =>
      cases v <;> simp only [plain] at hp <;> first | exact hp.elim | (rw [hp] at hd; rw [hd.1]; rfl)
    | agg l =>
      unfold plain at hp
      split at hp
      · rename_i m e hty
        rw [hty] at hd
        obtain ⟨rfl, hp⟩ := hp
        rw [hd.1]
        refine ⟨rfl, fun x hx => ?_⟩
        refine ih e x (by omega) ?_
        clear hd hty hn
        induction l with
        | nil => simp at hx
        | cons d r ih2 =>
          simp only [plainAll] at hp
          rcases List.mem_cons.1 hx with rfl | hx
          · exact hp.1
          · exact ih2 hp.2 hx
      · rename_i fs hty
        rw [hty] at hd
        obtain ⟨h1, flds, hu, hsz, hsi, hall⟩ := hd
        rw [h1]
        have hdep : ∀ u ∈ fs, C.dep u < C.dep t := by
          intro u hu'
          obtain ⟨i, hi, rfl⟩ := List.getElem_of_mem hu'
          have hi' : i < flds.size := by omega
          obtain ⟨k1, _, _, _, _, k6⟩ := hall i flds[i] (Array.getElem?_eq_getElem hi')
          rw [List.getElem?_eq_getElem hi] at k1
          rw [Option.some.inj k1]; exact k6
        clear h1 hu hsz hall hty
        induction l generalizing fs with
        | nil => simp [plainEach] at hp; subst hp; rfl
        | cons d r ih2 =>
          cases fs with
          | nil => simp [plainEach] at hp
          | cons f gs =>
            simp only [plainEach] at hp
            refine ⟨d, r, rfl, ih f d (by have := hdep f (by simp); omega) hp.1, ?_⟩
            exact ih2 gs hp.2 (fun u hu => hdep u (by simp [hu]))
      · exact hp.elim
    | _ => simp [plain] at hp

theorem eqB_agg_step {l m : List D} {j : Nat} {x y : D} (hx : l[j]? = some x) (hy : m[j]? = some y) :
    eqB (.agg (l.drop j)) (.agg (m.drop j)) = (eqB x y && eqB (.agg (l.drop (j + 1))) (.agg (m.drop (j + 1)))) := by
  rw [Bool.eq_iff_iff]
  have h1 := List.getElem?_eq_some_iff.1 hx
  have h2 := List.getElem?_eq_some_iff.1 hy
  obtain ⟨h1, rfl⟩ := h1
  obtain ⟨h2, rfl⟩ := h2
  rw [Bool.and_eq_true]
  simp only [eqB_true, D.agg.injEq]
  rw [List.drop_eq_getElem_cons h1, List.drop_eq_getElem_cons h2, List.cons.injEq]

theorem equalIn_sound (hT : TabOk P C) : ∀ (n : Nat) (t : TypeId) (x y : D) (v u : Value) (w : World), C.dep t < n → plain C t x → plain C t y → VV C.sh ρ v x → VV C.sh ρ u y →
    (Op.equalIn n t v u).run P w = .ok (eqB x y) w := by
  intro n
  induction n with
  | zero => intro t _ _ _ _ _ h; exact absurd h (Nat.not_lt_zero _)
  | succ n ih =>
    intro t x y v u w hn hx hy hv hu
    have ht : C.ty t ≠ .bad := by
      intro e
      cases x with
      | lit v => cases v <;> simp [plain, e] at hx
      | agg l => simp [plain, e] at hx
      | _ => simp [plain] at hx
    have hf := hT t ht
    have hd := hf.desc
    cases x with
    | lit xv =>
      have := vv_lit hv; subst this
      cases y with
      | lit yv =>
        have := vv_lit hu; subst this
        cases v <;> simp only [plain] at hx <;> first | exact hx.elim | skip
        all_goals cases u <;> simp only [plain] at hy <;> first | exact hy.elim | skip
        all_goals rw [hx] at hy hd
        all_goals first | cases hy; done | skip
        · rw [run_equalIn_bool' w n t _ _ hd.2]
          congr 1
          rw [eqB_eq (p := _ = _) (by simp; exact Iff.rfl)]
          rw [Bool.eq_iff_iff]; simp
        · cases hy
          rw [run_equalIn_int w n t _ _ _ _ hd.2]
          congr 1
          rw [eqB_eq (p := _ = _) (by simp; exact Iff.rfl)]
          rw [Bool.eq_iff_iff]; simp
        · rw [run_equalIn_string w n t _ _ hd.2]
          congr 1
          rw [← dec_toList]
          rw [eqB_eq (p := _ = _) (by simp; exact Iff.rfl)]
      | agg l => cases v <;> simp only [plain] at hx <;> first | exact hx.elim | (simp [plain, hx] at hy)
      | _ => simp [plain] at hy
    | agg l =>
      cases y with
      | lit yv => cases yv <;> simp only [plain] at hy <;> first | exact hy.elim | (simp [plain, hy] at hx)
      | agg m =>
        have hsx := plain_sh hT (n + 1) t _ hn hx
        have hsy := plain_sh hT (n + 1) t _ hn hy
        have hvc := vv_cells hv hsx
        have huc := vv_cells hu hsy
        simp only [leaves] at hvc huc
        have hlm : l.length = m.length := by
          have a1 := plain_len hx
          have a2 := plain_len hy
          have b1 := a1 l.length
          have b2 := a1 m.length
          rw [a2] at b1 b2
          simp at b1 b2
          omega
        obtain ⟨cs, rfl⟩ : ∃ cs : List Value, v = .agg cs.toArray := by
          cases hv with
          | pure h => cases h with | agg => exact ⟨_, rfl⟩
          | agg => exact ⟨_, rfl⟩
        obtain ⟨cs', rfl⟩ : ∃ cs : List Value, u = .agg cs.toArray := by
          cases hu with
          | pure h => cases h with | agg => exact ⟨_, rfl⟩
          | agg => exact ⟨_, rfl⟩
        simp only [Value.cells] at hvc huc
        -- the one step
        have step : ∀ (j : Nat) (z : TypeId) (w : World), C.kidTy t j = some z → ∃ x y a b, l[j]? = some x ∧ m[j]? = some y ∧ (part z cs.toArray ((C.sh t).kidOff j)).run P w = .ok a w ∧
            (part z cs'.toArray ((C.sh t).kidOff j)).run P w = .ok b w ∧ (Op.equalIn n z a b).run P w = .ok (eqB x y) w := by
          intro j z w hz
          obtain ⟨a, x, h1, h2, h3, h4, h5⟩ := part_of (w := w) hT hz hsx hvc
          obtain ⟨b, y, k1, k2, k3, k4, k5⟩ := part_of (w := w) hT hz hsy huc
          obtain ⟨z1, e1, p1⟩ := kidTy_mem hx h1
          obtain ⟨z2, e2, p2⟩ := kidTy_mem hy k1
          rw [hz] at e1 e2
          cases e1; cases e2
          have hdep := (kidTy_kid hT hz).2.2.2
          exact ⟨x, y, a, b, h1, k1, h5, k5, ih z x y a b w (by omega) p1 p2 h3 k3⟩
        unfold plain at hx
        split at hx
        · rename_i k e hty
          rw [hty] at hd
          have he := hT e hd.2.2.1
          obtain ⟨i, _, hi, hsi, _⟩ := he.info
          have hcell : P.cellsOf e = (C.sh e).size := by simp [Program.cellsOf, hi, hsi]
          rw [run_equalIn_array w n cs.toArray cs'.toArray hd.2.1 hi, hcell]
          have main : ∀ (c j : Nat), j + c = k → (Op.eqItems n e (C.sh e).size cs.toArray cs'.toArray (List.range' j c)).run P w = .ok (eqB (.agg (l.drop j)) (.agg (m.drop j))) w := by
            intro c
            induction c with
            | zero =>
              intro j hj
              have : j = l.length := by rw [hx.1]; omega
              subst this
              simp [Op.eqItems, hlm, eqB]
            | succ c ihc =>
              intro j hj
              have hz : C.kidTy t j = some e := by simp [Tab.kidTy, hty]; omega
              obtain ⟨x, y, a, b, q1, q2, q3, q4, q5⟩ := step j e w hz
              have hko : (C.sh t).kidOff j = j * (C.sh e).size := by rw [hd.1]; rfl
              rw [hko] at q3 q4
              rw [eqB_agg_step q1 q2, List.range'_succ]
              simp only [Op.eqItems, Sem.run_bind, q3, q4, q5, Result.andThen_ok]
              cases hb : eqB x y
              · simp
              · have := ihc (j + 1) (by omega)
                simpa using this
          have := main k 0 (by omega)
          rw [List.range_eq_range', this]
          simp
        · rename_i fs hty
          rw [hty] at hd
          obtain ⟨h1, flds, hund, hsz, hsi, hall⟩ := hd
          have hfo : P.fieldsOf t = flds := by simp [Program.fieldsOf, hund]
          rw [run_equalIn_struct w n t cs.toArray cs'.toArray (by rw [hfo]; exact hund) hsi, hfo]
          have hlen : l.length = fs.length := by
            clear hsx hvc hlm hund hsz hall hfo step h1 hty hv
            induction l generalizing fs with
            | nil => simp [plainEach] at hx; subst hx; rfl
            | cons d r ih2 =>
              cases fs with
              | nil => simp [plainEach] at hx
              | cons f gs => simp only [plainEach] at hx; simp [ih2 gs hx.2]
          have main : ∀ (c j : Nat), j + c = flds.size → (Op.eqFields n cs.toArray cs'.toArray (flds.toList.drop j)).run P w = .ok (eqB (.agg (l.drop j)) (.agg (m.drop j))) w := by
            intro c
            induction c with
            | zero =>
              intro j hj
              have : j = l.length := by omega
              subst this
              rw [List.drop_eq_nil_of_le (by simp; omega)]
              simp [Op.eqFields, hlm, eqB]
            | succ c ihc =>
              intro j hj
              have hjf : j < flds.size := by omega
              obtain ⟨k1, k2, k3, k4, k5, k6⟩ := hall j flds[j] (Array.getElem?_eq_getElem hjf)
              have hz : C.kidTy t j = some flds[j].type := by simp [Tab.kidTy, hty, k1]
              obtain ⟨x, y, a, b, q1, q2, q3, q4, q5⟩ := step j _ w hz
              rw [eqB_agg_step q1 q2]
              rw [List.drop_eq_getElem_cons (by simpa using hjf)]
              simp only [Op.eqFields, Array.getElem_toList, k4, ne_eq, not_false_eq_true, if_true, k2, Sem.run_bind, q3, q4, q5, Result.andThen_ok]
              cases hb : eqB x y
              · simp
              · have := ihc (j + 1) (by omega)
                simpa using this
          have := main flds.size 0 (by omega)
          simpa using this
        · exact hx.elim
      | _ => simp [plain] at hy
    | _ => simp [plain] at hx

theorem plain_flat : ∀ (n : Nat) (d : D), SizeOf.sizeOf d < n → ∀ (t : TypeId), plain C t d → flatD d
  | 0, _, h => absurd h (Nat.not_lt_zero _)
  | n + 1, .lit v, _ => fun t _ x hx => by simp only [leaves, List.mem_singleton] at hx; exact ⟨v, hx⟩
  | n + 1, .agg l, hn => fun t hp => by
    have key : ∀ m : List D, SizeOf.sizeOf m ≤ SizeOf.sizeOf l → (∀ x ∈ m, ∃ u, plain C u x) → ∀ x ∈ leavesL m, ∃ v, x = .lit v := by
      intro m
      induction m with
      | nil => intro _ _ x hx; simp [leavesL] at hx
      | cons d r ih =>
        intro hs hm x hx
        simp only [leavesL, List.mem_append] at hx
        simp only [List.cons.sizeOf_spec] at hs
        simp only [D.agg.sizeOf_spec] at hn
        rcases hx with hx | hx
        · obtain ⟨u, hu⟩ := hm d (by simp)
          exact plain_flat n d (by omega) u hu x hx
        · exact ih (by omega) (fun y hy => hm y (by simp [hy])) x hx
    intro x hx
    simp only [leaves] at hx
    refine key l (Nat.le_refl _) (fun y hy => ?_) x hx
    obtain ⟨i, hi, rfl⟩ := List.getElem_of_mem hy
    obtain ⟨u, _, hu⟩ := kidTy_mem hp (List.getElem?_eq_getElem hi)
    exact ⟨u, hu⟩
  | n + 1, .lst _ _ _, _ => fun t hp => by simp [plain] at hp
  | n + 1, .ref _ _, _ => fun t hp => by simp [plain] at hp
  | n + 1, .ptr _ _, _ => fun t hp => by simp [plain] at hp
  | n + 1, .fn _ _, _ => fun t hp => by simp [plain] at hp
  | n + 1, .tup _, _ => fun t hp => by simp [plain] at hp
  | n + 1, .ifc _ _, _ => fun t hp => by simp [plain] at hp
  | n + 1, .mref _, _ => fun t hp => by simp [plain] at hp
  | n + 1, .mp _ _ _, _ => fun t hp => by simp [plain] at hp
  | n + 1, .it _ _ _, _ => fun t hp => by simp [plain] at hp
  | n + 1, .sl _ _ _ _ _, _ => fun t hp => by simp [plain] at hp
theorem plain_flatD {t : TypeId} {d : D} (h : plain C t d) : flatD d := plain_flat _ d (Nat.lt_succ_self _) t h

theorem sh_inj : ∀ (s : Sh) (a b : D), hasSh s a → hasSh s b → leaves a = leaves b → a = b := by
  intro s
  induction s with
  | leaf => intro a b ha hb h; rw [leaves_of_isLeaf ha, leaves_of_isLeaf hb] at h; simpa using h
  | obj k => intro a b ha hb h; rw [leaves_of_isLeaf ha, leaves_of_isLeaf hb] at h; simpa using h
  | unit => intro a b ha hb _; cases a <;> simp [hasSh] at ha; cases b <;> simp [hasSh] at hb; rw [ha, hb]
  | pair p q ihp ihq =>
    intro a b ha hb h
    cases a <;> simp [hasSh] at ha
    cases b <;> simp [hasSh] at hb
    obtain ⟨x, r, rfl, hx, hr⟩ := ha
    obtain ⟨y, u, rfl, hy, hu⟩ := hb
    simp only [leaves, leavesL] at h
    obtain ⟨h1, h2⟩ := List.append_inj h (by rw [leaves_length hx, leaves_length hy])
    have e1 := ihp x y hx hy h1
    have e2 := ihq (.agg r) (.agg u) hr hu (by simpa only [leaves] using h2)
    cases e1; cases e2; rfl
  | arr n s ih =>
    intro a b ha hb h
    cases a <;> simp [hasSh] at ha
    cases b <;> simp [hasSh] at hb
    rename_i l m
    obtain ⟨hl, hl2⟩ := ha
    obtain ⟨hm, hm2⟩ := hb
    simp only [leaves] at h
    have : l = m := by
      rw [← hm] at hl
      clear hm
      induction l generalizing m with
      | nil => exact (List.eq_nil_of_length_eq_zero (by simpa using hl.symm)).symm
      | cons x r ih2 =>
        cases m with
        | nil => simp at hl
        | cons y u =>
          simp only [leavesL] at h
          have hx := hl2 x (by simp)
          have hy := hm2 y (by simp)
          obtain ⟨h1, h2⟩ := List.append_inj h (by rw [leaves_length hx, leaves_length hy])
          rw [ih x y hx hy h1, ih2 u h2 (by simpa using hl) (fun z hz => hl2 z (List.mem_cons_of_mem _ hz)) (fun z hz => hm2 z (List.mem_cons_of_mem _ hz))]
    rw [this]

theorem plain_inj (hT : TabOk P C) {t : TypeId} {a b : D} (ha : plain C t a) (hb : plain C t b) (h : valOf a = valOf b) : a = b := by
  have hsa := plain_sh hT _ t a (Nat.lt_succ_self _) ha
  have hsb := plain_sh hT _ t b (Nat.lt_succ_self _) hb
  refine sh_inj _ a b hsa hsb ?_
  have fa := plain_flatD ha
  have fb := plain_flatD hb
  have key : ∀ l m : List D, (∀ x ∈ l, ∃ v, x = .lit v) → (∀ x ∈ m, ∃ v, x = .lit v) → l.map litOf = m.map litOf → l = m := by
    intro l
    induction l with
    | nil => intro m _ _ h; simpa using h.symm
    | cons x r ih =>
      intro m hl hm h
      cases m with
      | nil => simp at h
      | cons y u =>
        simp only [List.map_cons, List.cons.injEq] at h
        obtain ⟨v, rfl⟩ := hl x (by simp)
        obtain ⟨v', rfl⟩ := hm y (by simp)
        have : v = v' := h.1
        rw [this, ih u (fun z hz => hl z (by simp [hz])) (fun z hz => hm z (by simp [hz])) h.2]
  cases a with
  | lit v =>
    cases b with
    | lit v' => simp only [valOf, litOf] at h; rw [h]
    | agg m => cases v <;> simp [plain] at ha <;> simp [plain, ha] at hb
    | _ => simp [plain] at hb
  | agg l =>
    cases b with
    | lit v' => cases v' <;> simp [plain] at hb <;> simp [plain, hb] at ha
    | agg m =>
      have h := congrArg Array.toList (Value.agg.inj h)
      simp only at h
      simp only [leaves] at fa fb ⊢
      exact key _ _ (fun x hx => fa x (by simpa only [leaves] using hx)) (fun x hx => fb x (by simpa only [leaves] using hx)) h
    | _ => simp [plain] at hb
  | _ => simp [plain] at ha

end
end Go.Ab
