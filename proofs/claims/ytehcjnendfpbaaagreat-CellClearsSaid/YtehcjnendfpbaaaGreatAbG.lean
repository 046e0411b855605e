/- Each operation does in the machine what is said of it at the level of values (2: numbers, reads, parts). Conditions: the table fits the program. -/
import Derived.Test.YtehcjnendfpbaaaGreatAbE
namespace Go.Ab
section
variable {P : Program} {C : Tab} {ρ : Env} {h : Heap} {w : World} {o : Oper} {a : Act} {e : Operand → D} {d : D}

theorem run_eqGuard_lit (op : BinOp) (t : TypeId) (x y : Operand) (v u : Value) (h1 : v ≠ .nilIface) (h2 : ∀ c, v ≠ .agg c) : (eqGuard op t x y v u).run P w = .ok () w := by
  unfold eqGuard
  cases op <;> simp only [Bool.not_true, Bool.not_false, Bool.false_eq_true, if_false, if_true] <;> first
    | rfl
    | (cases v <;> first | exact absurd rfl h1 | exact absurd rfl (h2 _) | rfl)

theorem eql_sound (hT : TabOk P C) {op : BinOp} (hop : op = .eql ∨ op = .neq) {t : TypeId} {x y : Operand} {dx dy : D} {v u : Value} (hpx : plain C t dx) (hpy : plain C t dy)
    (hv : VV C.sh ρ v dx) (hu : VV C.sh ρ u dy) (hni : ∀ k n, dx ≠ .lit (.int k n)) (hns : ∀ s, dx ≠ .lit (.string s)) :
    ((do eqGuard op t x y v u; binOp op t v u : Sem Value)).run P w = .ok (.bool (if op = .eql then eqB dx dy else !eqB dx dy)) w := by
  have hdt : C.ty t ≠ .bad := by
    intro e
    cases dx with
    | lit v => cases v <;> simp [plain, e] at hpx
    | agg l => simp [plain, e] at hpx
    | _ => simp [plain] at hpx
  have hf := hT t hdt
  have heq := equalIn_sound (ρ := ρ) hT 10000 t dx dy v u w (by have := hf.depLt; omega) hpx hpy hv hu
  cases dx with
  | lit xv =>
    have := vv_lit hv; subst this
    cases v <;> simp only [plain] at hpx <;> first | exact hpx.elim | skip
    · cases dy with
      | lit yv =>
        have := vv_lit hu; subst this
        cases u <;> simp only [plain] at hpy <;> first | exact hpy.elim | skip
        · rw [Sem.run_bind, run_eqGuard_lit _ _ _ _ _ _ (by simp) (by simp)]
          rcases hop with rfl | rfl <;> simp [binOp, Op.equal, Op.maxDepth, heq]
        · rw [hpx] at hpy; cases hpy
        · rw [hpx] at hpy; cases hpy
      | agg m => simp [plain, hpx] at hpy
      | _ => simp [plain] at hpy
    · exact absurd rfl (hni _ _)
    · exact absurd rfl (hns _)
  | agg l =>
    cases dy with
    | lit yv =>
      cases yv <;> simp only [plain] at hpy <;> first | exact hpy.elim | (simp [plain, hpy] at hpx)
    | agg m =>
      have hagg : (C.ty t).isAgg = true := by
        unfold plain at hpx
        split at hpx
        · rename_i hty; rw [hty]; rfl
        · rename_i hty; rw [hty]; rfl
        · exact hpx.elim
      obtain ⟨cs, rfl⟩ : ∃ cs : Array Value, v = .agg cs := by
        cases hv with
        | pure h => cases h with | agg => exact ⟨_, rfl⟩
        | agg => exact ⟨_, rfl⟩
      obtain ⟨cs', rfl⟩ : ∃ cs : Array Value, u = .agg cs := by
        cases hu with
        | pure h => cases h with | agg => exact ⟨_, rfl⟩
        | agg => exact ⟨_, rfl⟩
      rw [Sem.run_bind, run_eqGuard_agg w op t x y cs cs' (hf.guard hagg)]
      rcases hop with rfl | rfl <;> simp [binOp, Op.equal, Op.maxDepth, heq]
    | _ => simp [plain] at hpy
  | _ => simp [plain] at hpx

theorem did_bin (hT : TabOk P C) (r : Real C.sh ρ h w) (he : ∀ x, VV C.sh ρ (a.eval x) (e x)) {op : BinOp} {t t' : TypeId} {x y : Operand} (ho : o.op = .binOp op t x y t') (hd : binD C op t (e x) (e y) = some d) :
    Did P C o a w ρ h d := by
  have hx := he x
  have hy := he y
  generalize hdx : e x = dx at hx hd
  generalize hdy : e y = dy at hy hd
  have fin : ∀ v, ((do eqGuard op t x y (a.eval x) (a.eval y); binOp op t (a.eval x) (a.eval y) : Sem Value)).run P w = .ok v w → VV C.sh ρ v d → Did P C o a w ρ h d := by
    intro v hv hvd
    refine Did.quiet r (v := v) ?_ hvd
    simp only [execOp, ho]
    rw [Sem.run_bind, hv]
    rfl
  unfold binD at hd
  split at hd
  · split at hd
    · rename_i k n k' n' hk
      subst hk
      have h1 := vv_lit hx
      have h2 := vv_lit hy
      obtain ⟨v, hv, hvd⟩ := intOp_sound (P := P) (ρ := ρ) (w := w) t hd
      refine fin v ?_ hvd
      rw [h1, h2, Sem.run_bind, run_eqGuard_lit _ _ _ _ _ _ (by simp) (by simp)]
      exact hv
    · cases hd
  · have h1 := vv_lit hx
    have h2 := vv_lit hy
    obtain ⟨v, hv, hvd⟩ := strOp_sound (P := P) (ρ := ρ) (w := w) t hd
    refine fin v ?_ hvd
    rw [h1, h2, Sem.run_bind, run_eqGuard_lit _ _ _ _ _ _ (by simp) (by simp)]
    exact hv
  · rename_i n1 n2
    have hni : plain C t dx → plain C t dy → ∀ k n, dx ≠ .lit (.int k n) := by
      intro hp1 hp2 k n e1
      subst e1
      simp only [plain] at hp1
      cases dy with
      | lit yv =>
        cases yv <;> simp only [plain] at hp2 <;> first | exact hp2.elim | (rw [hp1] at hp2; first | cases hp2; done | skip)
        exact n1 _ _ _ _ rfl rfl
      | agg m => simp [plain, hp1] at hp2
      | _ => simp [plain] at hp2
    have hns : plain C t dx → plain C t dy → ∀ s, dx ≠ .lit (.string s) := by
      intro hp1 hp2 s e1
      subst e1
      simp only [plain] at hp1
      cases dy with
      | lit yv =>
        cases yv <;> simp only [plain] at hp2 <;> first | exact hp2.elim | (rw [hp1] at hp2; first | cases hp2; done | skip)
        exact n2 _ _ rfl rfl
      | agg m => simp [plain, hp1] at hp2
      | _ => simp [plain] at hp2
    split at hd
    · split at hd
      · rename_i hp
        cases hd
        refine fin _ (eql_sound hT (.inl rfl) hp.1 hp.2 hx hy (hni hp.1 hp.2) (hns hp.1 hp.2)) ?_
        exact .lit _
      · cases hd
    · split at hd
      · rename_i hp
        cases hd
        refine fin _ (eql_sound hT (.inr rfl) hp.1 hp.2 hx hy (hni hp.1 hp.2) (hns hp.1 hp.2)) ?_
        simp only [reduceCtorEq, if_false]
        exact .lit _
      · cases hd
    · cases hd

theorem did_un (r : Real C.sh ρ h w) (he : ∀ x, VV C.sh ρ (a.eval x) (e x)) {op : UnOp} {t : TypeId} {x : Operand} (ho : o.op = .unOp op t x) (hd : unD op (e x) = some d) : Did P C o a w ρ h d := by
  have hx := he x
  generalize e x = dx at hx hd
  unfold unD at hd
  split at hd
  · split at hd
    · cases hd
      refine Did.quiet r ?_ (.lit _)
      rw [execOp, ho]; simp [vv_lit hx, Op.unary]
    · cases hd
  · split at hd
    · cases hd
      refine Did.quiet r ?_ (.lit _)
      rw [execOp, ho]; simp [vv_lit hx, Op.unary, Op.intArith]
    · cases hd
  · cases hd

theorem did_conv (hT : TabOk P C) (r : Real C.sh ρ h w) (he : ∀ x, VV C.sh ρ (a.eval x) (e x)) {s t : TypeId} {x : Operand} (ho : o.op = .convert s t x) (hs : C.ty s ≠ .bad) (ht : C.ty t ≠ .bad)
    (hd : convD C s t (e x) = some d) : Did P C o a w ρ h d := by
  have hx := he x
  generalize e x = dx at hx hd
  have hus : ∃ u, P.underlying s = some u := by
    have h1 := (hT s hs).desc
    cases hty : C.ty s <;> rw [hty] at h1
    · exact h1.elim
    · exact ⟨_, h1.2⟩
    · exact ⟨_, h1.2⟩
    · obtain ⟨_, d, hd, _⟩ := h1; exact ⟨d, hd⟩
    · exact ⟨_, h1.2⟩
    · exact ⟨_, h1.2.1⟩
    · exact ⟨_, h1.2.1⟩
    · obtain ⟨_, fl, hf, _⟩ := h1; exact ⟨_, hf⟩
    · exact ⟨_, h1.2.1⟩
  obtain ⟨us, hus⟩ := hus
  unfold convD at hd
  split at hd
  · split at hd
    · rename_i k n _ k' hty
      cases hd
      have h1 := (hT t ht).desc
      rw [hty] at h1
      refine Did.quiet r (v := .int k' (k'.wrap n)) ?_ (.lit _)
      rw [execOp, ho]
      simp only [vv_lit hx, convert, Sem.run_bind, run_underlying hus, run_underlying h1.2, Result.andThen_ok]
      cases us <;> simp [Conv.intToInt]
    · cases hd
  · split at hd
    · rename_i h1 h2
      cases hd
      have g1 := (hT t ht).desc
      rw [h2] at g1
      have g2 := (hT s hs).desc
      rw [h1] at g2
      refine Did.quiet r (v := .string _) ?_ (.lit _)
      rw [execOp, ho]
      simp only [vv_lit hx, convert, Sem.run_bind, run_underlying g1.2, run_underlying g2.2, Result.andThen_ok]
      simp
    · cases hd
  · cases hd

end
end Go.Ab
namespace Go.Ab
section
variable {P : Program} {C : Tab} {ρ : Env} {h : Heap} {w : World} {o : Oper} {a : Act} {e : Operand → D} {d : D}

theorem vv_ptr {v : Value} {b : Nat} {p : List Nat} (hv : VV C.sh ρ v (.ptr b p)) : ∃ B sh s, v = .pointer (some ⟨B, sh.off p, none⟩) ∧ ρ.box[b]? = some (B, sh) ∧ sh.at p = some s := by
  cases hv with
  | pure h => cases h
  | ptr h1 h2 => exact ⟨_, _, _, rfl, h1, h2⟩

theorem vv_ref {v : Value} {s : Sh} {x : D} (hv : VV C.sh ρ v (.ref s x)) : ∃ ad cs, v = .pointer (some ad) ∧ RowAt ρ.S ad cs ∧ cs.length = (leaves x).length ∧
    (∀ (i : Nat) (c : Value) (y : D), cs[i]? = some c → (leaves x)[i]? = some y → VP C.sh ρ.S c y) ∧ hasSh s x := by
  cases hv with
  | pure h => cases h with | ref cs h1 h2 h3 h4 => exact ⟨_, cs, rfl, h1, h2, h3, h4⟩

theorem real_box (r : Real C.sh ρ h w) {b B : Nat} {sh sh' : Sh} {x : D} (hb : ρ.box[b]? = some (B, sh)) (hx : h.boxes[b]? = some (sh', x)) (hc : sh'.cellular = true) :
    sh' = sh ∧ hasSh sh x ∧ ∃ c t, w.heap[B]? = some (.cells c t (0, 0)) ∧ All2 (VV C.sh ρ) c.toList (leaves x) := by
  obtain ⟨h1, h2, _, h3⟩ := r.box b B sh sh' x hb hx (by rintro rfl; cases hc)
  subst h1
  obtain ⟨c, t, h3, h4⟩ := (boxAt_cells hc).1 h3
  exact ⟨rfl, h2, c, t, h3, h4⟩

theorem vv_mref {v : Value} {b : Nat} (hv : VV C.sh ρ v (.mref b)) : ∃ B, v = .map (some B) ∧ ρ.box[b]? = some (B, .obj 1) := by
  cases hv with
  | pure h => cases h
  | mref h => exact ⟨_, rfl, h⟩

theorem real_map (r : Real C.sh ρ h w) {b B : Nat} {ks : List D} {vs : List D} {g : Nat} (hb : ρ.box[b]? = some (B, .obj 1)) (hx : h.boxes[b]? = some (.obj 1, .mp ks vs g)) :
    ∃ es clock, w.heap[B]? = some (.map es clock) ∧ MapKept.Stamped es clock ∧ es.toList.map (·.key) = ks.map valOf ∧ (∀ k ∈ ks, flatD k) ∧ All2 (VV C.sh ρ) (es.toList.map (·.val)) vs := by
  obtain ⟨_, _, _, h3⟩ := r.box b B _ _ _ hb hx (by simp)
  obtain ⟨ks', vs', g', es, clock, h4, h5, h6, h7, h9, h8⟩ := h3
  cases h4
  exact ⟨es, clock, h5, h6.1, h7, h9, h8⟩
theorem real_count (r : Real C.sh ρ h w) {b B : Nat} {ks : List D} {vs : List D} {g : Nat} (hb : ρ.box[b]? = some (B, .obj 1)) (hx : h.boxes[b]? = some (.obj 1, .mp ks vs g)) {es : Array MapEntry} {clock : Nat} (hw : w.heap[B]? = some (.map es clock)) : Count es clock g := by
  obtain ⟨_, _, _, h3⟩ := r.box b B _ _ _ hb hx (by simp)
  obtain ⟨ks', vs', g', es', clock', h4, h5, h6, h7, h9, h8⟩ := h3
  cases h4
  rw [hw] at h5; cases h5
  exact h6.2

theorem vv_sl {v : Value} {u : TypeId} {b lo n c : Nat} (hv : VV C.sh ρ v (.sl u b lo n c)) : ∃ B N o, v = .slice (some ⟨B, o, none⟩) n c ∧ ρ.box[b]? = some (B, .arr N (C.sh u)) ∧ lo + c ≤ N ∧ n ≤ c ∧ N ≤ maxLen ∧ (c ≠ 0 → o = lo * (C.sh u).size) := by
  cases hv with
  | pure h => cases h
  | sl h hc hn hm ho => exact ⟨_, _, _, rfl, h, hc, hn, hm, ho⟩

/-- What a list's data say of the value. -/
def IsRow (T : TypeId → Sh) (S : Nat → Nat → Option Value) (v : Value) (u : TypeId) (l : List D) (tk : Tok) : Prop :=
  (v = .slice none 0 0 ∧ l = []) ∨ ∃ ad cap cs, v = .slice (some ad) l.length cap ∧ RowAt S ad cs ∧ cs.length = (leavesL l).length ∧
    (∀ (i : Nat) (c : Value) (y : D), cs[i]? = some c → (leavesL l)[i]? = some y → VP T S c y) ∧ (∀ d ∈ l, hasSh (T u) d) ∧ l.length ≤ cap ∧ cap ≤ maxLen ∧ (tk = .full → cap = l.length)

theorem vp_lst {T : TypeId → Sh} {S : Nat → Nat → Option Value} {v : Value} {u : TypeId} {l : List D} {tk : Tok} (hv : VP T S v (.lst u l tk)) : IsRow T S v u l tk := by
  cases hv with
  | nil => exact .inl ⟨rfl, rfl⟩
  | lst cs h1 h2 h3 h4 h5 h6 h7 h8 => exact .inr ⟨_, _, cs, rfl, h1, h2, h3, h4, h5, h6, h8⟩

theorem vv_lst {v : Value} {u : TypeId} {l : List D} {tk : Tok} (hv : VV C.sh ρ v (.lst u l tk)) : IsRow C.sh ρ.S v u l tk := by
  cases hv with
  | pure h => exact vp_lst h
  | ownNil => exact .inl ⟨rfl, rfl⟩
  | own h1 _ h2 =>
    rcases vp_lst h2 with ⟨h, _⟩ | ⟨ad, cap, cs, k1, k2, k3, k4, k5, k6, k7, k8⟩
    · simp at h
    · exact .inr ⟨ad, cap, cs, k1, k2, k3, k4, k5, k6, k7, by simp⟩

theorem vv_own {v : Value} {u : TypeId} {l : List D} {id : Nat} (hv : VV C.sh ρ v (.lst u l (.own id))) : (v = .slice none 0 0 ∧ l = [] ∧ ρ.tok[id]? = some none) ∨
    ∃ B o n lim cap, v = .slice (some ⟨B, o, none⟩) l.length cap ∧ ρ.tok[id]? = some (some (B, n, lim)) ∧ (cap ≠ 0 → n = o + l.length * (C.sh u).size ∧ lim = o + cap * (C.sh u).size) ∧ VP C.sh ρ.S (.slice (some ⟨B, o, none⟩) l.length cap) (.lst u l .no) := by
  cases hv with
  | pure h =>
    cases h with
    | nil ht => exact absurd rfl (ht id)
    | lst _ _ _ _ _ _ _ ht => exact absurd rfl (ht id)
  | ownNil h => exact .inl ⟨rfl, rfl, h⟩
  | own h1 hn h2 => exact .inr ⟨_, _, _, _, _, rfl, h1, hn, h2⟩

/-- A variable's cells, part of it. -/
theorem sub_cells {s s' : Sh} {x y : D} {p : List Nat} {cs : List Value} {R : Value → D → Prop} (hs : hasSh s x) (hp : s.at p = some s') (hy : x.get p = some y) (ha : All2 R cs (leaves x)) :
    hasSh s' y ∧ All2 R ((cs.drop (s.off p)).take s'.size) (leaves y) := by
  obtain ⟨z, hz, hsz, hsp, hle⟩ := way_get hs hp
  rw [hy] at hz; cases hz
  refine ⟨hsz, ?_⟩
  have h1 := (ha.drop (s.off p)).take s'.size
  have hlen := leaves_length hs
  have hly := leaves_length hsz
  have h2 : (List.drop (s.off p) (leaves x)).take s'.size = leaves y := by
    conv => lhs; rw [hsp]
    rw [List.append_assoc, List.drop_append, List.drop_eq_nil_of_le (by rw [List.length_take]; omega), List.length_take, Nat.min_eq_left (by omega), Nat.sub_self]
    simp [← hly]
  rwa [h2] at h1

theorem did_load (hT : TabOk P C) (r : Real C.sh ρ h w) (he : ∀ x, VV C.sh ρ (a.eval x) (e x)) {t : TypeId} {x : Operand} (ho : o.op = .load t x) (hd : loadD C h t (e x) = some d) : Did P C o a w ρ h d := by
  have hx := he x
  generalize e x = dx at hx hd
  unfold loadD at hd
  split at hd
  · rename_i b p
    split at hd
    · rename_i sh y hbx
      split at hd
      · rename_i hc
        obtain ⟨hat, htb⟩ := hc
        obtain ⟨B, sh', s, hv, hbox, hs⟩ := vv_ptr hx
        obtain ⟨rfl, hsh, c, tt, hw, ha⟩ := real_box r hbox hbx (Sh.at_cellular hat (hT t htb).cellular)
        obtain ⟨k1, k2⟩ := sub_cells hsh hat hd ha
        obtain ⟨v, hr, hvd⟩ := run_loadVar (hT t htb) k1 (rd_of_block hw _ _) k2
        refine Did.quiet r ?_ hvd
        rw [execOp, ho]
        simp [Instr.loadAt, Instr.sureAddr, hv, hr]
      · cases hd
    · cases hd
  · rename_i s y
    split at hd
    · rename_i hc
      obtain ⟨hst, htb⟩ := hc
      cases hd
      obtain ⟨ad, cs, hv, hrow, hl, hall, hsh⟩ := vv_ref hx
      subst hst
      obtain ⟨v, hr, hvd⟩ := run_loadVar (hT t htb) hsh (rd_of_row r hrow) ⟨hl, fun i c y hc hy => VV.pure (hall i c y hc hy)⟩
      refine Did.quiet r ?_ hvd
      rw [execOp, ho]
      simp [Instr.loadAt, Instr.sureAddr, hv, hr]
    · cases hd
  · cases hd

theorem rowAt_sub {S : Nat → Nat → Option Value} {ad : Addr} {cs : List Value} (hr : RowAt S ad cs) (o n : Nat) : RowAt S (ad.add o) ((cs.drop o).take n) := by
  intro i c hc
  rw [List.getElem?_take] at hc
  split at hc
  · rw [List.getElem?_drop] at hc
    obtain ⟨h1, h2⟩ := hr _ _ hc
    rw [addr_add ad o h1]
    exact ⟨rfl, by rw [Nat.add_assoc]; exact h2⟩
  · cases hc

/-- One step down at an address. -/
theorem step_sound (hT : TabOk P C) (r : Real C.sh ρ h w) {t : TypeId} {k : Nat} {x : D} {v : Value} (hx : VV C.sh ρ v x) (hd : stepD C h t k x = some d) :
    ∃ ad u, v = .pointer (some ad) ∧ C.kidTy t k = some u ∧ VV C.sh ρ (.pointer (some (ad.add ((C.sh t).kidOff k)))) d := by
  unfold stepD at hd
  split at hd
  · rename_i b p
    split at hd
    · rename_i sh y hbx
      split at hd
      · rename_i hat
        cases hk : C.kidTy t k with
        | none => simp [hk] at hd
        | some u =>
          simp only [hk, Option.map_some, Option.some.injEq] at hd
          subst hd
          obtain ⟨B, sh', s, rfl, hbox, hs⟩ := vv_ptr hx
          obtain ⟨rfl, hsh, c, tt, hw, ha⟩ := real_box r hbox hbx (Sh.at_cellular hat (hT t (kidTy_kid hT hk).1).cellular)
          refine ⟨_, u, rfl, rfl, ?_⟩
          rw [addr_add _ _ rfl]
          have h1 := Sh.off_append k hat
          simp only
          rw [← h1]
          refine .ptr hbox (s := C.sh u) ?_
          rw [Sh.at_append, hat]
          exact (kidTy_kid hT hk).2.2.1
      · cases hd
    · cases hd
  · rename_i s y
    split at hd
    · rename_i hst
      subst hst
      cases hk : C.kidTy t k with
      | none => simp [hk] at hd
      | some u =>
        simp only [hk, Option.bind_some, Option.map_eq_some_iff] at hd
        obtain ⟨z, hz, rfl⟩ := hd
        obtain ⟨ad, cs, rfl, hrow, hl, hall, hsh⟩ := vv_ref hx
        refine ⟨ad, u, rfl, rfl, ?_⟩
        have hkid := (kidTy_kid hT hk).2.2.1
        have hat : (C.sh t).at [k] = some (C.sh u) := by simp [Sh.at, hkid]
        obtain ⟨k1, k2⟩ := sub_cells (R := VP C.sh ρ.S) (y := z) hsh hat (by simp [D.get, hz]) ⟨hl, hall⟩
        have hoff : (C.sh t).off [k] = (C.sh t).kidOff k := by simp [Sh.off, hkid]
        rw [hoff] at k2
        exact .pure (.ref _ (rowAt_sub hrow _ _) k2.1 k2.2 k1)
    · cases hd
  · cases hd

theorem did_fieldAddr (hT : TabOk P C) (r : Real C.sh ρ h w) (he : ∀ x, VV C.sh ρ (a.eval x) (e x)) {t : TypeId} {x : Operand} {k : Nat} {fs : List TypeId} (ho : o.op = .fieldAddr t x k) (hty : C.ty t = .struct fs)
    (hd : stepD C h t k (e x) = some d) : Did P C o a w ρ h d := by
  obtain ⟨ad, u, hv, hk, hvd⟩ := step_sound hT r (he x) hd
  have ht : C.ty t ≠ .bad := by rw [hty]; simp
  have hf := (hT t ht).desc
  rw [hty] at hf
  obtain ⟨h1, flds, hu, hsz, hsi, hall⟩ := hf
  have hk' : fs[k]? = some u := by simpa [Tab.kidTy, hty] using hk
  have hkl : k < flds.size := by rw [hsz]; exact (List.getElem?_eq_some_iff.1 hk').1
  obtain ⟨k1, k2, k3, k4, k5, k6⟩ := hall k flds[k] (Array.getElem?_eq_getElem hkl)
  refine Did.quiet r ?_ hvd
  rw [execOp, ho]
  have hfs := (hT _ k5).run_sizeOf w
  simp only [Instr.fieldAt, Sem.run_bind, run_underlying hu, Result.andThen_ok, Array.getElem?_eq_getElem hkl, Instr.sureAddr, hv, Sem.run_pure, fieldPlace, hfs, k3, Sem.run_ite, if_false, k2]

theorem did_indexAddr (hT : TabOk P C) (r : Real C.sh ρ h w) (he : ∀ x, VV C.sh ρ (a.eval x) (e x)) {t : TypeId} {x i : Operand} (ho : o.op = .indexAddr t x i)
    (hd : indexAddrD C h t (nrm C t (e x)) (e i) = some d) : Did P C o a w ρ h d := by
  have hx := vv_nrm (t := t) (he x)
  have hi := he i
  generalize nrm C t (e x) = dx at hx hd
  generalize e i = di at hi hd
  unfold indexAddrD at hd
  split at hd
  case h_2 => cases hd
  rename_i k n
  have hin := vv_lit hi
  split at hd
  · rename_i u l tk
    split at hd
    · rename_i hty
      split at hd
      · rename_i hb
        have ht : C.ty t ≠ .bad := by rw [hty]; simp
        have hf := (hT t ht).desc
        rw [hty] at hf
        obtain ⟨h1, hu, hub, husz⟩ := hf
        obtain ⟨y, hy, rfl⟩ := Option.map_eq_some_iff.1 hd
        have hfu := (hT u hub).run_sizeOf w
        rcases vv_lst hx with ⟨_, hnil⟩ | ⟨ad, cap, cs, hv, hrow, hl, hall, hsh, _⟩
        · subst hnil; simp at hy
        refine Did.quiet r (v := .pointer (some (ad.add (n.toNat * (C.sh u).size)))) ?_ ?_
        · rw [execOp, ho]
          simp only [Instr.indexAt, hin, asIntOf, Sem.run_bind, Sem.run_pure, Result.andThen_ok, run_underlying hu, hv, Sem.run_ite, hfu]
          rw [if_pos hb]
          rfl
        · have hsl : hasSh (.arr l.length (C.sh u)) (.agg l) := ⟨rfl, hsh⟩
          have hnl : n.toNat < l.length := (List.getElem?_eq_some_iff.1 hy).1
          have hat : (Sh.arr l.length (C.sh u)).at [n.toNat] = some (C.sh u) := by simp [Sh.at, Sh.kid, hnl]
          obtain ⟨k1, k2⟩ := sub_cells (R := VP C.sh ρ.S) (cs := cs) (y := y) hsl hat (by simp [D.get, D.kid, hy]) ⟨by simpa [leaves] using hl, by simpa [leaves] using hall⟩
          have hoff : (Sh.arr l.length (C.sh u)).off [n.toNat] = n.toNat * (C.sh u).size := by simp [Sh.off, Sh.kid, hnl, Sh.kidOff]
          rw [hoff] at k2
          exact .pure (.ref _ (rowAt_sub hrow _ _) k2.1 k2.2 k1)
      · cases hd
    · cases hd
  · rename_i u b l m q
    split at hd
    · rename_i hty
      split at hd
      · rename_i hb
        cases hd
        have ht : C.ty t ≠ .bad := by rw [hty]; simp
        have hf := (hT t ht).desc
        rw [hty] at hf
        obtain ⟨h1, hu, hub, husz⟩ := hf
        have hfu := (hT u hub).run_sizeOf w
        obtain ⟨B, N, oo, hv, hbox, hc, hn, hm, hoo⟩ := vv_sl hx
        have hoo := hoo (by omega)
        subst hoo
        refine Did.quiet r (v := .pointer (some ⟨B, (l + n.toNat) * (C.sh u).size, none⟩)) ?_ ?_
        · rw [execOp, ho]
          simp only [Instr.indexAt, hin, asIntOf, Sem.run_bind, Sem.run_pure, Result.andThen_ok, run_underlying hu, hv, Sem.run_ite, hfu]
          rw [if_pos hb]
          rw [addr_add ⟨B, l * (C.sh u).size, none⟩ _ rfl, Nat.add_mul]
          rfl
        · have hat : (Sh.arr N (C.sh u)).at [l + n.toNat] = some (C.sh u) := by
            have : l + n.toNat < N := by omega
            simp [Sh.at, Sh.kid, this]
          have hoff : (Sh.arr N (C.sh u)).off [l + n.toNat] = (l + n.toNat) * (C.sh u).size := by
            have : l + n.toNat < N := by omega
            simp [Sh.off, Sh.kid, this, Sh.kidOff]
          rw [← hoff]
          exact .ptr hbox hat
      · cases hd
    · cases hd
  · rename_i hnl
    split at hd
    case h_2 => cases hd
    rename_i m u hty
    split at hd
    case isFalse => cases hd
    rename_i hb
    obtain ⟨ad, u', hv, hk, hvd⟩ := step_sound hT r hx hd
    have ht : C.ty t ≠ .bad := by rw [hty]; simp
    have hf := (hT t ht).desc
    rw [hty] at hf
    obtain ⟨h1, hu, hub, _⟩ := hf
    have hfu := (hT u hub).run_sizeOf w
    refine Did.quiet r ?_ hvd
    rw [execOp, ho]
    simp only [Instr.indexAt, hin, asIntOf, Sem.run_bind, Sem.run_pure, Result.andThen_ok, run_underlying hu, hv, Instr.sureAddr, Sem.run_ite, hfu]
    rw [if_pos hb, h1]
    rfl

theorem agg_of {x : D} {v : Value} (hv : VV C.sh ρ v x) {l : List D} (hx : x = .agg l) : ∃ cs : List Value, v = .agg cs.toArray := by
  subst hx
  cases hv with
  | pure h => cases h with | agg => exact ⟨_, rfl⟩
  | agg => exact ⟨_, rfl⟩

theorem field_sound (hT : TabOk P C) {t : TypeId} {k : Nat} {x : D} {v : Value} (hx : VV C.sh ρ v x) (hd : fieldD C t k x = some d) :
    ∃ cs u y, v = .agg cs ∧ C.kidTy t k = some u ∧ C.ty u ≠ .bad ∧ (part u cs ((C.sh t).kidOff k)).run P w = .ok y w ∧ VV C.sh ρ y d := by
  unfold fieldD at hd
  split at hd
  case isFalse => cases hd
  rename_i hsh
  cases hk : C.kidTy t k with
  | none => simp [hk] at hd
  | some u =>
    simp only [hk, Option.bind_some] at hd
    cases x with
    | agg l =>
      obtain ⟨cs, rfl⟩ := agg_of hx rfl
      have ha := vv_cells hx hsh
      simp only [leaves, Value.cells] at ha
      obtain ⟨y, z, h1, h2, h3, h4, h5⟩ := part_of (w := w) hT hk hsh ha
      simp only [D.kid] at hd
      rw [h1] at hd; cases hd
      exact ⟨_, u, y, rfl, rfl, h4, h5, h3⟩
    | _ => simp [D.kid] at hd

theorem did_field (hT : TabOk P C) (r : Real C.sh ρ h w) (he : ∀ x, VV C.sh ρ (a.eval x) (e x)) {t : TypeId} {x : Operand} {k : Nat} {fs : List TypeId} (ho : o.op = .field t x k) (hty : C.ty t = .struct fs)
    (hd : fieldD C t k (e x) = some d) : Did P C o a w ρ h d := by
  obtain ⟨cs, u, y, hv, hk, hub, hp, hvd⟩ := field_sound (w := w) hT (he x) hd
  have ht : C.ty t ≠ .bad := by rw [hty]; simp
  have hf := (hT t ht).desc
  rw [hty] at hf
  obtain ⟨h1, flds, hu, hsz, hsi, hall⟩ := hf
  have hk' : fs[k]? = some u := by simpa [Tab.kidTy, hty] using hk
  have hkl : k < flds.size := by rw [hsz]; exact (List.getElem?_eq_some_iff.1 hk').1
  obtain ⟨k1, k2, k3, k4, k5, k6⟩ := hall k flds[k] (Array.getElem?_eq_getElem hkl)
  have hfu : flds[k].type = u := by rw [hk'] at k1; exact (Option.some.inj k1).symm
  refine Did.quiet r ?_ hvd
  rw [execOp, ho]
  simp only [Instr.field, Sem.run_bind, run_underlying hu, Result.andThen_ok, Array.getElem?_eq_getElem hkl, hv, asAgg, Sem.run_pure, hfu, k2, hp]

theorem did_index (hT : TabOk P C) (r : Real C.sh ρ h w) (he : ∀ x, VV C.sh ρ (a.eval x) (e x)) {t : TypeId} {x i : Operand} (ho : o.op = .index t x i)
    (hd : indexD C t (e x) (e i) = some d) : Did P C o a w ρ h d := by
  have hx := he x
  have hi := he i
  generalize e x = dx at hx hd
  generalize e i = di at hi hd
  unfold indexD at hd
  split at hd
  case h_2 => cases hd
  rename_i k n
  have hin := vv_lit hi
  split at hd
  · rename_i s
    split at hd
    case isFalse => cases hd
    rename_i hty
    split at hd
    case isFalse => cases hd
    rename_i hb
    obtain ⟨b, hb2, rfl⟩ := Option.map_eq_some_iff.1 hd
    have ht : C.ty t ≠ .bad := by rw [hty]; simp
    have hf := (hT t ht).desc
    rw [hty] at hf
    refine Did.quiet r (v := .int .u8 b.toNat) ?_ (.lit _)
    rw [execOp, ho]
    simp only [Instr.index, hin, asIntOf, Sem.run_bind, Sem.run_pure, Result.andThen_ok, run_underlying hf.2, vv_lit hx, if_pos hb, hb2]
  · rename_i hns
    cases hty : C.ty t <;> rw [hty] at hd <;> try (cases hd; done)
    rename_i m u
    simp only at hd
    split at hd
    case isFalse => cases hd
    rename_i hb
    obtain ⟨cs, u', y, hv, hk, hub', hp, hvd⟩ := field_sound (w := w) hT hx hd
    have ht : C.ty t ≠ .bad := by rw [hty]; simp
    have hf := (hT t ht).desc
    rw [hty] at hf
    obtain ⟨h1, hu, hub, _⟩ := hf
    have hfu := (hT u hub).run_sizeOf w
    have hku : u' = u := by
      simp only [Tab.kidTy, hty] at hk
      split at hk
      · exact (Option.some.inj hk).symm
      · cases hk
    subst hku
    refine Did.quiet r ?_ hvd
    rw [execOp, ho]
    rw [h1] at hp
    simp only [Sh.kidOff] at hp
    simp only [Instr.index, hin, asIntOf, Sem.run_bind, Sem.run_pure, Result.andThen_ok, run_underlying hu, hv, Sem.run_ite, hfu, hp]
    rw [if_pos hb]
    rfl

end
end Go.Ab
