/- Each operation does in the machine what is said of it at the level of values (2: numbers, reads, parts). Conditions: the table fits the program. -/
import Derived.Test.YtjafmlbcjhoflaaGreatAbE
namespace Go.Ab
section
variable {P : Program} {C : Tab} {ρ : Env} {h : Heap} {w : World} {o : Oper} {a : Act} {e : Operand → D} {d : D}

theorem run_eqGuard_lit (op : BinOp) (t : TypeId) (x y : Operand) (v u : Value) (h1 : v ≠ .nilIface) (h2 : ∀ c, v ≠ .agg c) : (eqGuard op t x y v u).run P w = .ok () w := by
  unfold eqGuard
  cases op <;> simp only [Bool.not_true, Bool.not_false, Bool.false_eq_true, if_false, if_true] <;> first
    | rfl
    | (cases v <;> first | exact absurd rfl h1 | exact absurd rfl (h2 _) | rfl)

theorem eql_sound (hT : TabOk P C) {op : BinOp} (hop : op = .eql ∨ op = .neq) {t : TypeId} {x y : Operand} {dx dy : D} {v u : Value} (hpx : plain C t dx) (hpy : plain C t dy)
    (hv : VV C.sh ρ v dx) (hu : VV C.sh ρ u dy) (hni : ∀ k n, dx ≠ .lit (.int k n)) (hns : ∀ s, dx ≠ .lit (.string s)) :
    ((do eqGuard op t x y v u; binOp op t v u : Sem Value)).run P w = .ok (.bool (if op = .eql then eqB dx dy else !eqB dx dy)) w := by
  have hdt : C.ty t ≠ .bad := by
    intro e
    cases dx with
    | lit v => cases v <;> simp [plain, e] at hpx
    | agg l => simp [plain, e] at hpx
    | _ => simp [plain] at hpx
  have hf := hT t hdt
  have heq := equalIn_sound (ρ := ρ) hT 10000 t dx dy v u w (by have := hf.depLt; omega) hpx hpy hv hu
  cases dx with
  | lit xv =>
    have := vv_lit hv; subst this
    cases v <;> simp only [plain] at hpx <;> first | exact hpx.elim | skip
    · cases dy with
      | lit yv =>
        have := vv_lit hu; subst this
        cases u <;> simp only [plain] at hpy <;> first | exact hpy.elim | skip
        · rw [Sem.run_bind, run_eqGuard_lit _ _ _ _ _ _ (by simp) (by simp)]
          rcases hop with rfl | rfl <;> simp [binOp, Op.equal, Op.maxDepth, heq]
        · rw [hpx] at hpy; cases hpy
        · rw [hpx] at hpy; cases hpy
      | agg m => simp [plain, hpx] at hpy
      | _ => simp [plain] at hpy
    · exact absurd rfl (hni _ _)
    · exact absurd rfl (hns _)
  | agg l =>
    cases dy with
    | lit yv =>
      cases yv <;> simp only [plain] at hpy <;> first | exact hpy.elim | (simp [plain, hpy] at hpx)
    | agg m =>
      have hagg : (C.ty t).isAgg = true := by
        unfold plain at hpx
        split at hpx
        · rename_i hty; rw [hty]; rfl
        · rename_i hty; rw [hty]; rfl
        · exact hpx.elim
      obtain ⟨cs, rfl⟩ : ∃ cs : Array Value, v = .agg cs := by
        cases hv with
        | pure h => cases h with | agg => exact ⟨_, rfl⟩
        | agg => exact ⟨_, rfl⟩
      obtain ⟨cs', rfl⟩ : ∃ cs : Array Value, u = .agg cs := by
        cases hu with
        | pure h => cases h with | agg => exact ⟨_, rfl⟩
        | agg => exact ⟨_, rfl⟩
      rw [Sem.run_bind, run_eqGuard_agg w op t x y cs cs' (hf.guard hagg)]
      rcases hop with rfl | rfl <;> simp [binOp, Op.equal, Op.maxDepth, heq]
    | _ => simp [plain] at hpy
  | _ => simp [plain] at hpx

theorem did_bin (hT : TabOk P C) (r : Real C.sh ρ h w) (he : ∀ x, VV C.sh ρ (a.eval x) (e x)) {op : BinOp} {t t' : TypeId} {x y : Operand} (ho : o.op = .binOp op t x y t') (hd : binD C op t (e x) (e y) = some d) :
    Did P C o a w ρ h d := by
  have hx := he x
  have hy := he y
  generalize hdx : e x = dx at hx hd
  generalize hdy : e y = dy at hy hd
  have fin : ∀ v, ((do eqGuard op t x y (a.eval x) (a.eval y); binOp op t (a.eval x) (a.eval y) : Sem Value)).run P w = .ok v w → VV C.sh ρ v d → Did P C o a w ρ h d := by
    intro v hv hvd
    refine Did.quiet r (v := v) ?_ hvd
    simp only [execOp, ho]
    rw [Sem.run_bind, hv]
    rfl
  unfold binD at hd
  split at hd
  · split at hd
    · rename_i k n k' n' hk
      subst hk
      have h1 := vv_lit hx
      have h2 := vv_lit hy
      obtain ⟨v, hv, hvd⟩ := intOp_sound (P := P) (ρ := ρ) (w := w) t hd
      refine fin v ?_ hvd
      rw [h1, h2, Sem.run_bind, run_eqGuard_lit _ _ _ _ _ _ (by simp) (by simp)]
      exact hv
    · cases hd
  · have h1 := vv_lit hx
    have h2 := vv_lit hy
    obtain ⟨v, hv, hvd⟩ := strOp_sound (P := P) (ρ := ρ) (w := w) t hd
    refine fin v ?_ hvd
    rw [h1, h2, Sem.run_bind, run_eqGuard_lit _ _ _ _ _ _ (by simp) (by simp)]
    exact hv
  · rename_i n1 n2
    have hni : plain C t dx → plain C t dy → ∀ k n, dx ≠ .lit (.int k n) := by
      intro hp1 hp2 k n e1
      subst e1
      simp only [plain] at hp1
      cases dy with
      | lit yv =>
        cases yv <;> simp only [plain] at hp2 <;> first | exact hp2.elim | (rw [hp1] at hp2; first | cases hp2; done | skip)
        exact n1 _ _ _ _ rfl rfl
      | agg m => simp [plain, hp1] at hp2
      | _ => simp [plain] at hp2
    have hns : plain C t dx → plain C t dy → ∀ s, dx ≠ .lit (.string s) := by
      intro hp1 hp2 s e1
      subst e1
      simp only [plain] at hp1
      cases dy with
      | lit yv =>
        cases yv <;> simp only [plain] at hp2 <;> first | exact hp2.elim | (rw [hp1] at hp2; first | cases hp2; done | skip)
        exact n2 _ _ rfl rfl
      | agg m => simp [plain, hp1] at hp2
      | _ => simp [plain] at hp2
    split at hd
    · split at hd
      · rename_i hp
        cases hd
        refine fin _ (eql_sound hT (.inl rfl) hp.1 hp.2 hx hy (hni hp.1 hp.2) (hns hp.1 hp.2)) ?_
        exact .lit _
      · cases hd
    · split at hd
      · rename_i hp
        cases hd
        refine fin _ (eql_sound hT (.inr rfl) hp.1 hp.2 hx hy (hni hp.1 hp.2) (hns hp.1 hp.2)) ?_
        simp only [reduceCtorEq, if_false]
        exact .lit _
      · cases hd
    · cases hd

theorem did_un (r : Real C.sh ρ h w) (he : ∀ x, VV C.sh ρ (a.eval x) (e x)) {op : UnOp} {t : TypeId} {x : Operand} (ho : o.op = .unOp op t x) (hd : unD op (e x) = some d) : Did P C o a w ρ h d := by
  have hx := he x
  generalize e x = dx at hx hd
  unfold unD at hd
  split at hd
  · split at hd
    · cases hd
      refine Did.quiet r ?_ (.lit _)
      rw [execOp, ho]; simp [vv_lit hx, Op.unary]
    · cases hd
  · split at hd
    · cases hd
      refine Did.quiet r ?_ (.lit _)
      rw [execOp, ho]; simp [vv_lit hx, Op.unary, Op.intArith]
    · cases hd
  · cases hd

theorem did_conv (hT : TabOk P C) (r : Real C.sh ρ h w) (he : ∀ x, VV C.sh ρ (a.eval x) (e x)) {s t : TypeId} {x : Operand} (ho : o.op = .convert s t x) (hs : C.ty s ≠ .bad) (ht : C.ty t ≠ .bad)
    (hd : convD C s t (e x) = some d) : Did P C o a w ρ h d := by
  have hx := he x
  generalize e x = dx at hx hd
  have hus : ∃ u, P.underlying s = some u := by
    have h1 := (hT s hs).desc
    cases hty : C.ty s <;> rw [hty] at h1
    · exact h1.elim
    · exact ⟨_, h1.2⟩
    · exact ⟨_, h1.2⟩
    · obtain ⟨_, d, hd, _⟩ := h1; exact ⟨d, hd⟩
    · exact ⟨_, h1.2⟩
    · exact ⟨_, h1.2.1⟩
    · exact ⟨_, h1.2.1⟩
    · obtain ⟨_, fl, hf, _⟩ := h1; exact ⟨_, hf⟩
    · exact ⟨_, h1.2.1⟩
  obtain ⟨us, hus⟩ := hus
  unfold convD at hd
  split at hd
  · split at hd
    · rename_i k n _ k' hty
      cases hd
      have h1 := (hT t ht).desc
      rw [hty] at h1
      refine Did.quiet r (v := .int k' (k'.wrap n)) ?_ (.lit _)
      rw [execOp, ho]
      simp only [vv_lit hx, convert, Sem.run_bind, run_underlying hus, run_underlying h1.2, Result.andThen_ok]
      cases us <;> simp [Conv.intToInt]
    · cases hd
  · split at hd
    · rename_i h1 h2
      cases hd
      have g1 := (hT t ht).desc
      rw [h2] at g1
      have g2 := (hT s hs).desc
      rw [h1] at g2
      refine Did.quiet r (v := .string _) ?_ (.lit _)
      rw [execOp, ho]
      simp only [vv_lit hx, convert, Sem.run_bind, run_underlying g1.2, run_underlying g2.2, Result.andThen_ok]
      simp
    · cases hd
  · cases hd

end
end Go.Ab
