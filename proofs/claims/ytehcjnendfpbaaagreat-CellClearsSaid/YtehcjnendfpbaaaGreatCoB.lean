/- Counters: the program's functions. Conditions: none. -/
import Derived.Test.YtehcjnendfpbaaaGreatCeA
import Derived.Test.YtehcjnendfpbaaaGreatRoA
import Derived.Test.YtehcjnendfpbaaaGreatOpD
import Derived.Test.YtehcjnendfpbaaaGreatReC
set_option linter.unusedSimpArgs false
namespace Go.Ab
open Go.Proofs

theorem get_am (l : List AmountR) (k : Nat) (h : (k < l.length) = True) : (l.map amD)[k]? = some (amD (l.getD k default)) := get_enc _ _ _ h
theorem get_am1 (l : List AmountR) (k : Nat) (h : (k < l.length) = True) : (l.map amD)[k - 1]? = some (amD (l.getD (k - 1) default)) := get_enc _ _ _ (by have := of_eq_true h; simp; omega)
theorem within_w (n : Int) : PSpec Tryz.prog CT 101 [.lit (.int .i64 n), .lit (.int .i64 1152921504606846976)] (· = .bool (inW n)) := by
  refine PSpec.of hT Tryz.func101 rfl (by kernel_rfl) rfl rfl ?_
  have hw : IntKind.i64.wrap (-1152921504606846976) = -1152921504606846976 := by decide
  simp only [Tryz.f101, go_sem, simprocAttr, hw]
  (repeat' (first | ((refine guardK_split (fun hg => ?_) (fun hg => ?_)) <;> (try simp only [go_sem, simprocAttr, hg, hw])) | ((refine condK_split (fun hg => ?_) (fun hg => ?_)) <;> (try simp only [go_sem, simprocAttr, hg, hw])) | ((refine Or.inl ⟨by kernel_rfl, ?_⟩) <;> (try simp only [go_sem, simprocAttr, hw])))) <;> (first | done | (simp_all [inW]; done) | (simp_all [inW]; omega) | (simp_all [inW]; intros; omega) | (simp_all [inW]; grind))
theorem within_a (n : Int) : PSpec Tryz.prog CT 101 [.lit (.int .i64 n), .lit (.int .i64 1073741824)] (· = .bool (inA n)) := by
  refine PSpec.of hT Tryz.func101 rfl (by kernel_rfl) rfl rfl ?_
  have hw : IntKind.i64.wrap (-1073741824) = -1073741824 := by decide
  simp only [Tryz.f101, go_sem, simprocAttr, hw]
  (repeat' (first | ((refine guardK_split (fun hg => ?_) (fun hg => ?_)) <;> (try simp only [go_sem, simprocAttr, hg, hw])) | ((refine condK_split (fun hg => ?_) (fun hg => ?_)) <;> (try simp only [go_sem, simprocAttr, hg, hw])) | ((refine Or.inl ⟨by kernel_rfl, ?_⟩) <;> (try simp only [go_sem, simprocAttr, hw])))) <;> (first | done | (simp_all [inA]; done) | (simp_all [inA]; omega) | (simp_all [inA]; intros; omega) | (simp_all [inA]; grind))
theorem counter_ahead (a b : AmountR) : PSpec Tryz.prog CT 105 [amD a, amD b] (· = .bool (markLt a.m b.m)) := by
  refine PSpec.of hT Tryz.func105 rfl (by kernel_rfl) rfl rfl ?_
  simp only [Tryz.f105, go_sem, simprocAttr]
  refine callK_pure (ops_less a.m b.m) (by simp only [go_sem, ]) (by simp only [go_sem, ]) ?_; simp only [go_sem, simprocAttr, ]
def badA (a : AmountR) : Bool := !(inA a.n) || decide (a.m.i < 1)
theorem pred_badA (base : List (Sh × D)) : PredF 102 [] amD badA base := by
  intro x bs hbs
  refine HSpec.of hT Tryz.func102 rfl (by kernel_rfl) rfl rfl fun tk => ?_
  simp only [Tryz.f102, go_sem, simprocAttr]
  refine callK_pure (within_a x.n) (by simp only [go_sem, ]) (by simp only [go_sem, ]) ?_; simp only [go_sem, simprocAttr, ]
  have e := fun b => finH_drop (ex := [((.pair (.pair (.pair .leaf (.pair .leaf .unit)) (.pair .leaf .unit)) (.pair .leaf .unit)), amD x)]) (bs := bs) (tk := tk) (r := .bool b) (R := fun r b' => r = .bool b ∧ b' = bs) (by simp) (by simp [meltD, lowD]) ⟨by simp [meltD], rfl⟩ []
  refine guardK_split (fun h1 => ?_) (fun h1 => ?_)
  · simp only [Bool.not_eq_true'] at h1
    simp only [go_sem, simprocAttr, h1]
    have := e true
    simpa [badA, h1] using this
  · simp only [Bool.not_eq_false'] at h1
    simp only [go_sem, simprocAttr, h1]
    have := e (decide (x.m.i < 1))
    simpa [badA, h1] using this
def riseAt (l : List AmountR) (k : Nat) : Bool := decide (k = 0) || markLt (l.getD (k - 1) default).m (l.getD k default).m
theorem checkN_split (l : List AmountR) : allG AmountR.m amOk l = (!l.any badA && (List.range l.length).all (riseAt l)) := by
  have ha : ∀ a : AmountR, amOk a = !badA a := fun a => by
    rw [Bool.eq_iff_iff]
    simp [amOk, badA, inA]
  rw [Bool.eq_iff_iff]
  simp only [allG, okG, Bool.and_eq_true, List.all_eq_true, List.mem_range, Bool.not_eq_true', List.any_eq_false, ha, riseAt]
  constructor
  · intro h
    refine ⟨fun x hx => ?_, fun k hk => (h k hk).2⟩
    obtain ⟨k, hk, rfl⟩ := mem_getD hx
    simpa using (h k hk).1
  · rintro ⟨h1, h2⟩ k hk
    exact ⟨by simpa using h1 _ (getD_mem hk), h2 k hk⟩
theorem counter_rises (l : List AmountR) (hl : l.length < 4000000000) (bs : List (Sh × D)) :
    HSpec Tryz.prog CT 104 [.lst 72 (l.map amD) .no, .fn (.func 105) []] bs fun r b' => r = .bool ((List.range l.length).all (riseAt l)) ∧ b' = bs := by
  refine HSpec.of hT Tryz.func104 rfl (by kernel_rfl) rfl rfl fun tk => ?_
  simp only [Tryz.f104, go_sem, simprocAttr]
  refine awp_loop (fun n s => ∃ (k : Nat) (g : Nat → D), s = ⟨[.lst 72 (l.map amD) .no, .fn (.func 105) [], g 2, g 3, g 4, .lit (.int .i64 k), g 6, g 7, g 8, g 9, g 10, g 11, g 12, g 13, g 14, g 15, g 16, g 17, g 18, g 19, g 20, g 21, g 22, g 23], ⟨bs, tk⟩⟩ ∧ n = l.length + 1 - k ∧ 1 ≤ k ∧ (k ≤ l.length ∨ k = 1) ∧ ∀ q, q < k → riseAt l q = true) l.length ⟨1, reg_intro rfl rfl ⟨by simp, by omega, .inr rfl, fun q hq => (by rw [show q = 0 by omega]; rfl)⟩⟩ ?_
  rintro n s ⟨k, g, rfl, hn, h1, hk, hp⟩
  simp only [go_sem, simprocAttr]
  refine condK_split (fun hc => ?_) (fun hc => ?_)
  · have hk' : k < l.length := by have := of_decide_eq_true hc; omega
    have hw : IntKind.i64.wrap ((k : Int) - 1) = ((k - 1 : Nat) : Int) := by rw [wrap64] <;> omega
    have hk1 : k - 1 < l.length := by omega
    refine .inl ⟨by kernel_rfl, ?_⟩
    simp only [go_sem, simprocAttr, hk', get_am, hw, hk1]
    refine callD_pure (counter_ahead (l.getD (k - 1) default) (l.getD k default)) (by first | rfl | (simp only [go_sem]; done)) (by first | (simp only [go_sem]; done) | (simp [pureL, pureD]; done)) ?_
    simp only [go_sem, simprocAttr]
    refine condK_split (fun h2 => ?_) (fun h2 => ?_)
    · simp only [Bool.not_eq_true'] at h2
      simp only [go_sem, simprocAttr]
      refine finH_lit ⟨?_, rfl⟩
      rw [all_bad hk' (by simp only [riseAt, h2, Bool.or_false, decide_eq_false_iff_not]; omega)]
    · simp only [Bool.not_eq_false'] at h2
      simp only [go_sem, simprocAttr, wrapNat k (by omega)]
      exact ⟨l.length + 1 - (k + 1), by omega, k + 1, reg_intro rfl rfl ⟨rfl, by omega, .inl (by omega), next_good hp (by simp only [riseAt, h2, Bool.or_true])⟩⟩
  · have hi := of_decide_eq_false hc
    simp only [go_sem, simprocAttr]
    refine finH_lit ⟨?_, rfl⟩
    rw [all_good fun p hpk => hp p (by omega)]
set_option maxRecDepth 8000 in
theorem counter_check (c : CellR) (hw : c.am.length < 1000000000) : PSpec Tryz.prog CT 96 [cellD c] (· = .bool (checkN c)) := by
  refine HSpec.pure (HSpec.of hT Tryz.func96 rfl (by kernel_rfl) rfl rfl fun tk => ?_)
  simp only [Tryz.f96, go_sem, simprocAttr]
  have fin : ∀ (b : Bool) (bs : List (Sh × D)), (∀ (N : Nat) (s' : Sh) (L : List D), (Sh.arr N s', D.agg L) ∈ bs → pureL L) → b = checkN c → finH (some (.lit (.bool b))) [] tk (fun r _ => pureR r ∧ r = .bool (checkN c)) bs tk := fun b bs h1 h2 => by
    rw [← h2]
    exact finH_all (q := .bool b) h1 (by simp [meltD]) trivial ⟨trivial, rfl⟩
  have bad1 : ¬ (c.kind = 1 ∧ c.wr.length = 0 ∧ c.me.length = 0 ∧ c.el.length = 0 ∧ inW c.base = true) → false = checkN c := fun h => by
    have : shapeN c = false := by
      cases hs : shapeN c with
      | false => rfl
      | true => exact absurd (by simpa [shapeN, and_assoc] using hs) h
    simp only [checkN, this, Bool.false_and]
  (repeat' (first | ((refine guardK_split (fun hg => ?_) (fun hg => ?_)) <;> (try simp only [go_sem, simprocAttr, hg])) | ((refine condK_split (fun hg => ?_) (fun hg => ?_)) <;> (try simp only [go_sem, simprocAttr, hg])) | ((first | refine callK_pure (within_w c.base) ?_ ?_ ?_ | refine callD_pure (within_w c.base) ?_ ?_ ?_); (iterate 2 (focus (first | rfl | (simp only [go_sem]; done)))); try simp only [go_sem, simprocAttr]) | ((refine Or.inl ⟨by kernel_rfl, ?_⟩) <;> (try simp only [go_sem, simprocAttr])))) <;> (first | done | (exact fin _ _ (by intro N s' L hm; simp at hm) (bad1 (by rintro ⟨q1, q2, q3, q4, q5⟩; first | (simp_all; done) | (simp only [decide_eq_true_eq, decide_eq_false_iff_not] at *; omega)))) | skip)
  refine callK_h (HSpec.fnA (args' := [rows_am c.am .no, .fn (.func 102) []]) ?_ (containsFunc_am (p := badA) c.am .no (by omega) _ (pred_badA _))) ?_
  · rfl
  rintro r b' ⟨rfl, rfl⟩
  have hs : shapeN c = true := by
    have hb : inW c.base = true := by simp_all
    simp only [shapeN, Bool.and_eq_true, decide_eq_true_eq]
    simp only [decide_eq_true_eq, decide_eq_false_iff_not, Bool.not_eq_true', Bool.not_eq_false', Bool.not_eq_eq_eq_not, Bool.not_true, Bool.not_false] at *
    exact ⟨⟨⟨⟨by omega, by omega⟩, by omega⟩, by omega⟩, hb⟩
  have hck : checkN c = (!c.am.any badA && (List.range c.am.length).all (riseAt c.am)) := by rw [checkN, hs, Bool.true_and, checkN_split]
  simp only [go_sem, simprocAttr]
  refine guardK_split (fun h1 => ?_) (fun h1 => ?_)
  · try simp only [go_sem, simprocAttr, h1]
    refine callK_h (HSpec.fnA (args' := [.lst 72 (c.am.map amD) .no, .fn (.func 105) []]) ?_ (counter_rises c.am (by omega) _)) ?_
    · rfl
    rintro r b' ⟨rfl, rfl⟩
    simp only [go_sem, simprocAttr, h1]
    refine fin _ _ (by intro N s' L hm; simp at hm) ?_
    rw [hck, h1, Bool.true_and]
  · try simp only [go_sem, simprocAttr, h1]
    refine fin _ _ (by intro N s' L hm; simp at hm) ?_
    rw [hck, h1, Bool.false_and]

set_option maxRecDepth 8000 in
set_option maxHeartbeats 2000000 in
theorem counter_do (c : CellR) (t : TxR) (i n : Int) (hd : t.deps.length = 13) (hw : c.am.length < 100000000) :
    PSpec Tryz.prog CT 98 [cellD c, txD t, .lit (.int .i64 i), .lit (.int .i64 n)] (· = cellD (doN c t i n)) := by
  refine HSpec.pure (HSpec.of hT Tryz.func98 rfl (by kernel_rfl) rfl rfl fun tk => ?_)
  simp only [Tryz.f98, go_sem, simprocAttr, hd]
  have early : (i < 1 ∨ inA n = false ∨ checkN c = false) → doN c t i n = c := fun h => by rw [doN, if_pos h]
  have leave : ∀ bs : List (Sh × D), (∀ (N : Nat) (s' : Sh) (L : List D), (Sh.arr N s', D.agg L) ∈ bs → pureL L) → doN c t i n = c → finH (some (cellD c)) [] tk (fun r _ => pureR r ∧ r = cellD (doN c t i n)) bs tk := fun bs h1 h2 => by
    rw [h2]
    exact finH_all h1 (melt_cell _ _) (pure_cell _) ⟨pure_cell _, rfl⟩
  (repeat' (first | ((refine guardK_split (fun hg => ?_) (fun hg => ?_)) <;> (try simp only [go_sem, simprocAttr, hg, hd])) | ((refine condK_split (fun hg => ?_) (fun hg => ?_)) <;> (try simp only [go_sem, simprocAttr, hg, hd])) | ((first | refine callK_pure (within_a n) ?_ ?_ ?_ | refine callD_pure (within_a n) ?_ ?_ ?_); (iterate 2 (focus (first | rfl | (simp only [go_sem, hd]; done)))); try simp only [go_sem, simprocAttr, hd]) | ((first | refine callK_pure (counter_check c (by omega)) ?_ ?_ ?_ | refine callD_pure (counter_check c (by omega)) ?_ ?_ ?_); (iterate 2 (focus (first | rfl | (simp only [go_sem, hd]; done)))); try simp only [go_sem, simprocAttr, hd]) | ((refine Or.inl ⟨by kernel_rfl, ?_⟩) <;> (try simp only [go_sem, simprocAttr, hd])))) <;> (first | done | (exact leave _ (by intro N s' L hm; simp at hm) (early (by first | (simp_all; done) | (simp_all; omega)))) | skip)
  have hck : checkN c = true := by simp_all
  have hn : inA n = true := by simp_all
  have hne : ¬ (i < 1 ∨ inA n = false ∨ checkN c = false) := by
    simp only [decide_eq_true_eq, decide_eq_false_iff_not] at *
    rintro (h | h | h)
    · omega
    · rw [hn] at h; cases h
    · rw [hck] at h; cases h
  obtain ⟨x, hx⟩ : ∃ x : AmountR, x = ⟨⟨t.peer, t.seq, i⟩, n⟩ := ⟨_, rfl⟩
  have hdo : doN c t i n = if c.am.any (sameG AmountR.m x.m) then c else { c with am := insB (goesG AmountR.m x) x c.am } := by rw [doN, if_neg hne, hx]
  have hxd : D.agg [.agg [.agg [.lit (.int .i64 t.peer), .lit (.int .i64 t.seq)], .lit (.int .i64 i)], .lit (.int .i64 n)] = amD x := by rw [hx]
  obtain ⟨k1, k2, k3⟩ := (checkN_iff c).1 hck
  simp only [hxd]
  refine awp_loop (fun m s => ∃ (k : Nat) (g : Nat → D), s = ⟨[g 0, g 1, .lit (.int .i64 i), g 3, .ptr 0 [], .ptr 1 [], g 6, g 7, .ptr 2 [], .ptr 3 [], .lit (.int .i64 k), g 11, g 12, g 13, g 14, g 15, g 16, g 17, g 18, g 19, g 20, g 21, g 22, g 23, g 24, g 25, g 26, g 27, g 28, g 29, g 30, g 31, g 32, g 33, g 34, g 35, g 36, g 37, g 38, g 39, g 40, g 41, g 42, g 43, g 44, g 45, g 46, g 47, g 48, g 49, g 50, g 51, g 52, g 53, g 54, g 55, g 56, g 57, g 58, g 59, g 60, g 61, g 62, g 63, g 64, g 65, g 66, g 67, g 68, g 69, g 70, g 71], ⟨[((.pair .leaf (.pair .leaf (.pair .leaf (.pair .leaf (.pair .leaf (.pair .leaf .unit)))))), cellD c), (txSh, txD t), ((.pair .leaf (.pair .leaf (.pair .leaf (.pair .leaf (.pair .leaf (.pair .leaf .unit)))))), CT.zero 27), ((.pair (.pair (.pair .leaf (.pair .leaf .unit)) (.pair .leaf .unit)) (.pair .leaf .unit)), amD x)], tk⟩⟩ ∧ m = c.am.length - k ∧ k ≤ c.am.length ∧ ∀ q, q < k → markLt (c.am.getD q default).m x.m = true) c.am.length ⟨0, reg_intro rfl rfl ⟨by simp, by omega, by simp⟩⟩ ?_
  rintro m st ⟨k, g, rfl, hm, hk, hp⟩
  simp only [go_sem, simprocAttr, hd]
  refine .inl ⟨by kernel_rfl, ?_⟩
  have ins : ((k < c.am.length → (c.am.getD k default).m ≠ x.m)) → ∀ {r2 : D} {ex' : List (Sh × D)}, (k < c.am.length → markLt (c.am.getD k default).m x.m = false) → OutM 72 4 r2 ex' ((insAt c.am k x).map amD) →
      finH (some (.agg [.lit (.int .i64 c.kind), .lit (.int .i64 c.base), r2, wrsD c.wr .no, .lst 67 (c.me.map meD) .no, .lst 69 (c.el.map elD) .no])) [] tk (fun r _ => pureR r ∧ r = cellD (doN c t i n)) ([((.pair .leaf (.pair .leaf (.pair .leaf (.pair .leaf (.pair .leaf (.pair .leaf .unit)))))), .agg [.lit (.int .i64 c.kind), .lit (.int .i64 c.base), r2, wrsD c.wr .no, .lst 67 (c.me.map meD) .no, .lst 69 (c.el.map elD) .no]), (txSh, txD t), ((.pair .leaf (.pair .leaf (.pair .leaf (.pair .leaf (.pair .leaf (.pair .leaf .unit)))))), .agg [.lit (.int .i64 c.kind), .lit (.int .i64 c.base), r2, wrsD c.wr .no, .lst 67 (c.me.map meD) .no, .lst 69 (c.el.map elD) .no]), ((.pair (.pair (.pair .leaf (.pair .leaf .unit)) (.pair .leaf .unit)) (.pair .leaf .unit)), amD x)] ++ ex') tk := by
    intro hne r2 ex' hlt ho'
    obtain ⟨h7, h8⟩ := (insG_at k3 hk hp hlt).2 hne
    refine finH_all ?_ (q := cellD (doN c t i n)) ?_ (pure_cell _) ⟨pure_cell _, rfl⟩
    · intro N s' L hmm
      simp only [List.mem_append, List.mem_cons, List.not_mem_nil, or_false, Prod.mk.injEq, reduceCtorEq, false_and, false_or] at hmm
      exact outM_pure ho' N s' L hmm
    · have hmo := fun x y z w => melt_out (base := [x, y, z, w]) rfl ho'
      simp only [List.cons_append, List.nil_append] at hmo
      rw [hdo, h7]
      simp only [List.cons_append, List.nil_append, meltD, meltL, hmo, h8, Bool.false_eq_true, if_false]
  refine guardK_split (fun hc => ?_) (fun hc => ?_)
  · have hk' : k < c.am.length := by have := of_decide_eq_true hc; omega
    simp only [go_sem, simprocAttr, hd, hc, hk', get_am]
    refine callD_pure (counter_ahead (c.am.getD k default) x) (by first | rfl | (simp only [go_sem]; done)) (by first | (simp only [go_sem]; done) | (simp [pureL, pureD]; done)) ?_
    simp only [go_sem, simprocAttr, hc]
    refine condK_split (fun h3 => ?_) (fun h3 => ?_)
    · simp only [go_sem, simprocAttr, wrapNat k (by omega)]
      exact ⟨c.am.length - (k + 1), by omega, k + 1, reg_intro rfl rfl ⟨rfl, by omega, next_good (f := fun q => markLt (c.am.getD q default).m x.m) hp h3⟩⟩
    · simp only [go_sem, simprocAttr, hd]
      refine .inl ⟨by kernel_rfl, ?_⟩
      simp only [go_sem, simprocAttr, hd, hc, hk', get_am, eqB_mk, decM]
      refine condK_split (fun h4 => ?_) (fun h4 => ?_)
      · have hany := (insG_at k3 hk hp fun _ => h3).1 hk' (of_decide_eq_true h4)
        simp only [go_sem, simprocAttr, hd]
        exact leave _ (by intro N s' L hm; simp at hm) (by rw [hdo, hany]; rfl)
      · simp only [go_sem, simprocAttr, hd]
        refine .inr (drawN_calls [0, 1, 3, 4, 5] [2, 6] [7, 8] (by kernel_rfl) ?_)
        simp only [go_sem, simprocAttr, hd]
        refine callsD_call (args' := [rows_am c.am .no]) rfl (by simp only [go_sem, simprocAttr]) (clone_am c.am .no (by omega) _ _) ?_
        rintro r h' ⟨ex, rfl, ho⟩
        refine ⟨Hle.of rfl, ?_⟩
        simp only [go_sem, simprocAttr]
        refine callsD_call (args' := [r, .lit (.int .i64 k), rows_am [x] .full]) rfl (by simp only [go_sem, simprocAttr, out_nrmL ho, List.map_cons, List.map_nil]; rfl) (insert_am c.am x .full k hk (by omega) [((.pair .leaf (.pair .leaf (.pair .leaf (.pair .leaf (.pair .leaf (.pair .leaf .unit)))))), cellD c), (txSh, txD t), ((.pair .leaf (.pair .leaf (.pair .leaf (.pair .leaf (.pair .leaf (.pair .leaf .unit)))))), CT.zero 27), ((.pair (.pair (.pair .leaf (.pair .leaf .unit)) (.pair .leaf .unit)) (.pair .leaf .unit)), amD x)] ex tk ho) ?_
        rintro r2 h2 ⟨ex', rfl, ho'⟩
        refine ⟨Hle.of rfl, ?_⟩
        show aopsN _ _ _ _ _ _
        simp only [go_sem, simprocAttr]
        refine aopsN_at rfl rfl ?_
        simp only [go_sem, simprocAttr, hd]
        refine aopsN_at rfl rfl ?_
        simp only [go_sem, simprocAttr, hd, out_nrmM ho', out_leaf ho', aopsN_nil]
        exact ins (fun _ => of_decide_eq_false h4) (fun _ => h3) ho'
  · have hkk : k = c.am.length := by have := of_decide_eq_false hc; omega
    simp only [go_sem, simprocAttr, hd, hc]
    refine .inl ⟨by kernel_rfl, ?_⟩
    try simp only [go_sem, simprocAttr, hd, hc]
    refine .inr (drawN_calls [0, 1, 3, 4, 5] [2, 6] [7, 8] (by kernel_rfl) ?_)
    try simp only [go_sem, simprocAttr, hd]
    refine callsD_call (args' := [rows_am c.am .no]) rfl (by simp only [go_sem, simprocAttr]) (clone_am c.am .no (by omega) _ _) ?_
    rintro r h' ⟨ex, rfl, ho⟩
    refine ⟨Hle.of rfl, ?_⟩
    simp only [go_sem, simprocAttr]
    refine callsD_call (args' := [r, .lit (.int .i64 k), rows_am [x] .full]) rfl (by simp only [go_sem, simprocAttr, out_nrmL ho, List.map_cons, List.map_nil]; rfl) (insert_am c.am x .full k hk (by omega) [((.pair .leaf (.pair .leaf (.pair .leaf (.pair .leaf (.pair .leaf (.pair .leaf .unit)))))), cellD c), (txSh, txD t), ((.pair .leaf (.pair .leaf (.pair .leaf (.pair .leaf (.pair .leaf (.pair .leaf .unit)))))), CT.zero 27), ((.pair (.pair (.pair .leaf (.pair .leaf .unit)) (.pair .leaf .unit)) (.pair .leaf .unit)), amD x)] ex tk ho) ?_
    rintro r2 h2 ⟨ex', rfl, ho'⟩
    refine ⟨Hle.of rfl, ?_⟩
    show aopsN _ _ _ _ _ _
    simp only [go_sem, simprocAttr]
    refine aopsN_at rfl rfl ?_
    simp only [go_sem, simprocAttr, hd]
    refine aopsN_at rfl rfl ?_
    simp only [go_sem, simprocAttr, hd, out_nrmM ho', out_leaf ho', aopsN_nil]
    exact ins (fun h => absurd h (by omega)) (fun h => absurd h (by omega)) ho'
/-- What goes comes to so much. -/
def sumW (p : MarkR → Bool) (l : List AmountR) : Int := l.foldl (fun s a => if p a.m then IntKind.i64.wrap (s + a.n) else s) 0
def keepW (p : MarkR → Bool) (l : List AmountR) : List AmountR := keptL (fun a => p a.m) l
theorem sumW_snoc (p : MarkR → Bool) (l : List AmountR) {k : Nat} (hk : k < l.length) : sumW p (l.take (k + 1)) = if p (l.getD k default).m then IntKind.i64.wrap (sumW p (l.take k) + (l.getD k default).n) else sumW p (l.take k) := by
  rw [take_snocG l k hk, sumW, List.foldl_append]; rfl
theorem am_snoc (l : List AmountR) (w : AmountR) : l.map amD ++ [amD w] = (l ++ [w]).map amD := by simp
set_option maxRecDepth 8000 in
theorem counter_left {f : FuncId} {caps : List D} {p : MarkR → Bool} (l : List AmountR) (hl : l.length < 1000000000) (bs : List (Sh × D)) (hp : PredF f caps MarkR.d p bs) :
    HSpec Tryz.prog CT 106 [rows_am l .no, .fn (.func f) caps] bs fun r b' => r = .tup [rows_am (keepW p l) .no, .lit (.int .i64 (sumW p l))] ∧ b' = bs := by
  refine HSpec.of hT Tryz.func106 rfl (by kernel_rfl) rfl rfl fun tk => ?_
  simp only [Tryz.f106, go_sem, simprocAttr]
  refine awp_loop (fun n s => ∃ (k : Nat) (x ex : List (Sh × D)) (u : Tok) (y z : List Bool) (g : Nat → D), s = ⟨[rows_am l .no, .fn (.func f) caps, g 2, g 3, g 4, g 5, rows_am (keepW p (l.take k)) u, .lit (.int .i64 (sumW p (l.take k))), g 8, g 9, rows_am l .no, .lit (.int .i64 l.length), .lit (.int .i64 k), g 13, g 14, g 15, g 16, g 17, g 18, g 19, g 20, g 21, g 22, g 23, g 24, g 25, g 26, g 27, g 28, g 29, g 30], ⟨x, y⟩⟩ ∧ n = l.length - k ∧ k ≤ l.length ∧ x = bs ++ ex ∧ y = tk ++ z ∧ liveH u tk z ∧ ∀ N s L, (Sh.arr N s, D.agg L) ∈ ex → pureL L) l.length ⟨0, _, [], .full, _, [], reg_intro rfl rfl ⟨by simp, by omega, by simp, by simp, ⟨trivial, trivial⟩, by simp⟩⟩ ?_
  rintro n st ⟨k, x, ex, u, y, z, g, rfl, hn, hk, hx, hy, hu, hpu⟩
  simp only [go_sem, simprocAttr]
  refine condK_split (fun hc => ?_) (fun hc => ?_)
  · have hk' : k < l.length := by have := of_decide_eq_true hc; omega
    have hsw := sumW_snoc p l hk'
    have hkw : keepW p (l.take (k + 1)) = _ := kept_snoc (p := fun a : AmountR => p a.m) hk'
    have hxb : ∀ w i, i < bs.length → (x ++ w)[i]? = bs[i]? := fun w i hi => by rw [hx, List.append_assoc, List.getElem?_append_left hi]
    have hlen : (keepW p (l.take k)).length ≤ k := by
      have := kept_len (fun a : AmountR => p a.m) (l.take k)
      rw [List.length_take] at this
      simp only [keepW]; omega
    simp only [go_sem, simprocAttr, hk', get_am]
    refine callK_h (hp (l.getD k default).m _ (hxb _)) ?_
    rintro r b' ⟨rfl, rfl⟩
    simp only [go_sem, simprocAttr]
    have hpu' : ∀ N s L, (Sh.arr N s, D.agg L) ∈ ex ++ [(((.pair (.pair (.pair .leaf (.pair .leaf .unit)) (.pair .leaf .unit)) (.pair .leaf .unit)) : Sh), amD (l.getD k default))] → pureL L := by
      intro N s L hm
      rcases List.mem_append.1 hm with h | h
      · exact hpu N s L h
      · simp at h
    refine condK_split (fun h1 => ?_) (fun h1 => ?_)
    · rw [if_pos h1] at hsw hkw
      simp only [go_sem, simprocAttr, wrapNat k (by omega)]
      exact ⟨l.length - (k + 1), by omega, k + 1, _, ex ++ [(((.pair (.pair (.pair .leaf (.pair .leaf .unit)) (.pair .leaf .unit)) (.pair .leaf .unit)) : Sh), amD (l.getD k default))], u, y, z, by rw [hsw, hkw, List.append_nil]; exact reg_intro rfl rfl ⟨rfl, by omega, by rw [hx, List.append_assoc], hy, hu, hpu'⟩⟩
    · rw [if_neg (by rw [h1]; simp)] at hsw hkw
      simp only [go_sem, simprocAttr]
      rw [hy]
      refine appK_liveH _ _ _ _ _ _ _ _ hu (by simp) (by simp only [go_sem, simprocAttr]) (by simp only [go_sem, simprocAttr]; omega) (fun u' z' hu' => ?_)
      simp only [go_sem, simprocAttr, am_snoc, wrapNat k (by omega)]
      exact ⟨l.length - (k + 1), by omega, k + 1, _, ex ++ [(((.pair (.pair (.pair .leaf (.pair .leaf .unit)) (.pair .leaf .unit)) (.pair .leaf .unit)) : Sh), amD (l.getD k default))], u', _, z', by rw [hsw, hkw]; exact reg_intro rfl rfl ⟨rfl, by omega, by rw [hx, List.append_assoc], rfl, hu', hpu'⟩⟩
  · have hi := of_decide_eq_false hc
    obtain rfl : k = l.length := by omega
    simp only [go_sem, simprocAttr, List.take_length]
    rw [hx, hy]
    exact finH_drop hpu (by simp [meltD, meltL, lowD, lowL]) ⟨by simp [meltD, meltL], rfl⟩ _
theorem pred_all (base : List (Sh × D)) : PredF 113 [] MarkR.d (fun _ => true) base := by
  intro x bs hbs
  refine HSpec.of hT Tryz.func113 rfl (by kernel_rfl) rfl rfl fun tk => ?_
  simp only [Tryz.f113, go_sem, simprocAttr]
  have e := finH_drop (ex := [((.pair (.pair .leaf (.pair .leaf .unit)) (.pair .leaf .unit)), x.d)]) (bs := bs) (tk := tk) (r := .bool true) (R := fun r b' => r = .bool true ∧ b' = bs) (by simp) (by simp [meltD, lowD]) ⟨by simp [meltD], rfl⟩ []
  simpa using e
def readN (c : CellR) : ValueR := if checkN c = false then ⟨0, 0, []⟩ else ⟨1, IntKind.i64.wrap (c.base + sumW (fun _ => true) c.am), []⟩
set_option maxRecDepth 8000 in
theorem counter_read (c : CellR) (hw : c.am.length < 100000000) : PSpec Tryz.prog CT 100 [cellD c] (· = valD (readN c)) := by
  refine HSpec.pure (HSpec.of hT Tryz.func100 rfl (by kernel_rfl) rfl rfl fun tk => ?_)
  simp only [Tryz.f100, go_sem, simprocAttr]
  refine callK_pure (args' := [cellD c]) (counter_check c (by omega)) (by first | rfl | (simp only [go_sem]; done)) (by first | (simp only [go_sem]; done) | (simp [pureL, pureD]; done)) ?_
  cases hck : checkN c with
  | false =>
    have e : readN c = ⟨0, 0, []⟩ := by rw [readN, if_pos hck]
    simp only [go_sem, simprocAttr, Bool.not_false]
    refine finH_all (by intro N s' L hm; simp at hm) (q := valD (readN c)) (by rw [e]; simp [meltD, meltL]) (pure_val _) ⟨pure_val _, rfl⟩
  | true =>
    have e : readN c = ⟨1, IntKind.i64.wrap (c.base + sumW (fun _ => true) c.am), []⟩ := by rw [readN, if_neg (by rw [hck]; simp)]
    simp only [go_sem, simprocAttr, Bool.not_true]
    refine callK_h (HSpec.fnA (args' := [rows_am c.am .no, .fn (.func 113) []]) ?_ (counter_left (p := fun _ => true) c.am (by omega) _ (pred_all _))) ?_
    · rfl
    rintro r b' ⟨rfl, rfl⟩
    simp only [go_sem, simprocAttr]
    refine finH_all (by intro N s' L hm; simp at hm) (q := valD (readN c)) (by rw [e]; simp [meltD, meltL]) (pure_val _) ⟨pure_val _, rfl⟩
end Go.Ab
