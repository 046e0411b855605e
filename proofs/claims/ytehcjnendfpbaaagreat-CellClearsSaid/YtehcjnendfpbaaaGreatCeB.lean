/- Sequences: which may be. Conditions: none. -/
import Derived.Test.YtehcjnendfpbaaaGreatCeA
import Derived.Test.YtehcjnendfpbaaaGreatRoA
import Derived.Test.YtehcjnendfpbaaaGreatOsB
set_option linter.unusedSimpArgs false
namespace Go.Ab
open Go.Proofs

set_option maxRecDepth 8000 in
theorem seq_marked (l : List MarkR) (hl : l.length < 4000000000) : PSpec Tryz.prog CT 207 [marksD l .no] (· = .bool (risingM l)) := by
  refine PSpec.of hT Tryz.func207 rfl (by kernel_rfl) rfl rfl ?_
  simp only [Tryz.f207, go_sem, simprocAttr]
  refine awp_loop (fun n s => ∃ (k : Nat) (ex : List (Sh × D)) (g : Nat → D), s = ⟨[marksD l .no, g 1, g 2, g 3, g 4, marksD l .no, .lit (.int .i64 l.length), .lit (.int .i64 k), g 8, g 9, g 10, g 11, g 12, g 13, g 14, g 15, g 16, g 17, g 18, g 19, g 20, g 21, g 22, g 23, g 24, g 25, g 26, g 27, g 28, g 29], ⟨ex, []⟩⟩ ∧ n = l.length - k ∧ k ≤ l.length ∧ ∀ p, p < k → okMk l p = true) l.length ⟨0, _, reg_intro rfl rfl ⟨by simp, by omega, by simp⟩⟩ ?_
  rintro n st ⟨k, ex, g, rfl, hn, hk, hp⟩
  simp only [go_sem, simprocAttr]
  refine condK_split (fun hc => ?_) (fun hc => ?_)
  · have hk' : k < l.length := by have := of_decide_eq_true hc; omega
    have hk1 : k - 1 < l.length := by omega
    have bad : okMk l k = false → risingM l = false := fun h => by rw [risingM_eq]; exact all_bad hk' h
    have hws : decide (0 < (k : Int)) = true → IntKind.i64.wrap ((k : Int) - 1) = ((k - 1 : Nat) : Int) := fun h => by
      have := of_decide_eq_true h
      rw [wrap64] <;> omega
    simp only [go_sem, simprocAttr, hk', get_mk]
    refine .inl ⟨by kernel_rfl, ?_⟩
    (repeat' (first | ((refine guardK_split (fun hg => ?_) (fun hg => ?_)) <;> (try simp only [go_sem, simprocAttr, hg, hk', hk1, get_mk, get_mk1, hws, wrapNat k (by omega)])) | ((refine condK_split (fun hg => ?_) (fun hg => ?_)) <;> (try simp only [go_sem, simprocAttr, hg, hk', hk1, get_mk, get_mk1, hws, wrapNat k (by omega)])) | ((first | refine callK_pure (ops_less (l.getD (k - 1) default) (l.getD k default)) ?_ ?_ ?_ | refine callD_pure (ops_less (l.getD (k - 1) default) (l.getD k default)) ?_ ?_ ?_); (iterate 2 (focus (first | rfl | (simp only [go_sem, hk', hk1, get_mk, get_mk1, hws, wrapNat k (by omega)]; done)))); try simp only [go_sem, simprocAttr, hk', hk1, get_mk, get_mk1, hws, wrapNat k (by omega)]) | ((refine Or.inl ⟨by kernel_rfl, ?_⟩) <;> (try simp only [go_sem, simprocAttr, hk', hk1, get_mk, get_mk1, hws, wrapNat k (by omega)])))) <;> (first | done | (rw [bad (by first | (simp_all [okMk]; done) | (simp_all [okMk]; omega) | grind [okMk])]) | exact ⟨l.length - (k + 1), by omega, k + 1, _, reg_intro rfl rfl ⟨rfl, by omega, next_good hp (by first | (simp_all [okMk]; done) | (simp_all [okMk]; omega) | grind [okMk])⟩⟩)
  · have hi := of_decide_eq_false hc
    obtain rfl : k = l.length := by omega
    simp only [go_sem, simprocAttr, risingM_eq, all_good hp]

theorem markD_inj (a b : MarkR) (h : a.d = b.d) : a = b := by
  cases a; cases b
  simp only [MarkR.d, markD, D.agg.injEq, List.cons.injEq, D.lit.injEq, Value.int.injEq, true_and, and_true] at h
  obtain ⟨⟨rfl, rfl⟩, rfl⟩ := h
  rfl
theorem keyMk : KeyEnc CT 36 MarkR.d := ⟨markD_inj, fun a => by simp only [plain, plainEach, go_sem, simprocAttr]⟩
abbrev rows_elA (l : List ElemR) : D := .lst 69 (l.map elD) .no
theorem get_elL (l : List ElemR) (k : Nat) (h : (k < l.length) = True) : (l.map elD)[k]? = some (elD (l.getD k default)) := get_enc _ _ _ h
theorem get_elL1 (l : List ElemR) (k : Nat) (h : (k < l.length) = True) : (l.map elD)[k - 1]? = some (elD (l.getD (k - 1) default)) := get_enc _ _ _ (by have := of_eq_true h; simp; omega)
theorem root_len {l : List ElemR} {o : List MarkR} (h : RootInv l o) : o.length ≤ l.length + 1 := by
  have := sub_len h.nd (b := zeroM :: l.map ElemR.m) fun x hx => by
    rcases h.s x hx with rfl | ⟨e, he, rfl⟩
    · simp
    · exact List.mem_cons_of_mem _ (List.mem_map.2 ⟨e, he, rfl⟩)
  simpa using this
theorem fold_snocR {α β : Type} [Inhabited α] (f : β → α → β) (z : β) (l : List α) {k : Nat} (hk : k < l.length) : (l.take (k + 1)).foldl f z = f ((l.take k).foldl f z) (l.getD k default) := by
  rw [take_snocG l k hk, List.foldl_append]; rfl
theorem len_setM (o : List MarkR) (q : Nat) (ex : List (Sh × D)) (tk : List Bool) : builtinD CT ⟨(Sh.obj 1, setG MarkR.d o q) :: ex, tk⟩ .len [199] [.mref 0] = some (.int o.length) := by
  have h := len_g (tk := tk) (kd := MarkR.d) (enc := fun b : Bool => D.lit (.bool b)) (l := o.map fun a => (a, true)) (g := q) (b := 0) (bs := (Sh.obj 1, setG MarkR.d o q) :: ex) rfl
  rw [List.length_map] at h
  exact h
set_option maxRecDepth 8000 in
set_option maxHeartbeats 2000000 in
theorem seq_rooted (l : List ElemR) (hl : l.length < 1000000000) : PSpec Tryz.prog CT 208 [.lst 69 (l.map elD) .no] (· = .bool (rootedL l)) := by
  refine PSpec.of hT Tryz.func208 rfl (by kernel_rfl) rfl rfl ?_
  simp only [Tryz.f208, go_sem, simprocAttr]
  refine ⟨isMap_ok rfl, ?_⟩
  have e0 : D.mp [] [] 0 = setG MarkR.d [] 0 := rfl
  simp only [e0]
  have hk := keyMk
  refine setUpd_g hk (e := 4) rfl rfl zeroM rfl fun s' g' hs' => ?_
  obtain rfl : s' = [zeroM] := by
    rcases hs' with ⟨h, _⟩ | ⟨_, rfl, _⟩
    · simp at h
    · rfl
  clear hs'
  have h0 : RootInv l [zeroM] := ⟨by simp, by simp, by simp; exact .zero, by simp⟩
  simp only [go_sem, simprocAttr]
  refine awp_loop (fun m s => ∃ (k : Nat) (o : List MarkR) (q : Nat) (ex : List (Sh × D)) (g : Nat → D), s = ⟨[rows_elA l, g 1, g 2, .mref 0, g 4, g 5, g 6, g 7, g 8, g 9, g 10, .lit (.int .i64 l.length), .lit (.int .i64 k), g 13, g 14, g 15, g 16, g 17, g 18, g 19, g 20, g 21, g 22, g 23, g 24, g 25, g 26, g 27, g 28, g 29, g 30, g 31, g 32, g 33, g 34, g 35, g 36, g 37, g 38, g 39, g 40], ⟨(.obj 1, setG MarkR.d o q) :: ex, []⟩⟩ ∧ m = l.length - k ∧ k ≤ l.length ∧ RootInv l o ∧ rootGrow l (l.length - k) o = rootGrow l l.length [zeroM]) l.length ⟨0, [zeroM], g', [], reg_intro rfl rfl ⟨by simp, by omega, h0, by simp⟩⟩ ?_
  clear h0 g'
  rintro m st ⟨k, o, q, ex, g, rfl, hm, hk', ho, hg⟩
  have hol := root_len ho
  have fin : ∀ o : List MarkR, o.length ≤ l.length + 1 → rootGrow l l.length [zeroM] = o → D.lit (.bool (decide ((o.length : Int) = IntKind.i64.wrap ((l.length : Int) + 1)))) = D.bool (rootedL l) := fun o h1 h2 => by
    have h3 : ((o.length : Int) = ((l.length + 1 : Nat) : Int)) ↔ (o.length = l.length + 1) := by omega
    rw [wrapNat l.length (by omega)]
    simp only [rootedL, h2, h3]
  simp only [go_sem, simprocAttr]
  refine condK_split (fun hc => ?_) (fun hc => ?_)
  · have hkl : k < l.length := by have := of_decide_eq_true hc; omega
    obtain ⟨f, hf⟩ : ∃ f, l.length - k = f + 1 := ⟨l.length - k - 1, by omega⟩
    rw [hf, rootGrow] at hg
    simp only [go_sem, simprocAttr, len_setM]
    refine awp_loop (fun n s => ∃ (j : Nat) (q : Nat) (ex : List (Sh × D)) (g : Nat → D), s = ⟨[rows_elA l, g 1, g 2, .mref 0, .lit (.int .i64 o.length), g 5, g 6, g 7, g 8, g 9, g 10, .lit (.int .i64 l.length), .lit (.int .i64 k), g 13, g 14, g 15, rows_elA l, .lit (.int .i64 l.length), .lit (.int .i64 j), g 19, g 20, g 21, g 22, g 23, g 24, g 25, g 26, g 27, g 28, g 29, g 30, g 31, g 32, g 33, g 34, g 35, g 36, g 37, g 38, g 39, g 40], ⟨(.obj 1, setG MarkR.d ((l.take j).foldl rootStep o) q) :: ex, []⟩⟩ ∧ n = l.length - j ∧ j ≤ l.length) l.length ⟨0, q, ex, reg_intro rfl rfl ⟨by simp, by omega⟩⟩ ?_
    clear q ex
    rintro n st ⟨j, q, ex, g, rfl, hn, hj⟩
    simp only [go_sem, simprocAttr]
    have hsn := fun h => fold_snocR rootStep o l (k := j) h
    have hoj : RootInv l ((l.take j).foldl rootStep o) := rootFold_inv ho fun x hx => List.mem_of_mem_take hx
    generalize hq : (l.take j).foldl rootStep o = oj at *
    refine condK_split (fun hc2 => ?_) (fun hc2 => ?_)
    · have hjl : j < l.length := by have := of_decide_eq_true hc2; omega
      have hsn := hsn hjl
      have hlook : ∀ (a : MarkR) (q : Nat) (ex : List (Sh × D)), lookupD CT ⟨(Sh.obj 1, setG MarkR.d oj q) :: ex, []⟩ 199 false (.mref 0) a.d = some (.lit (.bool (decide (a ∈ oj)))) := fun a q ex => setLook_g hk (e := 4) rfl rfl rfl a rfl
      simp only [go_sem, simprocAttr, hjl, get_elL, hlook]
      refine condK_split (fun h1 => ?_) (fun h1 => ?_)
      · simp only [go_sem, simprocAttr, hjl, get_elL]
        refine setUpd_g hk (e := 4) rfl rfl (l.getD j default).m rfl fun s' g' hs' => ?_
        have hs2 : s' = (l.take (j + 1)).foldl rootStep o := by
          rw [hsn, rootStep, if_pos (of_decide_eq_true h1)]
          rcases hs' with ⟨h, rfl, _⟩ | ⟨h, rfl, _⟩
          · rw [if_pos h]
          · rw [if_neg h]
        simp only [go_sem, simprocAttr, wrapNat j (by omega)]
        exact ⟨l.length - (j + 1), by omega, j + 1, g', _, by rw [← hs2]; exact reg_intro rfl rfl ⟨rfl, by omega⟩⟩
      · simp only [go_sem, simprocAttr, wrapNat j (by omega)]
        exact ⟨l.length - (j + 1), by omega, j + 1, q, _, by rw [hsn, rootStep, if_neg (of_decide_eq_false h1)]; exact reg_intro rfl rfl ⟨rfl, by omega⟩⟩
    · have hi2 := of_decide_eq_false hc2
      obtain rfl : j = l.length := by omega
      rw [List.take_length] at hq
      have hojl := root_len hoj
      have hq' : rootRound l o = oj := hq
      rw [hq'] at hg
      simp only [go_sem, simprocAttr, len_setM]
      refine condK_split (fun h1 => ?_) (fun h1 => ?_)
      · have h1 := of_decide_eq_true h1
        rw [if_pos (by omega)] at hg
        simp only [go_sem, simprocAttr, len_setM]
        exact fin oj hojl hg.symm
      · have h1 := of_decide_eq_false h1
        rw [if_neg (by omega)] at hg
        simp only [go_sem, simprocAttr, wrapNat k (by omega)]
        exact ⟨l.length - (k + 1), by omega, k + 1, oj, q, ex, reg_intro rfl rfl ⟨rfl, by omega, hoj, by rw [← hg]; congr 1; omega⟩⟩
  · have hi := of_decide_eq_false hc
    obtain rfl : k = l.length := by omega
    simp only [go_sem, simprocAttr, len_setM]
    refine fin o hol ?_
    rw [← hg, Nat.sub_self]; rfl

set_option maxRecDepth 8000 in
set_option maxHeartbeats 4000000 in
theorem seq_check (c : CellR) (hw : c.el.length < 1000000000) (hgo : ∀ e ∈ c.el, e.gone.length < 4000000000) : PSpec Tryz.prog CT 201 [cellD c] (· = .bool (checkQ c)) := by
  refine PSpec.of hT Tryz.func201 rfl (by kernel_rfl) rfl rfl ?_
  simp only [Tryz.f201, go_sem, simprocAttr]
  have bad1 : ¬ (c.kind = 5 ∧ c.base = 0 ∧ c.am.length = 0 ∧ c.wr.length = 0 ∧ c.me.length = 0) → checkQ c = false := fun h => by
    have : shapeQ c = false := by
      cases hs : shapeQ c with
      | false => rfl
      | true => exact absurd (by simpa [shapeQ, and_assoc] using hs) h
    simp only [checkQ, this, Bool.false_and]
  (repeat' (first | ((refine guardK_split (fun hg => ?_) (fun hg => ?_)) <;> (try simp only [go_sem, simprocAttr, hg])) | ((refine condK_split (fun hg => ?_) (fun hg => ?_)) <;> (try simp only [go_sem, simprocAttr, hg])) | ((refine Or.inl ⟨by kernel_rfl, ?_⟩) <;> (try simp only [go_sem, simprocAttr])))) <;> (first | done | (rw [bad1 (by simp only [decide_eq_true_eq, decide_eq_false_iff_not, Bool.not_eq_true', Bool.not_eq_false', Bool.not_eq_eq_eq_not, Bool.not_true, Bool.not_false] at *; omega)]) | skip)
  all_goals
    have hs : shapeQ c = true := by
      simp only [shapeQ, Bool.and_eq_true, Bool.or_eq_true, decide_eq_true_eq]
      simp only [decide_eq_true_eq, decide_eq_false_iff_not, Bool.not_eq_true', Bool.not_eq_false', Bool.not_eq_eq_eq_not, Bool.not_true, Bool.not_false] at *
      omega
    have hck : checkQ c = (allG ElemR.m elOk c.el && rootedL c.el) := by rw [checkQ, hs, Bool.true_and]
    refine awp_loop (fun n s => ∃ (k : Nat) (ex : List (Sh × D)) (g : Nat → D), s = ⟨[g 0, .ptr 0 [], g 2, g 3, g 4, g 5, g 6, g 7, g 8, g 9, g 10, g 11, g 12, g 13, g 14, g 15, g 16, g 17, g 18, g 19, g 20, g 21, g 22, g 23, g 24, g 25, g 26, g 27, g 28, g 29, g 30, g 31, rows_elA c.el, .lit (.int .i64 c.el.length), .lit (.int .i64 k), g 35, g 36, g 37, g 38, g 39, g 40, g 41, g 42, g 43, g 44, g 45, g 46, g 47, g 48, g 49, g 50, g 51, g 52, g 53, g 54, g 55, g 56, g 57, g 58, g 59, g 60, g 61, g 62, g 63, g 64, g 65, g 66, g 67, g 68, g 69, g 70, g 71, g 72, g 73, g 74, g 75], ⟨((.pair .leaf (.pair .leaf (.pair .leaf (.pair .leaf (.pair .leaf (.pair .leaf .unit)))))), cellD c) :: ex, []⟩⟩ ∧ n = c.el.length - k ∧ k ≤ c.el.length ∧ ∀ p, p < k → okG ElemR.m elOk c.el p = true) c.el.length ⟨0, _, reg_intro rfl rfl ⟨by simp, by omega, by simp⟩⟩ ?_
    rintro n s ⟨k, ex, g, rfl, hn, hk, hp⟩
    simp only [go_sem, simprocAttr]
    refine condK_split (fun hc => ?_) (fun hc => ?_)
    · have hk' : k < c.el.length := by have := of_decide_eq_true hc; omega
      have bad : okG ElemR.m elOk c.el k = false → checkQ c = false := fun h => by rw [hck, allG, all_bad hk' h, Bool.false_and]
      simp only [go_sem, simprocAttr, hk', get_elL]
      have hk1 : k - 1 < c.el.length := by omega
      have hmk : (c.el.getD k default).gone.length < 4000000000 := hgo _ (getD_mem hk')
      have hws : decide (0 < (k : Int)) = true → IntKind.i64.wrap ((k : Int) - 1) = ((k - 1 : Nat) : Int) := fun h => by
        have := of_decide_eq_true h
        rw [wrap64] <;> omega
      clear hs bad1 hck
      refine .inl ⟨by kernel_rfl, ?_⟩
      (repeat' (first | ((refine guardK_split (fun hg => ?_) (fun hg => ?_)) <;> (try simp only [go_sem, simprocAttr, hg, hk', hk1, get_elL, get_elL1, hws, wrapNat k (by omega)])) | ((refine condK_split (fun hg => ?_) (fun hg => ?_)) <;> (try simp only [go_sem, simprocAttr, hg, hk', hk1, get_elL, get_elL1, hws, wrapNat k (by omega)])) | ((first | refine callK_pure (seq_marked (c.el.getD k default).gone hmk) ?_ ?_ ?_ | refine callD_pure (seq_marked (c.el.getD k default).gone hmk) ?_ ?_ ?_); (iterate 2 (focus (first | rfl | (simp only [go_sem, hk', hk1, get_elL, get_elL1, hws, wrapNat k (by omega)]; done)))); try simp only [go_sem, simprocAttr, hk', hk1, get_elL, get_elL1, hws, wrapNat k (by omega)]) | ((first | refine callK_pure (ops_less (c.el.getD (k - 1) default).m (c.el.getD k default).m) ?_ ?_ ?_ | refine callD_pure (ops_less (c.el.getD (k - 1) default).m (c.el.getD k default).m) ?_ ?_ ?_); (iterate 2 (focus (first | rfl | (simp only [go_sem, hk', hk1, get_elL, get_elL1, hws, wrapNat k (by omega)]; done)))); try simp only [go_sem, simprocAttr, hk', hk1, get_elL, get_elL1, hws, wrapNat k (by omega)]) | ((refine Or.inl ⟨by kernel_rfl, ?_⟩) <;> (try simp only [go_sem, simprocAttr, hk', hk1, get_elL, get_elL1, hws, wrapNat k (by omega)])))) <;> (first | done | (rw [bad (by first | (simp_all [okG, elOk]; done) | (simp_all [okG, elOk]; omega) | grind [okG, elOk])]) | exact ⟨c.el.length - (k + 1), by omega, k + 1, _, reg_intro rfl rfl ⟨rfl, by omega, next_good hp (by first | (simp_all [okG, elOk]; done) | (simp_all [okG, elOk]; omega) | grind [okG, elOk])⟩⟩)
    · have hi := of_decide_eq_false hc
      obtain rfl : k = c.el.length := by omega
      have hall : allG ElemR.m elOk c.el = true := all_good hp
      rw [hall, Bool.true_and] at hck
      simp only [go_sem, simprocAttr]
      refine callK_pure (args' := [rows_elA c.el]) (seq_rooted c.el hw) (by first | rfl | (simp only [go_sem]; done)) (by first | (simp only [go_sem]; done) | (simp [pureL, pureD]; done)) ?_
      simp only [go_sem, simprocAttr, hck]
end Go.Ab
set_option linter.unusedSimpArgs false
namespace Go.Ab
open Go.Proofs

theorem reach_mono {l l' : List ElemR} (h : ∀ e ∈ l, ∃ e' ∈ l', e'.m = e.m ∧ e'.ref = e.ref) {m : MarkR} (hm : Reach l m) : Reach l' m := by
  induction hm with
  | zero => exact .zero
  | step e he _ ih =>
    obtain ⟨e', h1, h2, h3⟩ := h e he
    rw [← h2]
    exact .step e' h1 (by rw [h3]; exact ih)
def Behind (l : List ElemR) (t : TxR) (i : Int) (ref : MarkR) : Prop := ref = zeroM ∨ ∃ e ∈ l, e.m = ref ∧ ∀ m ∈ e.gone, befM t i m = false
theorem elemOf_iff {l : List ElemR} (h : RiseG ElemR.m l) {m : MarkR} {e : ElemR} : elemOf l m = some e ↔ e ∈ l ∧ e.m = m := by
  constructor
  · intro h1
    have := List.find?_some h1
    exact ⟨List.mem_of_find?_eq_some h1, by simpa [sameG] using this⟩
  · rintro ⟨h1, h2⟩
    cases hf : elemOf l m with
    | none =>
      have := List.find?_eq_none.1 hf e h1
      simp [sameG, h2] at this
    | some e' =>
      have h3 := List.find?_some hf
      have h4 := List.mem_of_find?_eq_some hf
      rw [riseG_inj h h1 h4 (by rw [h2]; simp [sameG] at h3; exact h3.symm)]
theorem behind_iff {l : List ElemR} (h : RiseG ElemR.m l) (t : TxR) (i : Int) (ref : MarkR) : behindOk l t i ref = true ↔ Behind l t i ref := by
  simp only [behindOk, Behind, Bool.or_eq_true, decide_eq_true_eq]
  refine or_congr Iff.rfl ?_
  cases he : elemOf l ref with
  | none =>
    simp only [Bool.false_eq_true, false_iff]
    rintro ⟨e, h1, h2, _⟩
    rw [(elemOf_iff h).2 ⟨h1, h2⟩] at he; cases he
  | some e =>
    obtain ⟨h1, h2⟩ := (elemOf_iff h).1 he
    simp only [Bool.not_eq_true', List.any_eq_false, Bool.not_eq_true]
    constructor
    · exact fun h3 => ⟨e, h1, h2, h3⟩
    · rintro ⟨e', h3, h4, h5⟩
      rw [riseG_inj h h1 h3 (by rw [h2, h4])]; exact h5
theorem takeE_m (p : MarkR → Bool) (m : MarkR) (e : ElemR) : (takeE p m e).m = e.m ∧ (takeE p m e).ref = e.ref ∧ (takeE p m e).text = e.text ∧ (takeE p m e).time = e.time := by
  unfold takeE; split <;> exact ⟨rfl, rfl, rfl, rfl⟩
theorem takeQ_spec {c : CellR} {t : TxR} {i : Int} {p : MarkR → Bool} (hc : checkQ c = true) (hi : 1 ≤ i) :
    takeQ c t i p = { c with el := c.el.map (takeE p ⟨t.peer, t.seq, i⟩) } ∧ checkQ (takeQ c t i p) = true := by
  have e : takeQ c t i p = { c with el := c.el.map (takeE p ⟨t.peer, t.seq, i⟩) } := by rw [takeQ, if_neg (by rw [hc]; simp; omega)]
  obtain ⟨k1, k2, k3, k4⟩ := (checkQ_iff c).1 hc
  refine ⟨e, ?_⟩
  rw [checkQ_iff, e]
  refine ⟨k1, ?_, ?_, ?_⟩
  · intro x hx
    obtain ⟨y, hy, rfl⟩ := List.mem_map.1 hx
    obtain ⟨a1, a2, a3, a4⟩ := k2 y hy
    unfold takeE
    split
    · refine ⟨a1, a2, fun m hm => ?_, with_rise a4⟩
      rcases mem_with.1 hm with rfl | hm
      · exact hi
      · exact a3 m hm
    · exact ⟨a1, a2, a3, a4⟩
  · rw [RiseG, List.pairwise_map]
    exact k3.imp fun {a b} h => by rw [(takeE_m _ _ a).1, (takeE_m _ _ b).1]; exact h
  · intro x hx
    obtain ⟨y, hy, rfl⟩ := List.mem_map.1 hx
    rw [(takeE_m _ _ y).1]
    exact reach_mono (fun e he => ⟨_, List.mem_map_of_mem he, (takeE_m _ _ e).1, (takeE_m _ _ e).2.1⟩) (k4 y hy)

end Go.Ab
