/- Registers: the document's functions. Conditions: none. -/
import Derived.Test.YtehcjnendfpbaaaGreatReH
import Derived.Test.YtehcjnendfpbaaaGreatSlWr
import Derived.Test.YtehcjnendfpbaaaGreatOpD
set_option linter.unusedSimpArgs false
namespace Go.Ab
open Go.Proofs


set_option maxRecDepth 8000 in
set_option maxHeartbeats 1000000 in
theorem ref09_check (c : CellR) (hw : c.wr.length < 1000000000) (ha : c.am.length < 1000000000) (hm : c.me.length < 1000000000) (he : c.el.length < 1000000000) : PSpec Tryz.prog CT 30 [cellD c] (· = .bool (checkR c)) := by
  refine PSpec.of hT Tryz.func30 rfl (by kernel_rfl) rfl rfl ?_
  have w1 : IntKind.i64.wrap ((c.am.length : Int) + (c.me.length : Int)) = ((c.am.length + c.me.length : Nat) : Int) := by rw [wrap64] <;> omega
  have w2 : IntKind.i64.wrap (((c.am.length + c.me.length : Nat) : Int) + (c.el.length : Int)) = ((c.am.length + c.me.length + c.el.length : Nat) : Int) := by rw [wrap64] <;> omega
  simp only [Tryz.f30, go_sem, simprocAttr, w1, w2]
  have bad1 : ¬ ((c.kind = 2 ∨ c.kind = 3) ∧ c.base = 0 ∧ c.am.length = 0 ∧ c.me.length = 0 ∧ c.el.length = 0) → checkR c = false := fun h => by
    have : shapeR c = false := by
      cases hs : shapeR c with
      | false => rfl
      | true => exact absurd (by simpa [shapeR, and_assoc] using hs) h
    simp only [checkR, this, Bool.false_and]
  (repeat' (first | ((refine guardK_split (fun hg => ?_) (fun hg => ?_)) <;> (try simp only [go_sem, simprocAttr, hg, w1, w2])) | ((refine condK_split (fun hg => ?_) (fun hg => ?_)) <;> (try simp only [go_sem, simprocAttr, hg, w1, w2])) | ((refine Or.inl ⟨by kernel_rfl, ?_⟩) <;> (try simp only [go_sem, simprocAttr, w1, w2])))) <;> (first | done | (rw [bad1 (by simp only [decide_eq_true_eq, decide_eq_false_iff_not, Bool.not_eq_true', Bool.not_eq_false', Bool.not_eq_eq_eq_not, Bool.not_true, Bool.not_false] at *; omega)]) | skip)
  all_goals
    have hs : shapeR c = true := by
      simp only [shapeR, Bool.and_eq_true, Bool.or_eq_true, decide_eq_true_eq]
      simp only [decide_eq_true_eq, decide_eq_false_iff_not, Bool.not_eq_true', Bool.not_eq_false', Bool.not_eq_eq_eq_not, Bool.not_true, Bool.not_false] at *
      omega
    refine awp_loop (fun n s => ∃ (k : Nat) (ex : List (Sh × D)) (g : Nat → D), s = ⟨[g 0, .ptr 0 [], g 2, .lit (.int .i64 k), g 4, g 5, g 6, g 7, g 8, g 9, g 10, g 11, g 12, g 13, g 14, g 15, g 16, g 17, g 18, g 19, g 20, g 21, g 22, g 23, g 24, g 25, g 26, g 27, g 28, g 29, g 30, g 31, g 32, g 33, g 34, g 35, g 36, g 37, g 38, g 39, g 40, g 41, g 42, g 43, g 44, g 45, g 46, g 47, g 48, g 49, g 50, g 51, g 52, g 53, g 54, g 55, g 56, g 57, g 58, g 59, g 60, g 61, g 62, g 63, g 64, g 65, g 66, g 67, g 68, g 69, g 70], ⟨((.pair .leaf (.pair .leaf (.pair .leaf (.pair .leaf (.pair .leaf (.pair .leaf .unit)))))), cellD c) :: ex, []⟩⟩ ∧ n = c.wr.length - k ∧ k ≤ c.wr.length ∧ ∀ p, p < k → wrOk c p = true) c.wr.length ⟨0, _, reg_intro rfl rfl ⟨by simp, by omega, by simp⟩⟩ ?_
    rintro n s ⟨k, ex, g, rfl, hn, hk, hp⟩
    simp only [go_sem, simprocAttr]
    refine condK_split (fun hc => ?_) (fun hc => ?_)
    · have hk' : k < c.wr.length := by have := of_decide_eq_true hc; omega
      have bad : wrOk c k = false → checkR c = false := fun h => by simp only [checkR, all_bad hk' h, Bool.and_false]
      simp only [go_sem, simprocAttr, hk', get_wr]
      have hk1 : k - 1 < c.wr.length := by omega
      have hws : decide (0 < (k : Int)) = true → IntKind.i64.wrap ((k : Int) - 1) = ((k - 1 : Nat) : Int) := fun h => by
        have := of_decide_eq_true h
        rw [wrap64] <;> omega
      refine .inl ⟨by kernel_rfl, ?_⟩
      clear hs bad1
      (repeat' (first | ((refine guardK_split (fun hg => ?_) (fun hg => ?_)) <;> (try simp only [go_sem, simprocAttr, hg, hk', hk1, get_wr, get_wr1, hws, wrapNat k (by omega)])) | ((refine condK_split (fun hg => ?_) (fun hg => ?_)) <;> (try simp only [go_sem, simprocAttr, hg, hk', hk1, get_wr, get_wr1, hws, wrapNat k (by omega)])) | ((first | refine callK_pure (ref_less (wrAt c (k - 1)).m (wrAt c k).m) ?_ ?_ ?_ | refine callD_pure (ref_less (wrAt c (k - 1)).m (wrAt c k).m) ?_ ?_ ?_); (iterate 2 (focus (first | rfl | (simp only [go_sem, hk', hk1, get_wr, get_wr1, hws, wrapNat k (by omega)]; done)))); try simp only [go_sem, simprocAttr, hk', hk1, get_wr, get_wr1, hws, wrapNat k (by omega)]) | ((refine Or.inl ⟨by kernel_rfl, ?_⟩) <;> (try simp only [go_sem, simprocAttr, hk', hk1, get_wr, get_wr1, hws, wrapNat k (by omega)])))) <;> (first | done | (rw [bad (by first | (simp_all [wrOk]; done) | (simp_all [wrOk]; omega) | grind [wrOk])]) | exact ⟨c.wr.length - (k + 1), by omega, k + 1, _, reg_intro rfl rfl ⟨rfl, by omega, next_good hp (by first | (simp_all [wrOk]; done) | (simp_all [wrOk]; omega) | grind [wrOk])⟩⟩)
    · have hi := of_decide_eq_false hc
      obtain rfl : k = c.wr.length := by omega
      have : checkR c = true := by simp only [checkR, hs, all_good hp, Bool.and_true]
      simp only [go_sem, simprocAttr, this]

def bef (t : TxR) (i : Int) (w : WriteR) : Bool := before w.m.p w.m.s w.m.i t i
def clearR (c : CellR) (t : TxR) (i : Int) : CellR := if checkR c then { c with wr := keptL (bef t i) c.wr } else c

end Go.Ab
set_option linter.unusedSimpArgs false
namespace Go.Ab
open Go.Proofs

abbrev xw (t : TxR) (i : Int) (s : ByteArray) : WriteR := ⟨⟨t.peer, t.seq, i⟩, t.time, s⟩
def sameM (x w : WriteR) : Bool := decide (w.m = x.m)
def goesM (x w : WriteR) : Bool := markLt x.m w.m
def doR (c : CellR) (t : TxR) (i : Int) (s : ByteArray) : CellR :=
  if checkR c = false ∨ 64 < (s.size : Int) ∨ i < 1 then c else if c.wr.any (sameM (xw t i s)) then c
  else { clearR c t i with wr := insB (goesM (xw t i s)) (xw t i s) (clearR c t i).wr }
theorem clearR_shape (c : CellR) (t : TxR) (i : Int) : (clearR c t i).kind = c.kind ∧ (clearR c t i).base = c.base ∧ (clearR c t i).am = c.am ∧ (clearR c t i).me = c.me ∧ (clearR c t i).el = c.el ∧ (clearR c t i).wr.length ≤ c.wr.length := by
  unfold clearR
  split
  · exact ⟨rfl, rfl, rfl, rfl, rfl, kept_len _ _⟩
  · exact ⟨rfl, rfl, rfl, rfl, rfl, Nat.le_refl _⟩
end Go.Ab
set_option linter.unusedSimpArgs false
namespace Go.Ab
open Go.Proofs


/-- The place of the latest write, the last one of such. -/
def bestAt (l : List WriteR) : Nat → Int
  | 0 => -1
  | k + 1 => if bestAt l k < 0 ∨ (l.getD (bestAt l k).toNat default).time ≤ (l.getD k default).time then (k : Int) else bestAt l k
def latestL (l : List WriteR) : List ByteArray := if bestAt l l.length < 0 then [] else [(l.getD (bestAt l l.length).toNat default).text]
def wrTexts (l : List WriteR) : List ByteArray := l.map (·.text)
def readR (c : CellR) : ValueR := if checkR c = false then ⟨0, 0, []⟩ else if c.kind = 3 then ⟨c.kind, 0, risesL (wrTexts c.wr)⟩ else ⟨c.kind, 0, latestL c.wr⟩
end Go.Ab
set_option linter.unusedSimpArgs false
namespace Go.Ab
open Go.Proofs

end Go.Ab
set_option linter.unusedSimpArgs false
namespace Go.Ab
open Go.Proofs

theorem pred_clear (t : TxR) (i : Int) (hd : t.deps.length = 13) (base : List (Sh × D)) {bt bi : Nat} (ht : base[bt]? = some (txSh, txD t)) (hi : base[bi]? = some (.leaf, .lit (.int .i64 i))) :
    PredF 135 [.ptr bt [], .ptr bi []] wrD (bef t i) base := by
  intro x bs hbs
  have ht' : bs[bt]? = some (txSh, txD t) := by rw [hbs _ (List.getElem?_eq_some_iff.1 ht).1]; exact ht
  have hi' : bs[bi]? = some (.leaf, .lit (.int .i64 i)) := by rw [hbs _ (List.getElem?_eq_some_iff.1 hi).1]; exact hi
  have hlt := (List.getElem?_eq_some_iff.1 ht').1
  have hli := (List.getElem?_eq_some_iff.1 hi').1
  have gt : ∀ y, (bs ++ [y])[bt]? = some (txSh, txD t) := fun y => by rw [List.getElem?_append_left hlt]; exact ht'
  have gi : ∀ y, (bs ++ [y])[bi]? = some (.leaf, .lit (.int .i64 i)) := fun y => by rw [List.getElem?_append_left hli]; exact hi'
  refine HSpec.of hT Tryz.func135 rfl (by kernel_rfl) rfl rfl fun tk => ?_
  simp only [Tryz.f135, go_sem, simprocAttr, gt, gi, hd]
  refine callK_pure (args' := [x.m.d, txD t, .lit (.int .i64 i)]) (ops_before x.m.p x.m.s x.m.i t i hd) (by first | rfl | (simp only [go_sem, hd]; done)) (by first | (simp only [go_sem, hd]; done) | (simp [pureL, pureD]; done)) ?_
  simp only [go_sem, simprocAttr]
  have e := finH_drop (ex := [((.pair (.pair (.pair .leaf (.pair .leaf .unit)) (.pair .leaf .unit)) (.pair .leaf (.pair .leaf .unit))), wrD x)]) (bs := bs) (tk := tk) (r := .bool (before x.m.p x.m.s x.m.i t i)) (R := fun r b' => r = .bool (bef t i x) ∧ b' = bs) (by simp) (by simp [meltD, lowD]) ⟨by simp [meltD, bef], rfl⟩ []
  simpa using e

theorem pred_same (x : WriteR) (base : List (Sh × D)) {b : Nat} (hb : base[b]? = some ((.pair (.pair (.pair .leaf (.pair .leaf .unit)) (.pair .leaf .unit)) (.pair .leaf (.pair .leaf .unit))), wrD x)) : PredF 137 [.ptr b []] wrD (sameM x) base := by
  intro w bs hbs
  have hb' : bs[b]? = some ((.pair (.pair (.pair .leaf (.pair .leaf .unit)) (.pair .leaf .unit)) (.pair .leaf (.pair .leaf .unit))), wrD x) := by rw [hbs _ (List.getElem?_eq_some_iff.1 hb).1]; exact hb
  have hlt := (List.getElem?_eq_some_iff.1 hb').1
  have gb : ∀ y, (bs ++ [y])[b]? = some ((.pair (.pair (.pair .leaf (.pair .leaf .unit)) (.pair .leaf .unit)) (.pair .leaf (.pair .leaf .unit))), wrD x) := fun y => by rw [List.getElem?_append_left hlt]; exact hb'
  refine HSpec.of hT Tryz.func137 rfl (by kernel_rfl) rfl rfl fun tk => ?_
  simp only [Tryz.f137, go_sem, simprocAttr, gb, eqB_mk]
  have e := finH_drop (ex := [((.pair (.pair (.pair .leaf (.pair .leaf .unit)) (.pair .leaf .unit)) (.pair .leaf (.pair .leaf .unit))), wrD w)]) (bs := bs) (tk := tk) (r := .bool (decide (w.m.p = x.m.p) && (decide (w.m.s = x.m.s) && decide (w.m.i = x.m.i)))) (R := fun r b' => r = .bool (sameM x w) ∧ b' = bs) (by simp) (by simp [meltD, lowD]) ⟨by simp only [meltD, sameM, decM], rfl⟩ []
  simpa using e
set_option maxRecDepth 8000 in
theorem register_clear (c : CellR) (t : TxR) (i : Int) (hd : t.deps.length = 13) (hw : c.wr.length < 1000000000) :
    PSpec Tryz.prog CT 130 [cellD c, txD t, .lit (.int .i64 i)] (· = cellD (clearR c t i)) := by
  refine HSpec.pure (HSpec.of hT Tryz.func130 rfl (by kernel_rfl) rfl rfl fun tk => ?_)
  simp only [Tryz.f130, go_sem, simprocAttr, hd]
  refine callK_pure (args' := [cellD c]) (register_check c (by omega)) (by first | rfl | (simp only [go_sem]; done)) (by first | (simp only [go_sem]; done) | (simp [pureL, pureD]; done)) ?_
  simp only [go_sem, simprocAttr]
  refine condK_split (fun h1 => ?_) (fun h1 => ?_)
  · simp only [go_sem, simprocAttr, hd]
    refine callK_a (clone_wr c.wr .no hw _ _) ?_
    rintro r h' ⟨ex, rfl, ho⟩
    simp only [go_sem, simprocAttr, hd, out_nrmL ho]
    refine callK_h (del_wr (p := bef t i) c.wr hw [((.pair .leaf (.pair .leaf (.pair .leaf (.pair .leaf (.pair .leaf (.pair .leaf .unit)))))), cellD c), (txSh, txD t), (.leaf, .lit (.int .i64 i)), ((.pair .leaf (.pair .leaf (.pair .leaf (.pair .leaf (.pair .leaf (.pair .leaf .unit)))))), CT.zero 27)] ex (pred_clear t i hd _ (bt := 1) (bi := 2) rfl rfl) ho) ?_
    rintro r2 b' ⟨ex', rfl, ho'⟩
    simp only [go_sem, simprocAttr, hd, out_nrmM ho', out_leaf ho']
    refine finH_all ?_ (q := cellD (clearR c t i)) ?_ (pure_cell _) ⟨pure_cell _, rfl⟩
    · intro N s' L hm
      simp only [List.mem_cons, Prod.mk.injEq, reduceCtorEq, false_and, false_or] at hm
      exact outM_pure ho' N s' L hm
    · have hmo := fun x y z w => melt_out (base := [x, y, z, w]) rfl ho'
      simp only [List.cons_append, List.nil_append] at hmo
      simp only [clearR, h1, if_true, meltD, meltL, hmo]
  · simp only [go_sem, simprocAttr]
    refine finH_all ?_ (q := cellD (clearR c t i)) ?_ (pure_cell _) ⟨pure_cell _, rfl⟩
    · intro N s' L hm
      simp at hm
    · simp only [clearR, h1, meltD, meltL, Bool.false_eq_true, if_false]
end Go.Ab
set_option linter.unusedSimpArgs false
namespace Go.Ab
open Go.Proofs

theorem clearR_mem {c : CellR} {t : TxR} {i : Int} {w : WriteR} (h : w ∈ (clearR c t i).wr) : w ∈ c.wr := by
  unfold clearR at h
  split at h
  · exact (List.mem_filter.1 h).1
  · exact h

set_option maxRecDepth 8000 in
set_option maxHeartbeats 2000000 in
theorem register_do (c : CellR) (t : TxR) (i : Int) (sx : ByteArray) (hd : t.deps.length = 13) (hw : c.wr.length < 100000000) :
    PSpec Tryz.prog CT 131 [cellD c, txD t, .lit (.int .i64 i), .lit (.string sx)] (· = cellD (doR c t i sx)) := by
  refine HSpec.pure (HSpec.of hT Tryz.func131 rfl (by kernel_rfl) rfl rfl fun tk => ?_)
  simp only [Tryz.f131, go_sem, simprocAttr, hd]
  have early : (checkR c = false ∨ 64 < (sx.size : Int) ∨ i < 1) → doR c t i sx = c := fun h => by rw [doR, if_pos h]
  have leave : ∀ bs : List (Sh × D), (∀ (N : Nat) (s' : Sh) (L : List D), (Sh.arr N s', D.agg L) ∈ bs → pureL L) → doR c t i sx = c → finH (some (cellD c)) [] tk (fun r _ => pureR r ∧ r = cellD (doR c t i sx)) bs tk := fun bs h1 h2 => by
    rw [h2]
    exact finH_all h1 (melt_cell _ _) (pure_cell _) ⟨pure_cell _, rfl⟩
  (repeat' (first | ((refine guardK_split (fun hg => ?_) (fun hg => ?_)) <;> (try simp only [go_sem, simprocAttr, hg, hd])) | ((refine condK_split (fun hg => ?_) (fun hg => ?_)) <;> (try simp only [go_sem, simprocAttr, hg, hd])) | ((first | refine callK_pure (register_check c (by omega)) ?_ ?_ ?_ | refine callD_pure (register_check c (by omega)) ?_ ?_ ?_); (iterate 2 (focus (first | rfl | (simp only [go_sem, hd]; done)))); try simp only [go_sem, simprocAttr, hd]) | ((refine Or.inl ⟨by kernel_rfl, ?_⟩) <;> (try simp only [go_sem, simprocAttr, hd])))) <;> (first | done | (exact leave _ (by intro N s' L hm; simp at hm) (early (by first | (simp_all; done) | (simp_all; omega)))) | skip)
  have hck : checkR c = true := by simp_all
  have hne : ¬ (checkR c = false ∨ 64 < (sx.size : Int) ∨ i < 1) := by
    simp only [decide_eq_true_eq, decide_eq_false_iff_not] at *
    rintro (h | h | h)
    · rw [hck] at h; cases h
    · omega
    · omega
  refine callK_h (containsFunc_wr (p := sameM (xw t i sx)) c.wr .no (by omega) _ (pred_same (xw t i sx) _ (b := 3) rfl)) ?_
  rintro r b' ⟨rfl, rfl⟩
  simp only [go_sem, simprocAttr, hd]
  refine condK_split (fun h2 => ?_) (fun h2 => ?_)
  · have : doR c t i sx = c := by rw [doR, if_neg hne, if_pos h2]
    simp only [go_sem, simprocAttr]
    exact leave _ (by intro N s' L hm; simp at hm) this
  obtain ⟨s1, s2, s3, s4, s5, s6⟩ := clearR_shape c t i
  have hdo : doR c t i sx = { clearR c t i with wr := insB (goesM (xw t i sx)) (xw t i sx) (clearR c t i).wr } := by rw [doR, if_neg hne, h2]; simp
  have hnm : ∀ q, q < (clearR c t i).wr.length → ((clearR c t i).wr.getD q default).m ≠ (xw t i sx).m := by
    intro q hq he
    have hm := clearR_mem (c := c) (t := t) (i := i) (w := (clearR c t i).wr.getD q default) (by rw [List.getD_eq_getElem?_getD, List.getElem?_eq_getElem hq]; exact List.getElem_mem hq)
    have := List.any_eq_false.1 h2 _ hm
    exact this (by simp only [sameM, he, decide_true])
  simp only [go_sem, simprocAttr, hd]
  refine callK_pure (args' := [cellD c, txD t, .lit (.int .i64 i)]) (register_clear c t i hd (by omega)) (by first | rfl | (simp only [go_sem, hd]; done)) (by first | (simp only [go_sem, hd]; done) | (simp [pureL, pureD]; done)) ?_
  generalize clearR c t i = d at *
  simp only [go_sem, simprocAttr, hd]
  refine awp_loop (fun m s => ∃ (k : Nat) (g : Nat → D), s = ⟨[g 0, g 1, .lit (.int .i64 i), g 3, .ptr 0 [], .ptr 1 [], g 6, g 7, .ptr 2 [], .ptr 3 [], .lit (.int .i64 k), g 11, g 12, g 13, g 14, g 15, g 16, g 17, g 18, g 19, g 20, g 21, g 22, g 23, g 24, g 25, g 26, g 27, g 28, g 29, g 30, g 31, g 32, g 33, g 34, g 35, g 36, g 37, g 38, g 39, g 40, g 41, g 42, g 43, g 44, g 45, g 46, g 47, g 48, g 49, g 50, g 51, g 52, g 53, g 54, g 55, g 56, g 57, g 58, g 59, g 60, g 61, g 62, g 63, g 64, g 65, g 66, g 67], ⟨[((.pair .leaf (.pair .leaf (.pair .leaf (.pair .leaf (.pair .leaf (.pair .leaf .unit)))))), cellD d), (txSh, txD t), ((.pair .leaf (.pair .leaf (.pair .leaf (.pair .leaf (.pair .leaf (.pair .leaf .unit)))))), CT.zero 27), ((.pair (.pair (.pair .leaf (.pair .leaf .unit)) (.pair .leaf .unit)) (.pair .leaf (.pair .leaf .unit))), wrD (xw t i sx))], tk⟩⟩ ∧ m = d.wr.length - k ∧ k ≤ d.wr.length ∧ ∀ q, q < k → goesM (xw t i sx) (d.wr.getD q default) = false) d.wr.length ⟨0, reg_intro rfl rfl ⟨by simp, by omega, by simp⟩⟩ ?_
  rintro m st ⟨k, g, rfl, hn, hk, hp⟩
  have hfin : (k < d.wr.length → goesM (xw t i sx) (d.wr.getD k default) = true) → doR c t i sx = { d with wr := insAt d.wr k (xw t i sx) } := fun h => by rw [hdo, insB_insAt hk hp h]
  simp only [go_sem, simprocAttr, hd]
  refine .inl ⟨by kernel_rfl, ?_⟩
  refine guardK_split (fun hc => ?_) (fun hc => ?_)
  · have hk' : k < d.wr.length := by have := of_decide_eq_true hc; omega
    simp only [go_sem, simprocAttr, hd, hc, hk', get_wr]
    refine callD_pure (ops_less (wrAt d k).m ⟨t.peer, t.seq, i⟩) (by first | rfl | (simp only [go_sem]; done)) (by first | (simp only [go_sem]; done) | (simp [pureL, pureD]; done)) ?_
    simp only [go_sem, simprocAttr, hc]
    refine condK_split (fun h3 => ?_) (fun h3 => ?_)
    · simp only [go_sem, simprocAttr, wrapNat k (by omega)]
      exact ⟨d.wr.length - (k + 1), by omega, k + 1, reg_intro rfl rfl ⟨rfl, by omega, next_bad hp (markLt_asymm h3)⟩⟩
    · have hf := hfin fun _ => markLt_total h3 (hnm k hk')
      simp only [go_sem, simprocAttr, hd]
      refine .inr (drawN_calls [0, 1, 3, 4, 5] [2, 6] [7, 8] (by kernel_rfl) ?_)
      simp only [go_sem, simprocAttr, hd]
      refine callsD_call (args' := [wrsD d.wr .no]) rfl (by simp only [go_sem, simprocAttr]) (clone_wr d.wr .no (by omega) _ _) ?_
      rintro r h' ⟨ex, rfl, ho⟩
      refine ⟨Hle.of rfl, ?_⟩
      simp only [go_sem, simprocAttr]
      refine callsD_call (args' := [r, .lit (.int .i64 k), wrsD [xw t i sx] .full]) rfl (by simp only [go_sem, simprocAttr, out_nrmL ho, List.map_cons, List.map_nil]; rfl) (insert_wr d.wr (xw t i sx) .full k hk (by omega) [((.pair .leaf (.pair .leaf (.pair .leaf (.pair .leaf (.pair .leaf (.pair .leaf .unit)))))), cellD d), (txSh, txD t), ((.pair .leaf (.pair .leaf (.pair .leaf (.pair .leaf (.pair .leaf (.pair .leaf .unit)))))), CT.zero 27), ((.pair (.pair (.pair .leaf (.pair .leaf .unit)) (.pair .leaf .unit)) (.pair .leaf (.pair .leaf .unit))), wrD (xw t i sx))] ex tk ho) ?_
      rintro r2 h2 ⟨ex', rfl, ho'⟩
      refine ⟨Hle.of rfl, ?_⟩
      show aopsN _ _ _ _ _ _
      simp only [go_sem, simprocAttr]
      refine aopsN_at rfl rfl ?_
      simp only [go_sem, simprocAttr, hd]
      refine aopsN_at rfl rfl ?_
      simp only [go_sem, simprocAttr, hd, out_nrmM ho', out_leaf ho', aopsN_nil]
      refine finH_all ?_ (q := cellD (doR c t i sx)) ?_ (pure_cell _) ⟨pure_cell _, rfl⟩
      · intro N s' L hm
        simp only [List.mem_cons, Prod.mk.injEq, reduceCtorEq, false_and, false_or] at hm
        exact outM_pure ho' N s' L hm
      · have hmo := fun x y z w => melt_out (base := [x, y, z, w]) rfl ho'
        simp only [List.cons_append, List.nil_append] at hmo
        rw [hf]
        simp only [meltD, meltL, hmo]
  · have hf := hfin fun h => absurd h (by have := of_decide_eq_false hc; omega)
    simp only [go_sem, simprocAttr, hd, hc]
    refine .inr (drawN_calls [0, 1, 3, 4, 5] [2, 6] [7, 8] (by kernel_rfl) ?_)
    simp only [go_sem, simprocAttr, hd]
    refine callsD_call (args' := [wrsD d.wr .no]) rfl (by simp only [go_sem, simprocAttr]) (clone_wr d.wr .no (by omega) _ _) ?_
    rintro r h' ⟨ex, rfl, ho⟩
    refine ⟨Hle.of rfl, ?_⟩
    simp only [go_sem, simprocAttr]
    refine callsD_call (args' := [r, .lit (.int .i64 k), wrsD [xw t i sx] .full]) rfl (by simp only [go_sem, simprocAttr, out_nrmL ho, List.map_cons, List.map_nil]; rfl) (insert_wr d.wr (xw t i sx) .full k hk (by omega) [((.pair .leaf (.pair .leaf (.pair .leaf (.pair .leaf (.pair .leaf (.pair .leaf .unit)))))), cellD d), (txSh, txD t), ((.pair .leaf (.pair .leaf (.pair .leaf (.pair .leaf (.pair .leaf (.pair .leaf .unit)))))), CT.zero 27), ((.pair (.pair (.pair .leaf (.pair .leaf .unit)) (.pair .leaf .unit)) (.pair .leaf (.pair .leaf .unit))), wrD (xw t i sx))] ex tk ho) ?_
    rintro r2 h2 ⟨ex', rfl, ho'⟩
    refine ⟨Hle.of rfl, ?_⟩
    show aopsN _ _ _ _ _ _
    simp only [go_sem, simprocAttr]
    refine aopsN_at rfl rfl ?_
    simp only [go_sem, simprocAttr, hd]
    refine aopsN_at rfl rfl ?_
    simp only [go_sem, simprocAttr, hd, out_nrmM ho', out_leaf ho', aopsN_nil]
    refine finH_all ?_ (q := cellD (doR c t i sx)) ?_ (pure_cell _) ⟨pure_cell _, rfl⟩
    · intro N s' L hm
      simp only [List.mem_cons, Prod.mk.injEq, reduceCtorEq, false_and, false_or] at hm
      exact outM_pure ho' N s' L hm
    · have hmo := fun x y z w => melt_out (base := [x, y, z, w]) rfl ho'
      simp only [List.cons_append, List.nil_append] at hmo
      rw [hf]
      simp only [meltD, meltL, hmo]
end Go.Ab
