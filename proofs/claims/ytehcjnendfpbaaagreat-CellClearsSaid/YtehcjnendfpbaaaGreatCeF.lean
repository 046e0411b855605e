/- Cells of whichever kind: the program's functions. Conditions: none. -/
import Derived.Test.YtehcjnendfpbaaaGreatCoB
import Derived.Test.YtehcjnendfpbaaaGreatSqB
import Derived.Test.YtehcjnendfpbaaaGreatReH
import Derived.Test.YtehcjnendfpbaaaGreatReO
import Derived.Test.YtehcjnendfpbaaaGreatOsK
set_option linter.unusedSimpArgs false
namespace Go.Ab
open Go.Proofs

theorem mn_check : methodOf Tryz.prog 95 "plexus/cell.check" = some 91 := by kernel_rfl
theorem mw_check : methodOf Tryz.prog 96 "plexus/cell.check" = some 124 := by kernel_rfl
theorem mb_check : methodOf Tryz.prog 97 "plexus/cell.check" = some 167 := by kernel_rfl
theorem mr_check : methodOf Tryz.prog 98 "plexus/cell.check" = some 196 := by kernel_rfl
theorem mo_check : methodOf Tryz.prog 80 "plexus/cell.check" = some 86 := by kernel_rfl
theorem mn_do : methodOf Tryz.prog 95 "plexus/cell.do" = some 93 := by kernel_rfl
theorem mw_do : methodOf Tryz.prog 96 "plexus/cell.do" = some 126 := by kernel_rfl
theorem mb_do : methodOf Tryz.prog 97 "plexus/cell.do" = some 169 := by kernel_rfl
theorem mr_do : methodOf Tryz.prog 98 "plexus/cell.do" = some 198 := by kernel_rfl
theorem mo_do : methodOf Tryz.prog 80 "plexus/cell.do" = some 88 := by kernel_rfl
theorem mn_clear : methodOf Tryz.prog 95 "plexus/cell.clear" = some 92 := by kernel_rfl
theorem mw_clear : methodOf Tryz.prog 96 "plexus/cell.clear" = some 125 := by kernel_rfl
theorem mb_clear : methodOf Tryz.prog 97 "plexus/cell.clear" = some 168 := by kernel_rfl
theorem mr_clear : methodOf Tryz.prog 98 "plexus/cell.clear" = some 197 := by kernel_rfl
theorem mo_clear : methodOf Tryz.prog 80 "plexus/cell.clear" = some 87 := by kernel_rfl
theorem mn_read : methodOf Tryz.prog 95 "plexus/cell.read" = some 95 := by kernel_rfl
theorem mw_read : methodOf Tryz.prog 96 "plexus/cell.read" = some 128 := by kernel_rfl
theorem mb_read : methodOf Tryz.prog 97 "plexus/cell.read" = some 171 := by kernel_rfl
theorem mr_read : methodOf Tryz.prog 98 "plexus/cell.read" = some 200 := by kernel_rfl
theorem mo_read : methodOf Tryz.prog 80 "plexus/cell.read" = some 90 := by kernel_rfl
attribute [go_sem] mn_check mw_check mb_check mr_check mo_check mn_do mw_do mb_do mr_do mo_do mn_clear mw_clear mb_clear mr_clear mo_clear mn_read mw_read mb_read mr_read mo_read

/-- Cells that are not great. -/
structure CellR.sm (c : CellR) : Prop where
  am : c.am.length < 10000
  wr : c.wr.length < 10000
  me : c.me.length < 10000
  mm : ∀ m ∈ c.me, m.marks.length < 10000
  el : c.el.length < 10000
  eg : ∀ e ∈ c.el, e.gone.length < 10000
def leafT (k : Int) : TypeId := if k = 1 then 95 else if k = 2 ∨ k = 3 then 96 else if k = 4 then 97 else if k = 5 then 98 else 80
theorem leaf_n {k : Int} (h : k = 1) : leafT k = 95 := by rw [leafT, if_pos h]
theorem leaf_w {k : Int} (h : k = 2 ∨ k = 3) : leafT k = 96 := by rw [leafT, if_neg (by omega), if_pos h]
theorem leaf_b {k : Int} (h : k = 4) : leafT k = 97 := by rw [leafT, if_neg (by omega), if_neg (by omega), if_pos h]
theorem leaf_r {k : Int} (h : k = 5) : leafT k = 98 := by rw [leafT, if_neg (by omega), if_neg (by omega), if_neg (by omega), if_pos h]
theorem leaf_o {k : Int} (h : ¬ (k = 1 ∨ k = 2 ∨ k = 3 ∨ k = 4 ∨ k = 5)) : leafT k = 80 := by rw [leafT, if_neg (by omega), if_neg (by omega), if_neg (by omega), if_neg (by omega)]
theorem iface_cell {t : TypeId} (ht : CT.ty t ≠ .bad) (c : CellR) : ifaceK CT t (.agg [cellD c]) = some (.ifc t (.agg [cellD c])) := by
  rw [ifaceK, if_pos ⟨ht, by simp [nrm, pureD, pureL]⟩]; rfl
theorem if_n (c : CellR) : ifaceK CT 95 (.agg [cellD c]) = some (.ifc 95 (.agg [cellD c])) := iface_cell (by simp only [go_sem, simprocAttr]) c
theorem if_w (c : CellR) : ifaceK CT 96 (.agg [cellD c]) = some (.ifc 96 (.agg [cellD c])) := iface_cell (by simp only [go_sem, simprocAttr]) c
theorem if_b (c : CellR) : ifaceK CT 97 (.agg [cellD c]) = some (.ifc 97 (.agg [cellD c])) := iface_cell (by simp only [go_sem, simprocAttr]) c
theorem if_r (c : CellR) : ifaceK CT 98 (.agg [cellD c]) = some (.ifc 98 (.agg [cellD c])) := iface_cell (by simp only [go_sem, simprocAttr]) c
theorem if_o (c : CellR) : ifaceK CT 80 (.agg [cellD c]) = some (.ifc 80 (.agg [cellD c])) := iface_cell (by simp only [go_sem, simprocAttr]) c
theorem cell_of (c : CellR) : PSpec Tryz.prog CT 36 [cellD c] (· = .ifc (leafT c.kind) (.agg [cellD c])) := by
  refine PSpec.of hT Tryz.func36 rfl (by kernel_rfl) rfl rfl ?_
  simp only [Tryz.f36, go_sem, simprocAttr]
  (repeat' (first | ((refine guardK_split (fun hg => ?_) (fun hg => ?_)) <;> (try simp only [go_sem, simprocAttr, hg, if_n c, if_w c, if_b c, if_r c, if_o c])) | ((refine condK_split (fun hg => ?_) (fun hg => ?_)) <;> (try simp only [go_sem, simprocAttr, hg, if_n c, if_w c, if_b c, if_r c, if_o c])) | ((refine Or.inl ⟨by kernel_rfl, ?_⟩) <;> (try simp only [go_sem, simprocAttr, if_n c, if_w c, if_b c, if_r c, if_o c])))) <;> (first | done | (refine ⟨trivial, ?_⟩; simp only [decide_eq_true_eq, decide_eq_false_iff_not] at *; first | (rw [leaf_n (by omega)]; rfl) | (rw [leaf_w (by omega)]; rfl) | (rw [leaf_b (by omega)]; rfl) | (rw [leaf_r (by omega)]; rfl) | (rw [leaf_o (by omega)]; rfl)))

def checkC (c : CellR) : Bool := if c.kind = 1 then checkN c else if c.kind = 2 ∨ c.kind = 3 then checkR c else if c.kind = 4 then checkS c else if c.kind = 5 then checkQ c else false
def actC (c : CellR) (t : TxR) (i : Int) (o : OpR) : CellR :=
  if c.kind = 1 then (if o.act = 1 then doN c t i o.n else c)
  else if c.kind = 2 ∨ c.kind = 3 then (if o.act = 3 then doR c t i o.text else c)
  else if c.kind = 4 then (if o.act = 1 then addS c t i o.text else if o.act = 2 then delS c t i o.text else c)
  else if c.kind = 5 then (if o.act = 4 then insQ c t i ⟨o.rp, o.rs, o.ri⟩ o.text else if o.act = 2 then delQ c t i ⟨o.rp, o.rs, o.ri⟩ else c)
  else c
def doC (c : CellR) (t : TxR) (i : Int) (o : OpR) : CellR := if i < 1 ∨ checkC c = false then c else actC c t i o
set_option maxRecDepth 8000 in
theorem n_check (c : CellR) (h : c.sm) : PSpec Tryz.prog CT 91 [.agg [cellD c]] (· = .bool (checkN c)) := by
  refine PSpec.of hT Tryz.func91 rfl (by kernel_rfl) rfl rfl ?_
  simp only [Tryz.f91, go_sem, simprocAttr]
  refine callK_pure (args' := [cellD c]) (counter_check c (by have := h.am; omega)) (by first | rfl | (simp only [go_sem]; done)) (by first | (simp only [go_sem]; done) | (simp [pureL, pureD]; done)) ?_
  simp only [go_sem, simprocAttr]
set_option maxRecDepth 8000 in
theorem w_check (c : CellR) (h : c.sm) : PSpec Tryz.prog CT 124 [.agg [cellD c]] (· = .bool (checkR c)) := by
  refine PSpec.of hT Tryz.func124 rfl (by kernel_rfl) rfl rfl ?_
  simp only [Tryz.f124, go_sem, simprocAttr]
  refine callK_pure (args' := [cellD c]) (register_check c (by have := h.wr; omega)) (by first | rfl | (simp only [go_sem]; done)) (by first | (simp only [go_sem]; done) | (simp [pureL, pureD]; done)) ?_
  simp only [go_sem, simprocAttr]
set_option maxRecDepth 8000 in
theorem b_check (c : CellR) (h : c.sm) : PSpec Tryz.prog CT 167 [.agg [cellD c]] (· = .bool (checkS c)) := by
  refine PSpec.of hT Tryz.func167 rfl (by kernel_rfl) rfl rfl ?_
  simp only [Tryz.f167, go_sem, simprocAttr]
  refine callK_pure (args' := [cellD c]) (orset_check c (by have := h.me; omega) (fun m hm => by have := h.mm m hm; omega)) (by first | rfl | (simp only [go_sem]; done)) (by first | (simp only [go_sem]; done) | (simp [pureL, pureD]; done)) ?_
  simp only [go_sem, simprocAttr]
set_option maxRecDepth 8000 in
theorem r_check (c : CellR) (h : c.sm) : PSpec Tryz.prog CT 196 [.agg [cellD c]] (· = .bool (checkQ c)) := by
  refine PSpec.of hT Tryz.func196 rfl (by kernel_rfl) rfl rfl ?_
  simp only [Tryz.f196, go_sem, simprocAttr]
  refine callK_pure (args' := [cellD c]) (seq_check c (by have := h.el; omega) (fun e he => by have := h.eg e he; omega)) (by first | rfl | (simp only [go_sem]; done)) (by first | (simp only [go_sem]; done) | (simp [pureL, pureD]; done)) ?_
  simp only [go_sem, simprocAttr]
theorem o_check (c : CellR) : PSpec Tryz.prog CT 86 [.agg [cellD c]] (· = .bool false) := by
  refine PSpec.of hT Tryz.func86 rfl (by kernel_rfl) rfl rfl ?_
  simp only [Tryz.f86, go_sem, simprocAttr]
set_option maxRecDepth 8000 in
theorem n_do (c : CellR) (t : TxR) (i : Int) (o : OpR) (hd : t.deps.length = 13) (h : c.sm) : PSpec Tryz.prog CT 93 [.agg [cellD c], txD t, .lit (.int .i64 i), opD o] (· = cellD (if o.act = 1 then doN c t i o.n else c)) := by
  refine PSpec.of hT Tryz.func93 rfl (by kernel_rfl) rfl rfl ?_
  simp only [Tryz.f93, go_sem, simprocAttr, hd]
  (repeat' (first | ((refine guardK_split (fun hg => ?_) (fun hg => ?_)) <;> (try simp only [go_sem, simprocAttr, hg, hd])) | ((refine condK_split (fun hg => ?_) (fun hg => ?_)) <;> (try simp only [go_sem, simprocAttr, hg, hd])) | ((first | refine callK_pure (counter_do c t i o.n hd (by have := h.am; omega)) ?_ ?_ ?_ | refine callD_pure (counter_do c t i o.n hd (by have := h.am; omega)) ?_ ?_ ?_); (iterate 2 (focus (first | rfl | (simp only [go_sem, hd]; done)))); try simp only [go_sem, simprocAttr, hd]) | ((refine Or.inl ⟨by kernel_rfl, ?_⟩) <;> (try simp only [go_sem, simprocAttr, hd])))) <;> (first | done | (simp only [decide_eq_true_eq, decide_eq_false_iff_not] at *; (first | rw [if_pos (by assumption)] | rw [if_neg (by assumption), if_pos (by assumption)] | rw [if_neg (by assumption), if_neg (by assumption)] | rw [if_neg (by assumption)]) <;> rfl))
set_option maxRecDepth 8000 in
theorem w_do (c : CellR) (t : TxR) (i : Int) (o : OpR) (hd : t.deps.length = 13) (h : c.sm) : PSpec Tryz.prog CT 126 [.agg [cellD c], txD t, .lit (.int .i64 i), opD o] (· = cellD (if o.act = 3 then doR c t i o.text else c)) := by
  refine PSpec.of hT Tryz.func126 rfl (by kernel_rfl) rfl rfl ?_
  simp only [Tryz.f126, go_sem, simprocAttr, hd]
  (repeat' (first | ((refine guardK_split (fun hg => ?_) (fun hg => ?_)) <;> (try simp only [go_sem, simprocAttr, hg, hd])) | ((refine condK_split (fun hg => ?_) (fun hg => ?_)) <;> (try simp only [go_sem, simprocAttr, hg, hd])) | ((first | refine callK_pure (register_do c t i o.text hd (by have := h.wr; omega)) ?_ ?_ ?_ | refine callD_pure (register_do c t i o.text hd (by have := h.wr; omega)) ?_ ?_ ?_); (iterate 2 (focus (first | rfl | (simp only [go_sem, hd]; done)))); try simp only [go_sem, simprocAttr, hd]) | ((refine Or.inl ⟨by kernel_rfl, ?_⟩) <;> (try simp only [go_sem, simprocAttr, hd])))) <;> (first | done | (simp only [decide_eq_true_eq, decide_eq_false_iff_not] at *; (first | rw [if_pos (by assumption)] | rw [if_neg (by assumption), if_pos (by assumption)] | rw [if_neg (by assumption), if_neg (by assumption)] | rw [if_neg (by assumption)]) <;> rfl))
set_option maxRecDepth 8000 in
theorem b_do (c : CellR) (t : TxR) (i : Int) (o : OpR) (hd : t.deps.length = 13) (h : c.sm) : PSpec Tryz.prog CT 169 [.agg [cellD c], txD t, .lit (.int .i64 i), opD o] (· = cellD (if o.act = 1 then addS c t i o.text else if o.act = 2 then delS c t i o.text else c)) := by
  refine PSpec.of hT Tryz.func169 rfl (by kernel_rfl) rfl rfl ?_
  simp only [Tryz.f169, go_sem, simprocAttr, hd]
  (repeat' (first | ((refine guardK_split (fun hg => ?_) (fun hg => ?_)) <;> (try simp only [go_sem, simprocAttr, hg, hd])) | ((refine condK_split (fun hg => ?_) (fun hg => ?_)) <;> (try simp only [go_sem, simprocAttr, hg, hd])) | ((first | refine callK_pure (orset_add c t i o.text hd (by have := h.me; omega) (fun m hm => by have := h.mm m hm; omega)) ?_ ?_ ?_ | refine callD_pure (orset_add c t i o.text hd (by have := h.me; omega) (fun m hm => by have := h.mm m hm; omega)) ?_ ?_ ?_); (iterate 2 (focus (first | rfl | (simp only [go_sem, hd]; done)))); try simp only [go_sem, simprocAttr, hd]) | ((first | refine callK_pure (orset_del c t i o.text hd (by have := h.me; omega) (fun m hm => by have := h.mm m hm; omega)) ?_ ?_ ?_ | refine callD_pure (orset_del c t i o.text hd (by have := h.me; omega) (fun m hm => by have := h.mm m hm; omega)) ?_ ?_ ?_); (iterate 2 (focus (first | rfl | (simp only [go_sem, hd]; done)))); try simp only [go_sem, simprocAttr, hd]) | ((refine Or.inl ⟨by kernel_rfl, ?_⟩) <;> (try simp only [go_sem, simprocAttr, hd])))) <;> (first | done | (simp only [decide_eq_true_eq, decide_eq_false_iff_not] at *; (first | rw [if_pos (by assumption)] | rw [if_neg (by assumption), if_pos (by assumption)] | rw [if_neg (by assumption), if_neg (by assumption)] | rw [if_neg (by assumption)]) <;> rfl))
set_option maxRecDepth 8000 in
theorem r_do (c : CellR) (t : TxR) (i : Int) (o : OpR) (hd : t.deps.length = 13) (h : c.sm) : PSpec Tryz.prog CT 198 [.agg [cellD c], txD t, .lit (.int .i64 i), opD o] (· = cellD (if o.act = 4 then insQ c t i ⟨o.rp, o.rs, o.ri⟩ o.text else if o.act = 2 then delQ c t i ⟨o.rp, o.rs, o.ri⟩ else c)) := by
  refine PSpec.of hT Tryz.func198 rfl (by kernel_rfl) rfl rfl ?_
  simp only [Tryz.f198, go_sem, simprocAttr, hd]
  (repeat' (first | ((refine guardK_split (fun hg => ?_) (fun hg => ?_)) <;> (try simp only [go_sem, simprocAttr, hg, hd])) | ((refine condK_split (fun hg => ?_) (fun hg => ?_)) <;> (try simp only [go_sem, simprocAttr, hg, hd])) | ((first | refine callK_pure (seq_ins c t i ⟨o.rp, o.rs, o.ri⟩ o.text hd (by have := h.el; omega) (fun e he => by have := h.eg e he; omega)) ?_ ?_ ?_ | refine callD_pure (seq_ins c t i ⟨o.rp, o.rs, o.ri⟩ o.text hd (by have := h.el; omega) (fun e he => by have := h.eg e he; omega)) ?_ ?_ ?_); (iterate 2 (focus (first | rfl | (simp only [go_sem, hd]; done)))); try simp only [go_sem, simprocAttr, hd]) | ((first | refine callK_pure (seq_del c t i ⟨o.rp, o.rs, o.ri⟩ hd (by have := h.el; omega) (fun e he => by have := h.eg e he; omega)) ?_ ?_ ?_ | refine callD_pure (seq_del c t i ⟨o.rp, o.rs, o.ri⟩ hd (by have := h.el; omega) (fun e he => by have := h.eg e he; omega)) ?_ ?_ ?_); (iterate 2 (focus (first | rfl | (simp only [go_sem, hd]; done)))); try simp only [go_sem, simprocAttr, hd]) | ((refine Or.inl ⟨by kernel_rfl, ?_⟩) <;> (try simp only [go_sem, simprocAttr, hd])))) <;> (first | done | (simp only [decide_eq_true_eq, decide_eq_false_iff_not] at *; (first | rw [if_pos (by assumption)] | rw [if_neg (by assumption), if_pos (by assumption)] | rw [if_neg (by assumption), if_neg (by assumption)] | rw [if_neg (by assumption)]) <;> rfl))
set_option maxRecDepth 8000 in
theorem o_do (c : CellR) (t : TxR) (i : Int) (o : OpR) (hd : t.deps.length = 13) (h : c.sm) : PSpec Tryz.prog CT 88 [.agg [cellD c], txD t, .lit (.int .i64 i), opD o] (· = cellD (c)) := by
  refine PSpec.of hT Tryz.func88 rfl (by kernel_rfl) rfl rfl ?_
  simp only [Tryz.f88, go_sem, simprocAttr, hd]

theorem check_n {c : CellR} (h : c.kind = 1) : checkC c = checkN c := by rw [checkC, if_pos h]
theorem check_w {c : CellR} (h : c.kind = 2 ∨ c.kind = 3) : checkC c = checkR c := by rw [checkC, if_neg (by omega), if_pos h]
theorem check_b {c : CellR} (h : c.kind = 4) : checkC c = checkS c := by rw [checkC, if_neg (by omega), if_neg (by omega), if_pos h]
theorem check_r {c : CellR} (h : c.kind = 5) : checkC c = checkQ c := by rw [checkC, if_neg (by omega), if_neg (by omega), if_neg (by omega), if_pos h]
theorem check_o {c : CellR} (h : ¬ (c.kind = 1 ∨ c.kind = 2 ∨ c.kind = 3 ∨ c.kind = 4 ∨ c.kind = 5)) : checkC c = false := by rw [checkC, if_neg (by omega), if_neg (by omega), if_neg (by omega), if_neg (by omega)]
theorem kinds (k : Int) : k = 1 ∨ (k = 2 ∨ k = 3) ∨ k = 4 ∨ k = 5 ∨ ¬ (k = 1 ∨ k = 2 ∨ k = 3 ∨ k = 4 ∨ k = 5) := by omega
set_option maxRecDepth 8000 in
theorem cell_check (c : CellR) (h : c.sm) : PSpec Tryz.prog CT 21 [cellD c] (· = .bool (checkC c)) := by
  refine PSpec.of hT Tryz.func21 rfl (by kernel_rfl) rfl rfl ?_
  simp only [Tryz.f21, go_sem, simprocAttr]
  refine callK_pure (args' := [cellD c]) (cell_of c) (by first | rfl | (simp only [go_sem]; done)) (by first | (simp only [go_sem]; done) | (simp [pureL, pureD]; done)) ?_
  rcases kinds c.kind with hk | hk | hk | hk | hk
  · rw [leaf_n hk, check_n hk]
    simp only [go_sem, simprocAttr]
    refine callK_pure (args' := [.agg [cellD c]]) (n_check c h) (by first | rfl | (simp only [go_sem]; done)) (by first | (simp only [go_sem]; done) | (simp [pureL, pureD]; done)) ?_
    simp only [go_sem, simprocAttr]
  · rw [leaf_w hk, check_w hk]
    simp only [go_sem, simprocAttr]
    refine callK_pure (args' := [.agg [cellD c]]) (w_check c h) (by first | rfl | (simp only [go_sem]; done)) (by first | (simp only [go_sem]; done) | (simp [pureL, pureD]; done)) ?_
    simp only [go_sem, simprocAttr]
  · rw [leaf_b hk, check_b hk]
    simp only [go_sem, simprocAttr]
    refine callK_pure (args' := [.agg [cellD c]]) (b_check c h) (by first | rfl | (simp only [go_sem]; done)) (by first | (simp only [go_sem]; done) | (simp [pureL, pureD]; done)) ?_
    simp only [go_sem, simprocAttr]
  · rw [leaf_r hk, check_r hk]
    simp only [go_sem, simprocAttr]
    refine callK_pure (args' := [.agg [cellD c]]) (r_check c h) (by first | rfl | (simp only [go_sem]; done)) (by first | (simp only [go_sem]; done) | (simp [pureL, pureD]; done)) ?_
    simp only [go_sem, simprocAttr]
  · rw [leaf_o hk, check_o hk]
    simp only [go_sem, simprocAttr]
    refine callK_pure (args' := [.agg [cellD c]]) (o_check c) (by first | rfl | (simp only [go_sem]; done)) (by first | (simp only [go_sem]; done) | (simp [pureL, pureD]; done)) ?_
    simp only [go_sem, simprocAttr]
set_option maxRecDepth 8000 in
theorem cell_do (c : CellR) (t : TxR) (i : Int) (o : OpR) (hd : t.deps.length = 13) (h : c.sm) : PSpec Tryz.prog CT 14 [cellD c, txD t, .lit (.int .i64 i), opD o] (· = cellD (doC c t i o)) := by
  refine PSpec.of hT Tryz.func14 rfl (by kernel_rfl) rfl rfl ?_
  simp only [Tryz.f14, go_sem, simprocAttr, hd]
  (repeat' (first | ((refine guardK_split (fun hg => ?_) (fun hg => ?_)) <;> (try simp only [go_sem, simprocAttr, hg, hd])) | ((refine condK_split (fun hg => ?_) (fun hg => ?_)) <;> (try simp only [go_sem, simprocAttr, hg, hd])) | ((first | refine callK_pure (cell_check c h) ?_ ?_ ?_ | refine callD_pure (cell_check c h) ?_ ?_ ?_); (iterate 2 (focus (first | rfl | (simp only [go_sem, hd]; done)))); try simp only [go_sem, simprocAttr, hd]) | ((refine Or.inl ⟨by kernel_rfl, ?_⟩) <;> (try simp only [go_sem, simprocAttr, hd])))) <;> (first | done | (first | (rw [doC, if_pos (by simp_all)]; done) | skip))
  have hn : ¬ (i < 1 ∨ checkC c = false) := by simp_all
  have hdo : doC c t i o = actC c t i o := by rw [doC, if_neg hn]
  refine callD_pure (args' := [cellD c]) (cell_of c) (by first | rfl | (simp only [go_sem]; done)) (by first | (simp only [go_sem]; done) | (simp [pureL, pureD]; done)) ?_
  rw [hdo]
  rcases kinds c.kind with hk | hk | hk | hk | hk
  · rw [leaf_n hk, actC, if_pos hk]
    simp only [go_sem, simprocAttr, hd]
    refine callD_pure (args' := [.agg [cellD c], txD t, .lit (.int .i64 i), opD o]) (n_do c t i o hd h) (by first | rfl | (simp only [go_sem, hd]; done)) (by first | (simp only [go_sem, hd]; done) | (simp [pureL, pureD]; done)) ?_
    simp only [go_sem, simprocAttr, hd]
  · rw [leaf_w hk, actC, if_neg (by omega), if_pos hk]
    simp only [go_sem, simprocAttr, hd]
    refine callD_pure (args' := [.agg [cellD c], txD t, .lit (.int .i64 i), opD o]) (w_do c t i o hd h) (by first | rfl | (simp only [go_sem, hd]; done)) (by first | (simp only [go_sem, hd]; done) | (simp [pureL, pureD]; done)) ?_
    simp only [go_sem, simprocAttr, hd]
  · rw [leaf_b hk, actC, if_neg (by omega), if_neg (by omega), if_pos hk]
    simp only [go_sem, simprocAttr, hd]
    refine callD_pure (args' := [.agg [cellD c], txD t, .lit (.int .i64 i), opD o]) (b_do c t i o hd h) (by first | rfl | (simp only [go_sem, hd]; done)) (by first | (simp only [go_sem, hd]; done) | (simp [pureL, pureD]; done)) ?_
    simp only [go_sem, simprocAttr, hd]
  · rw [leaf_r hk, actC, if_neg (by omega), if_neg (by omega), if_neg (by omega), if_pos hk]
    simp only [go_sem, simprocAttr, hd]
    refine callD_pure (args' := [.agg [cellD c], txD t, .lit (.int .i64 i), opD o]) (r_do c t i o hd h) (by first | rfl | (simp only [go_sem, hd]; done)) (by first | (simp only [go_sem, hd]; done) | (simp [pureL, pureD]; done)) ?_
    simp only [go_sem, simprocAttr, hd]
  · rw [leaf_o hk, actC, if_neg (by omega), if_neg (by omega), if_neg (by omega), if_neg (by omega)]
    simp only [go_sem, simprocAttr, hd]
    refine callD_pure (args' := [.agg [cellD c], txD t, .lit (.int .i64 i), opD o]) (o_do c t i o hd h) (by first | rfl | (simp only [go_sem, hd]; done)) (by first | (simp only [go_sem, hd]; done) | (simp [pureL, pureD]; done)) ?_
    simp only [go_sem, simprocAttr, hd]
end Go.Ab
set_option linter.unusedSimpArgs false
namespace Go.Ab
open Go.Proofs

def newC (k : Int) : CellR := ⟨k, 0, [], [], [], []⟩
def newOk (k : Int) : Bool := decide (1 ≤ k) && decide (k ≤ 5)
def newR (k : Int) : CellR := if newOk k then newC k else newC 0
theorem leaf_not {k : Int} : (leafT k = 80) = (newOk k = false) := by
  rcases kinds k with h | h | h | h | h
  · rw [leaf_n h, h]; simp [newOk]
  · rw [leaf_w h]; rcases h with h | h <;> (rw [h]; simp [newOk])
  · rw [leaf_b h, h]; simp [newOk]
  · rw [leaf_r h, h]; simp [newOk]
  · rw [leaf_o h]; simp [newOk]; omega
set_option maxRecDepth 8000 in
theorem cell_new (k : Int) : PSpec Tryz.prog CT 16 [.lit (.int .i64 k)] (· = .tup [cellD (newR k), .lit (.int .i64 (if newOk k then 0 else 2))]) := by
  refine PSpec.of hT Tryz.func16 rfl (by kernel_rfl) rfl rfl ?_
  simp only [Tryz.f16, go_sem, simprocAttr]
  refine callK_pure (args' := [cellD (newC k)]) (cell_of (newC k)) (by first | rfl | (simp only [go_sem]; done)) (by first | (simp only [go_sem]; done) | (simp [pureL, pureD]; done)) ?_
  cases hk : newOk k with
  | true =>
    have hl : (leafT (newC k).kind = 80) = False := by rw [show (newC k).kind = k from rfl, leaf_not, hk]; simp
    simp only [go_sem, simprocAttr, hl]
    rw [newR, hk]; rfl
  | false =>
    have hl : leafT (newC k).kind = 80 := by rw [show (newC k).kind = k from rfl, leaf_not, hk]
    simp only [go_sem, simprocAttr, hl]
    rw [newR, hk]; rfl
def emptyC (c : CellR) : Bool := checkC c && decide (c.base = 0) && decide (c.am.length = 0) && decide (c.wr.length = 0) && decide (c.me.length = 0) && decide (c.el.length = 0)
set_option maxRecDepth 8000 in
theorem cell_empty (c : CellR) (h : c.sm) : PSpec Tryz.prog CT 22 [cellD c] (· = .bool (emptyC c)) := by
  refine PSpec.of hT Tryz.func22 rfl (by kernel_rfl) rfl rfl ?_
  simp only [Tryz.f22, go_sem, simprocAttr]
  (repeat' (first | ((refine guardK_split (fun hg => ?_) (fun hg => ?_)) <;> (try simp only [go_sem, simprocAttr, hg])) | ((refine condK_split (fun hg => ?_) (fun hg => ?_)) <;> (try simp only [go_sem, simprocAttr, hg])) | ((first | refine callK_pure (cell_check c h) ?_ ?_ ?_ | refine callD_pure (cell_check c h) ?_ ?_ ?_); (iterate 2 (focus (first | rfl | (simp only [go_sem]; done)))); try simp only [go_sem, simprocAttr]) | ((refine Or.inl ⟨by kernel_rfl, ?_⟩) <;> (try simp only [go_sem, simprocAttr])))) <;> (first | done | (simp_all [emptyC]; done) | (simp_all [emptyC]; omega) | (simp_all [emptyC]; intros; omega) | (simp_all [emptyC]; grind))
set_option maxRecDepth 8000 in
theorem n_read (c : CellR) (h : c.sm) : PSpec Tryz.prog CT 95 [.agg [cellD c]] (· = valD (readN c)) := by
  refine PSpec.of hT Tryz.func95 rfl (by kernel_rfl) rfl rfl ?_
  simp only [Tryz.f95, go_sem, simprocAttr]
  refine callK_pure (args' := [cellD c]) (counter_read c (by have := h.am; omega)) (by first | rfl | (simp only [go_sem]; done)) (by first | (simp only [go_sem]; done) | (simp [pureL, pureD]; done)) ?_
  simp only [go_sem, simprocAttr]
set_option maxRecDepth 8000 in
theorem w_read (c : CellR) (h : c.sm) : PSpec Tryz.prog CT 128 [.agg [cellD c]] (· = valD (readR c)) := by
  refine PSpec.of hT Tryz.func128 rfl (by kernel_rfl) rfl rfl ?_
  simp only [Tryz.f128, go_sem, simprocAttr]
  refine callK_pure (args' := [cellD c]) (register_read c (by have := h.wr; omega)) (by first | rfl | (simp only [go_sem]; done)) (by first | (simp only [go_sem]; done) | (simp [pureL, pureD]; done)) ?_
  simp only [go_sem, simprocAttr]
set_option maxRecDepth 8000 in
theorem b_read (c : CellR) (h : c.sm) : PSpec Tryz.prog CT 171 [.agg [cellD c]] (· = valD (readS c)) := by
  refine PSpec.of hT Tryz.func171 rfl (by kernel_rfl) rfl rfl ?_
  simp only [Tryz.f171, go_sem, simprocAttr]
  refine callK_pure (args' := [cellD c]) (orset_read c (by have := h.me; omega) (fun m hm => by have := h.mm m hm; omega)) (by first | rfl | (simp only [go_sem]; done)) (by first | (simp only [go_sem]; done) | (simp [pureL, pureD]; done)) ?_
  simp only [go_sem, simprocAttr]
set_option maxRecDepth 8000 in
theorem o_read (c : CellR) : PSpec Tryz.prog CT 90 [.agg [cellD c]] (· = valD ⟨0, 0, []⟩) := by
  refine PSpec.of hT Tryz.func90 rfl (by kernel_rfl) rfl rfl ?_
  simp only [Tryz.f90, go_sem, simprocAttr]
  rfl
set_option maxRecDepth 8000 in
theorem cell_read_n (c : CellR) (h : c.sm) (hk : c.kind = 1) : PSpec Tryz.prog CT 18 [cellD c] (· = valD (readN c)) := by
  refine PSpec.of hT Tryz.func18 rfl (by kernel_rfl) rfl rfl ?_
  simp only [Tryz.f18, go_sem, simprocAttr]
  refine callK_pure (args' := [cellD c]) (cell_of c) (by first | rfl | (simp only [go_sem]; done)) (by first | (simp only [go_sem]; done) | (simp [pureL, pureD]; done)) ?_
  rw [leaf_n hk]
  simp only [go_sem, simprocAttr]
  refine callK_pure (args' := [.agg [cellD c]]) (n_read c h) (by first | rfl | (simp only [go_sem]; done)) (by first | (simp only [go_sem]; done) | (simp [pureL, pureD]; done)) ?_
  simp only [go_sem, simprocAttr]
set_option maxRecDepth 8000 in
theorem cell_read_b (c : CellR) (h : c.sm) (hk : c.kind = 4) : PSpec Tryz.prog CT 18 [cellD c] (· = valD (readS c)) := by
  refine PSpec.of hT Tryz.func18 rfl (by kernel_rfl) rfl rfl ?_
  simp only [Tryz.f18, go_sem, simprocAttr]
  refine callK_pure (args' := [cellD c]) (cell_of c) (by first | rfl | (simp only [go_sem]; done)) (by first | (simp only [go_sem]; done) | (simp [pureL, pureD]; done)) ?_
  rw [leaf_b hk]
  simp only [go_sem, simprocAttr]
  refine callK_pure (args' := [.agg [cellD c]]) (b_read c h) (by first | rfl | (simp only [go_sem]; done)) (by first | (simp only [go_sem]; done) | (simp [pureL, pureD]; done)) ?_
  simp only [go_sem, simprocAttr]
end Go.Ab
