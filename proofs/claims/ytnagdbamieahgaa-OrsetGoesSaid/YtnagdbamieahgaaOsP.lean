/- Sets: how great they become; what must come at any rate. Conditions: none. -/
import Derived.Test.YtnagdbamieahgaaOsL
import Derived.Test.YtnagdbamieahgaaReB
import Derived.Test.YtnagdbamieahgaaInA
set_option linter.unusedSimpArgs false
namespace Go.Ab
open Go.Proofs

/-- A set that is not great. -/
def SmS (a b : Nat) (c : CellR) : Prop := c.me.length ≤ a ∧ ∀ m ∈ c.me, m.marks.length ≤ b
def SideS (c d : CellR) : Prop := d.kind = c.kind ∧ d.base = c.base ∧ d.am = c.am ∧ d.wr = c.wr ∧ d.el = c.el
theorem addStep_sm {s : ByteArray} {own : MarkR} {b : Nat} {o : List MemberR × Bool} {m : MemberR} (hm : m.marks.length ≤ b) (ho : ∀ x ∈ o.1, x.marks.length ≤ b + 1) : ∀ x ∈ (addStep s own o m).1, x.marks.length ≤ b + 1 := by
  intro x hx
  unfold addStep at hx
  split at hx
  · rcases List.mem_append.1 hx with h | h
    · exact ho x h
    · rw [List.mem_singleton] at h; subst h
      have := with_len m.marks own; simp only; omega
  · split at hx
    · rcases List.mem_append.1 hx with h | h
      · rcases List.mem_append.1 h with h | h
        · exact ho x h
        · rw [List.mem_singleton] at h; subst h; simp
      · rw [List.mem_singleton] at h; subst h; omega
    · rcases List.mem_append.1 hx with h | h
      · exact ho x h
      · rw [List.mem_singleton] at h; subst h; omega
theorem addFold_sm {s : ByteArray} {own : MarkR} {b : Nat} : ∀ (l : List MemberR) (o : List MemberR × Bool), (∀ x ∈ l, x.marks.length ≤ b) → (∀ x ∈ o.1, x.marks.length ≤ b + 1) → ∀ x ∈ (l.foldl (addStep s own) o).1, x.marks.length ≤ b + 1
  | [], o, _, ho => ho
  | m :: r, o, hl, ho => addFold_sm r _ (fun x hx => hl x (List.mem_cons_of_mem _ hx)) (addStep_sm (hl m (List.mem_cons_self ..)) ho)
theorem addS_sm {a b : Nat} {c : CellR} (h : SmS a b c) (t : TxR) (i : Int) (s : ByteArray) : SmS (2 * a + 1) (b + 1) (addS c t i s) := by
  unfold addS
  split
  · exact ⟨by have := h.1; omega, fun m hm => by have := h.2 m hm; omega⟩
  · refine ⟨?_, ?_⟩
    · have := addMe_len c.me s ⟨t.peer, t.seq, i⟩
      have := h.1
      simp only; omega
    · intro m hm
      simp only [addMe, addEnd] at hm
      have hf := addFold_sm (s := s) (own := ⟨t.peer, t.seq, i⟩) c.me ([], false) h.2 (by simp)
      split at hm
      · exact hf m hm
      · rcases List.mem_append.1 hm with hm | hm
        · exact hf m hm
        · rw [List.mem_singleton] at hm; subst hm; simp
theorem woMe_len {t : TxR} {i : Int} {s : ByteArray} {all : Bool} {m y : MemberR} (h : woMe t i s all m = some y) : y.marks.length ≤ m.marks.length := by
  unfold woMe at h
  split at h
  · split at h
    · cases h
    · cases h; exact kept_len _ _
  · cases h; exact Nat.le_refl _
theorem woS_sm {a b : Nat} {c : CellR} (h : SmS a b c) (t : TxR) (i : Int) (s : ByteArray) (all : Bool) : SmS a b (woS c t i s all) := by
  refine ⟨Nat.le_trans (fm_len _ _) h.1, fun m hm => ?_⟩
  obtain ⟨x, hx, hy⟩ := List.mem_filterMap.1 hm
  exact Nat.le_trans (woMe_len hy) (h.2 x hx)
theorem delS_sm {a b : Nat} {c : CellR} (h : SmS a b c) (t : TxR) (i : Int) (s : ByteArray) : SmS a b (delS c t i s) := by
  unfold delS; split
  · exact h
  · exact woS_sm h _ _ _ _
theorem clearS_sm {a b : Nat} {c : CellR} (h : SmS a b c) (t : TxR) (i : Int) : SmS a b (clearS c t i) := by
  unfold clearS; split
  · exact h
  · exact woS_sm h _ _ _ _
theorem foldS_sm {a b : Nat} {c : CellR} (h : SmS a b c) (cut : List Int) : SmS a b (foldS c cut) := by
  unfold foldS; split
  · exact h
  · refine ⟨by simp only [List.length_map]; exact h.1, fun m hm => ?_⟩
    obtain ⟨x, hx, rfl⟩ := List.mem_map.1 hm
    exact Nat.le_trans (kept_len _ _) (h.2 x hx)
theorem addS_side (c : CellR) (t : TxR) (i : Int) (s : ByteArray) : SideS c (addS c t i s) := by
  unfold addS; split <;> exact ⟨rfl, rfl, rfl, rfl, rfl⟩
theorem delS_side (c : CellR) (t : TxR) (i : Int) (s : ByteArray) : SideS c (delS c t i s) := by
  unfold delS; split <;> exact ⟨rfl, rfl, rfl, rfl, rfl⟩
theorem clearS_side (c : CellR) (t : TxR) (i : Int) : SideS c (clearS c t i) := by
  unfold clearS; split <;> exact ⟨rfl, rfl, rfl, rfl, rfl⟩
theorem foldS_side (c : CellR) (cut : List Int) : SideS c (foldS c cut) := by
  unfold foldS; split <;> exact ⟨rfl, rfl, rfl, rfl, rfl⟩
theorem readS_len (c : CellR) : (readS c).texts.length ≤ c.me.length := by
  unfold readS; split <;> simp

def t10 : TxR := ⟨1, 1, zeros 13, 0, []⟩
def u10 : TxR := ⟨2, 1, zeros 13, 0, []⟩
def v10 : TxR := ⟨3, 1, (zeros 13).set 1 1, 0, []⟩
def c10 : CellR := ⟨4, 0, [], [], [], []⟩
def x10 : CellR := addS c10 t10 1 a09
def y10 : CellR := addS x10 t10 2 b09
def f10 : CellR := ⟨4, 0, [], [], [⟨a09, true, []⟩, ⟨b09, true, []⟩], []⟩
set_option maxRecDepth 8000 in
set_option maxHeartbeats 4000000 in
theorem heads10 : PSpec Try.prog CT 34 [] (· = .bool true) := by
  refine PSpec.of hT Try.func34 rfl (by kernel_rfl) rfl rfl ?_
  simp only [Try.f34, go_sem, Nat.reduceAdd, Nat.reduceSub, Nat.reduceMul, Nat.reduceLT, Nat.reduceLeDiff, ↓reduceIte, reduceCtorEq, Nat.reduceEqDiff, Int.reduceToNat, Int.reduceLT, Int.reduceLE, Int.reduceEq, beq_self_eq_true]
  have d1 : t10.deps.length = 13 := rfl
  have d2 : u10.deps.length = 13 := rfl
  have d3 : v10.deps.length = 13 := rfl
  have m0 : SmS 0 0 c10 := ⟨by decide, by simp [c10]⟩
  have m1 := addS_sm m0 t10 1 a09
  have m2 := addS_sm m1 t10 2 b09
  rw [show addS c10 t10 1 a09 = x10 from rfl] at m1 m2
  rw [show addS x10 t10 2 b09 = y10 from rfl] at m2
  have m3 : SmS 2 0 f10 := ⟨by decide, by simp [f10]⟩
  have m4 := delS_sm m1 u10 1 a09
  have m5 := delS_sm m1 v10 1 a09
  have r1 : (readS (delS x10 u10 1 a09)).texts = [a09] := by decide +kernel
  have r2 : (readS (delS x10 v10 1 a09)).texts = [] := by decide +kernel
  have r3 : (readS y10).texts = [a09, b09] := by decide +kernel
  have e3 : foldS y10 v10.deps = f10 := by kernel_rfl
  have e4 : (clearS f10 v10 1).me.length = 0 := by decide +kernel
  have e5 : checkS f10 = true := by decide +kernel
  have f1 : addS c10 t10 1 a09 = x10 := rfl
  have f2 : addS x10 t10 2 b09 = y10 := rfl
  generalize x10 = x at *
  generalize y10 = y at *
  refine callK_pure (args' := [cellD c10, txD t10, .lit (.int .i64 1), .lit (.string a09)]) (orset_add c10 t10 1 a09 d1 (by have := m0.1; omega) (fun m h => by have := m0.2 m h; omega)) (by kernel_rfl) ⟨pure_cell _, pure_tx _, trivial, trivial, trivial⟩ ?_
  rw [f1]
  simp only [go_sem, Nat.reduceAdd, Nat.reduceSub, Nat.reduceMul, Nat.reduceLT, Nat.reduceLeDiff, ↓reduceIte, reduceCtorEq, Nat.reduceEqDiff, Int.reduceToNat, Int.reduceLT, Int.reduceLE, Int.reduceEq, beq_self_eq_true]
  refine callK_pure (args' := [cellD x, txD t10, .lit (.int .i64 2), .lit (.string b09)]) (orset_add x t10 2 b09 d1 (by have := m1.1; omega) (fun m h => by have := m1.2 m h; omega)) (by kernel_rfl) ⟨pure_cell _, pure_tx _, trivial, trivial, trivial⟩ ?_
  rw [f2]
  simp only [go_sem, Nat.reduceAdd, Nat.reduceSub, Nat.reduceMul, Nat.reduceLT, Nat.reduceLeDiff, ↓reduceIte, reduceCtorEq, Nat.reduceEqDiff, Int.reduceToNat, Int.reduceLT, Int.reduceLE, Int.reduceEq, beq_self_eq_true]
  refine callK_pure (args' := [cellD y, ints v10.deps]) (orset_fold y v10.deps d3 (by have := m2.1; omega) (fun m h => by have := m2.2 m h; omega)) (by kernel_rfl) ⟨pure_cell _, by first | trivial | exact pureL_all fun d hd => by (obtain ⟨n, _, rfl⟩ := List.mem_map.1 hd; trivial), trivial⟩ ?_
  rw [e3]
  simp only [go_sem, Nat.reduceAdd, Nat.reduceSub, Nat.reduceMul, Nat.reduceLT, Nat.reduceLeDiff, ↓reduceIte, reduceCtorEq, Nat.reduceEqDiff, Int.reduceToNat, Int.reduceLT, Int.reduceLE, Int.reduceEq, beq_self_eq_true]
  refine callK_pure (args' := [cellD x, txD u10, .lit (.int .i64 1), .lit (.string a09)]) (orset_del x u10 1 a09 d2 (by have := m1.1; omega) (fun m h => by have := m1.2 m h; omega)) (by kernel_rfl) ⟨pure_cell _, pure_tx _, trivial, trivial, trivial⟩ ?_
  simp only [go_sem, Nat.reduceAdd, Nat.reduceSub, Nat.reduceMul, Nat.reduceLT, Nat.reduceLeDiff, ↓reduceIte, reduceCtorEq, Nat.reduceEqDiff, Int.reduceToNat, Int.reduceLT, Int.reduceLE, Int.reduceEq, beq_self_eq_true]
  refine callK_pure (args' := [cellD (delS x u10 1 a09)]) (orset_read _ (by have := m4.1; omega) (fun m h => by have := m4.2 m h; omega)) (by kernel_rfl) ⟨pure_cell _, trivial⟩ ?_
  simp only [go_sem, Nat.reduceAdd, Nat.reduceSub, Nat.reduceMul, Nat.reduceLT, Nat.reduceLeDiff, ↓reduceIte, reduceCtorEq, Nat.reduceEqDiff, Int.reduceToNat, Int.reduceLT, Int.reduceLE, Int.reduceEq, beq_self_eq_true, r1, List.map_cons, List.map_nil]
  refine callK_pure (args' := [textsD [a09] .no, textsD [a09] .no]) (ref_texts08 _ (by decide)) (by kernel_rfl) ⟨trivial, trivial, trivial⟩ ?_
  simp only [go_sem, Nat.reduceAdd, Nat.reduceSub, Nat.reduceMul, Nat.reduceLT, Nat.reduceLeDiff, ↓reduceIte, reduceCtorEq, Nat.reduceEqDiff, Int.reduceToNat, Int.reduceLT, Int.reduceLE, Int.reduceEq, beq_self_eq_true]
  refine callK_pure (args' := [cellD x, txD v10, .lit (.int .i64 1), .lit (.string a09)]) (orset_del x v10 1 a09 d3 (by have := m1.1; omega) (fun m h => by have := m1.2 m h; omega)) (by kernel_rfl) ⟨pure_cell _, pure_tx _, trivial, trivial, trivial⟩ ?_
  simp only [go_sem, Nat.reduceAdd, Nat.reduceSub, Nat.reduceMul, Nat.reduceLT, Nat.reduceLeDiff, ↓reduceIte, reduceCtorEq, Nat.reduceEqDiff, Int.reduceToNat, Int.reduceLT, Int.reduceLE, Int.reduceEq, beq_self_eq_true]
  refine callK_pure (args' := [cellD (delS x v10 1 a09)]) (orset_read _ (by have := m5.1; omega) (fun m h => by have := m5.2 m h; omega)) (by kernel_rfl) ⟨pure_cell _, trivial⟩ ?_
  simp only [go_sem, Nat.reduceAdd, Nat.reduceSub, Nat.reduceMul, Nat.reduceLT, Nat.reduceLeDiff, ↓reduceIte, reduceCtorEq, Nat.reduceEqDiff, Int.reduceToNat, Int.reduceLT, Int.reduceLE, Int.reduceEq, beq_self_eq_true, r2, List.map_nil, List.length_nil, Int.natCast_zero, Int.cast_ofNat_Int, decide_true]
  refine callK_pure (args' := [cellD y]) (orset_read y (by have := m2.1; omega) (fun m h => by have := m2.2 m h; omega)) (by kernel_rfl) ⟨pure_cell _, trivial⟩ ?_
  simp only [go_sem, Nat.reduceAdd, Nat.reduceSub, Nat.reduceMul, Nat.reduceLT, Nat.reduceLeDiff, ↓reduceIte, reduceCtorEq, Nat.reduceEqDiff, Int.reduceToNat, Int.reduceLT, Int.reduceLE, Int.reduceEq, beq_self_eq_true, r3, List.map_cons, List.map_nil]
  refine callK_pure (args' := [textsD [a09, b09] .no, textsD [a09, b09] .no]) (ref_texts08 _ (by decide)) (by kernel_rfl) ⟨trivial, trivial, trivial⟩ ?_
  have g1 : f10.me.length = 2 := rfl
  have g2 : (f10.me.map meD)[0]? = some (meD ⟨a09, true, []⟩) := rfl
  generalize f10 = f at *
  simp only [go_sem, Nat.reduceAdd, Nat.reduceSub, Nat.reduceMul, Nat.reduceLT, Nat.reduceLeDiff, ↓reduceIte, reduceCtorEq, Nat.reduceEqDiff, Int.reduceToNat, Int.reduceLT, Int.reduceLE, Int.reduceEq, beq_self_eq_true, g1, g2, List.map_nil, List.length_nil, Int.natCast_zero, Int.cast_ofNat_Int, decide_true]
  refine callK_pure (args' := [cellD f, txD v10, .lit (.int .i64 1)]) (orset_clear f v10 1 d3 (by have := m3.1; omega) (fun m h => by have := m3.2 m h; omega)) (by kernel_rfl) ⟨pure_cell _, pure_tx _, trivial, trivial⟩ ?_
  simp only [go_sem, Nat.reduceAdd, Nat.reduceSub, Nat.reduceMul, Nat.reduceLT, Nat.reduceLeDiff, ↓reduceIte, reduceCtorEq, Nat.reduceEqDiff, Int.reduceToNat, Int.reduceLT, Int.reduceLE, Int.reduceEq, beq_self_eq_true, e4, Int.natCast_zero, Int.cast_ofNat_Int, decide_true]
  refine callK_pure (args' := [cellD f]) (orset_check f (by have := m3.1; omega) (fun m h => by have := m3.2 m h; omega)) (by kernel_rfl) ⟨pure_cell _, trivial⟩ ?_
  simp only [go_sem, Nat.reduceAdd, Nat.reduceSub, Nat.reduceMul, Nat.reduceLT, Nat.reduceLeDiff, ↓reduceIte, reduceCtorEq, Nat.reduceEqDiff, Int.reduceToNat, Int.reduceLT, Int.reduceLE, Int.reduceEq, beq_self_eq_true, e5]
end Go.Ab
