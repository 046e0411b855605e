/- Cells of whichever kind: two ops that have not seen each other come to one cell in either order. Conditions: none. -/
import Derived.Test.YtehcjnendfpbaaaGreatCeH
import Derived.Test.YtehcjnendfpbaaaGreatCeB
import Derived.Test.YtehcjnendfpbaaaGreatReW
import Derived.Test.YtehcjnendfpbaaaGreatCeE
import Derived.Test.YtehcjnendfpbaaaGreatOsQ
set_option linter.unusedSimpArgs false
namespace Go.Ab
open Go.Proofs

theorem doN_side (c : CellR) (t : TxR) (i n : Int) : (doN c t i n).kind = c.kind ∧ (doN c t i n).base = c.base ∧ (doN c t i n).wr = c.wr ∧ (doN c t i n).me = c.me ∧ (doN c t i n).el = c.el ∧ (doN c t i n).am.length ≤ c.am.length + 1 := by
  unfold doN
  split
  · exact ⟨rfl, rfl, rfl, rfl, rfl, by omega⟩
  · split
    · exact ⟨rfl, rfl, rfl, rfl, rfl, by omega⟩
    · exact ⟨rfl, rfl, rfl, rfl, rfl, by simp only [insB_len]; omega⟩
theorem doR_kind (c : CellR) (t : TxR) (i : Int) (s : ByteArray) : (doR c t i s).kind = c.kind := by
  unfold doR
  split
  · rfl
  · split
    · rfl
    · exact (clearR_shape c t i).1
theorem insQ_side (c : CellR) (t : TxR) (i : Int) (m : MarkR) (s : ByteArray) : (insQ c t i m s).kind = c.kind ∧ (insQ c t i m s).am = c.am ∧ (insQ c t i m s).wr = c.wr ∧ (insQ c t i m s).me = c.me ∧ (insQ c t i m s).el.length ≤ c.el.length + 1 ∧ ∀ b, (∀ e ∈ c.el, e.gone.length ≤ b) → ∀ e ∈ (insQ c t i m s).el, e.gone.length ≤ b := by
  unfold insQ
  split
  · exact ⟨rfl, rfl, rfl, rfl, by omega, fun _ h => h⟩
  · split
    · refine ⟨rfl, rfl, rfl, rfl, by simp only [insB_len]; omega, fun b h e he => ?_⟩
      rcases mem_insB.1 he with rfl | he
      · simp
      · exact h e he
    · exact ⟨rfl, rfl, rfl, rfl, by omega, fun _ h => h⟩
theorem takeQ_side (c : CellR) (t : TxR) (i : Int) (p : MarkR → Bool) : (takeQ c t i p).kind = c.kind ∧ (takeQ c t i p).am = c.am ∧ (takeQ c t i p).wr = c.wr ∧ (takeQ c t i p).me = c.me ∧ (takeQ c t i p).el.length ≤ c.el.length ∧ ∀ b, (∀ e ∈ c.el, e.gone.length ≤ b) → ∀ e ∈ (takeQ c t i p).el, e.gone.length ≤ b + 1 := by
  unfold takeQ
  split
  · exact ⟨rfl, rfl, rfl, rfl, by omega, fun b h e he => by have := h e he; omega⟩
  · refine ⟨rfl, rfl, rfl, rfl, by simp, fun b h e he => ?_⟩
    obtain ⟨y, hy, rfl⟩ := List.mem_map.1 he
    have h1 := h y hy
    unfold takeE
    split
    · have := with_len y.gone ⟨t.peer, t.seq, i⟩
      simp only; omega
    · omega
structure SmB (a b : Nat) (c : CellR) : Prop where
  am : c.am.length ≤ a
  wr : c.wr.length ≤ a
  me : c.me.length ≤ a
  mm : ∀ m ∈ c.me, m.marks.length ≤ b
  el : c.el.length ≤ a
  eg : ∀ e ∈ c.el, e.gone.length ≤ b
theorem SmB.sm {a b : Nat} {c : CellR} (h : SmB a b c) (ha : a < 10000) (hb : b < 10000) : c.sm :=
  ⟨by have := h.am; omega, by have := h.wr; omega, by have := h.me; omega, fun m hm => by have := h.mm m hm; omega, by have := h.el; omega, fun e he => by have := h.eg e he; omega⟩
theorem SmB.of_me {a b : Nat} {c d : CellR} (h : SmB a b c) (hs : SideS c d) (hm : SmS (2 * a + 1) (b + 1) d) : SmB (2 * a + 1) (b + 1) d := by
  obtain ⟨e1, e2, e3, e4, e5⟩ := hs
  exact ⟨by rw [e3]; have := h.am; omega, by rw [e4]; have := h.wr; omega, hm.1, hm.2, by rw [e5]; have := h.el; omega, fun e he => by rw [e5] at he; have := h.eg e he; omega⟩
theorem SmB.same {a b : Nat} {c : CellR} (h : SmB a b c) : SmB (2 * a + 1) (b + 1) c :=
  ⟨by have := h.am; omega, by have := h.wr; omega, by have := h.me; omega, fun m hm => by have := h.mm m hm; omega, by have := h.el; omega, fun e he => by have := h.eg e he; omega⟩
theorem actC_sm {a b : Nat} {c : CellR} (h : SmB a b c) (t : TxR) (i : Int) (o : OpR) : SmB (2 * a + 1) (b + 1) (actC c t i o) := by
  have hs : SmS a b c := ⟨h.me, h.mm⟩
  unfold actC
  split
  · split
    · obtain ⟨_, _, e1, e2, e3, e4⟩ := doN_side c t i o.n
      exact ⟨by have := h.am; omega, by rw [e1]; have := h.wr; omega, by rw [e2]; have := h.me; omega, fun m hm => by rw [e2] at hm; have := h.mm m hm; omega, by rw [e3]; have := h.el; omega, fun e he => by rw [e3] at he; have := h.eg e he; omega⟩
    · exact h.same
  split
  · split
    · obtain ⟨e1, e2, e3⟩ := doR_rest c t i o.text
      have e4 := doR_wr c t i o.text
      exact ⟨by rw [e1]; have := h.am; omega, by have := h.wr; omega, by rw [e2]; have := h.me; omega, fun m hm => by rw [e2] at hm; have := h.mm m hm; omega, by rw [e3]; have := h.el; omega, fun e he => by rw [e3] at he; have := h.eg e he; omega⟩
    · exact h.same
  split
  · split
    · exact h.of_me (addS_side c t i o.text) (addS_sm hs t i o.text)
    · split
      · have := delS_sm hs t i o.text
        exact h.of_me (delS_side c t i o.text) ⟨by have := this.1; omega, fun m hm => by have := this.2 m hm; omega⟩
      · exact h.same
  split
  · split
    · obtain ⟨_, e1, e2, e3, e4, e5⟩ := insQ_side c t i ⟨o.rp, o.rs, o.ri⟩ o.text
      have e6 := e5 b h.eg
      exact ⟨by rw [e1]; have := h.am; omega, by rw [e2]; have := h.wr; omega, by rw [e3]; have := h.me; omega, fun m hm => by rw [e3] at hm; have := h.mm m hm; omega, by have := h.el; omega, fun e he => by have := e6 e he; omega⟩
    · split
      · obtain ⟨_, e1, e2, e3, e4, e5⟩ := takeQ_side c t i (sameR ⟨o.rp, o.rs, o.ri⟩)
        have e6 := e5 b h.eg
        exact ⟨by rw [delQ, e1]; have := h.am; omega, by rw [delQ, e2]; have := h.wr; omega, by rw [delQ, e3]; have := h.me; omega, fun m hm => by rw [delQ, e3] at hm; have := h.mm m hm; omega, by rw [delQ]; have := h.el; omega, fun e he => e6 e he⟩
      · exact h.same
  · exact h.same
theorem doC_sm {a b : Nat} {c : CellR} (h : SmB a b c) (t : TxR) (i : Int) (o : OpR) : SmB (2 * a + 1) (b + 1) (doC c t i o) := by
  unfold doC
  split
  · exact h.same
  · exact actC_sm h t i o
/-- What may not be stays as it is, whoever does something. -/
theorem doC_act (c : CellR) (t : TxR) (o : OpR) : doC c t 1 o = actC c t 1 o := by
  unfold doC
  split
  · rename_i h
    have hc : checkC c = false := h.resolve_left (by omega)
    unfold actC
    split
    · rename_i hk
      rw [check_n hk] at hc
      split
      · rw [doN, if_pos (.inr (.inr hc))]
      · rfl
    split
    · rename_i hk
      rw [check_w hk] at hc
      split
      · rw [doR, if_pos (.inl hc)]
      · rfl
    split
    · rename_i hk
      rw [check_b hk] at hc
      split
      · rw [add_bad hc]
      · split
        · rw [del_bad hc]
        · rfl
    split
    · rename_i hk
      rw [check_r hk] at hc
      split
      · rw [insQ_bad hc]
      · split
        · rw [delQ, takeQ_no hc]
        · rfl
    · rfl
  · rfl
theorem addS_kind (c : CellR) (t : TxR) (s : ByteArray) : (addS c t 1 s).kind = c.kind := (addS_side c t 1 s).1
theorem delS_kind (c : CellR) (t : TxR) (s : ByteArray) : (delS c t 1 s).kind = c.kind := (delS_side c t 1 s).1
theorem insQ_kind (c : CellR) (t : TxR) (m : MarkR) (s : ByteArray) : (insQ c t 1 m s).kind = c.kind := (insQ_side c t 1 m s).1
theorem delQ_kind (c : CellR) (t : TxR) (m : MarkR) : (delQ c t 1 m).kind = c.kind := (takeQ_side c t 1 _).1
theorem doR_comm {c : CellR} {t u : TxR} {a b : ByteArray} (hne : ¬ (t.peer = u.peer ∧ t.seq = u.seq)) (h1 : before t.peer t.seq 1 u 1 = false) (h2 : before u.peer u.seq 1 t 1 = false)
    (hx : ∀ w ∈ c.wr, w.m ≠ ⟨t.peer, t.seq, 1⟩) (hy : ∀ w ∈ c.wr, w.m ≠ ⟨u.peer, u.seq, 1⟩) : doR (doR c t 1 a) u 1 b = doR (doR c u 1 b) t 1 a := by
  cases hc : checkR c with
  | false =>
    have e : ∀ (t : TxR) (s : ByteArray), doR c t 1 s = c := fun t s => by rw [doR, if_pos (.inl hc)]
    simp only [e]
  | true =>
    have no : ∀ (c : CellR) (t : TxR) (s : ByteArray), ¬ (s.size : Int) ≤ 64 → doR c t 1 s = c := fun c t s h => by rw [doR, if_pos (.inr (.inl (by omega)))]
    by_cases ha : (a.size : Int) ≤ 64
    · by_cases hb : (b.size : Int) ≤ 64
      · exact (doR_apart hc ha hb hne h1 h2 hx hy).1
      · simp only [no _ u b hb]
    · simp only [no _ t a ha]
theorem act_n {c : CellR} (h : c.kind = 1) (t : TxR) (i : Int) (o : OpR) : actC c t i o = if o.act = 1 then doN c t i o.n else c := by rw [actC, if_pos h]
theorem act_w {c : CellR} (h : c.kind = 2 ∨ c.kind = 3) (t : TxR) (i : Int) (o : OpR) : actC c t i o = if o.act = 3 then doR c t i o.text else c := by rw [actC, if_neg (by omega), if_pos h]
theorem act_b {c : CellR} (h : c.kind = 4) (t : TxR) (i : Int) (o : OpR) : actC c t i o = if o.act = 1 then addS c t i o.text else if o.act = 2 then delS c t i o.text else c := by rw [actC, if_neg (by omega), if_neg (by omega), if_pos h]
theorem act_r {c : CellR} (h : c.kind = 5) (t : TxR) (i : Int) (o : OpR) : actC c t i o = if o.act = 4 then insQ c t i ⟨o.rp, o.rs, o.ri⟩ o.text else if o.act = 2 then delQ c t i ⟨o.rp, o.rs, o.ri⟩ else c := by rw [actC, if_neg (by omega), if_neg (by omega), if_neg (by omega), if_pos h]
theorem act_o {c : CellR} (h : ¬ (c.kind = 1 ∨ c.kind = 2 ∨ c.kind = 3 ∨ c.kind = 4 ∨ c.kind = 5)) (t : TxR) (i : Int) (o : OpR) : actC c t i o = c := by rw [actC, if_neg (by omega), if_neg (by omega), if_neg (by omega), if_neg (by omega)]
theorem doC_apart {c : CellR} {t u : TxR} {o p : OpR} (hne : ¬ (t.peer = u.peer ∧ t.seq = u.seq)) (h1 : before t.peer t.seq 1 u 1 = false) (h2 : before u.peer u.seq 1 t 1 = false)
    (ho : (⟨o.rp, o.rs, o.ri⟩ : MarkR) ≠ ⟨u.peer, u.seq, 1⟩) (hp : (⟨p.rp, p.rs, p.ri⟩ : MarkR) ≠ ⟨t.peer, t.seq, 1⟩) (hx : thereC c ⟨t.peer, t.seq, 1⟩ = false) (hy : thereC c ⟨u.peer, u.seq, 1⟩ = false) :
    doC (doC c t 1 o) u 1 p = doC (doC c u 1 p) t 1 o := by
  obtain ⟨x1, x2, x3⟩ := there_no hx
  obtain ⟨y1, y2, y3⟩ := there_no hy
  simp only [doC_act]
  rcases kinds c.kind with hk | hk | hk | hk | hk
  · have k2 : ∀ (t : TxR) (n : Int), (doN c t 1 n).kind = 1 := fun t n => by rw [(doN_side c t 1 n).1, hk]
    rw [act_n hk, act_n hk]
    split <;> split
    · rw [act_n (k2 _ _), act_n (k2 _ _), if_pos (by assumption), if_pos (by assumption)]
      exact doN_apart hne x1 y1
    · rw [act_n (k2 _ _), act_n hk, if_neg (by assumption), if_pos (by assumption)]
    · rw [act_n (k2 _ _), act_n hk, if_pos (by assumption), if_neg (by assumption)]
    · rw [act_n hk, act_n hk, if_neg (by assumption), if_neg (by assumption)]
  · have k2 : ∀ (t : TxR) (s : ByteArray), (doR c t 1 s).kind = 2 ∨ (doR c t 1 s).kind = 3 := fun t s => by rw [doR_kind]; exact hk
    rw [act_w hk, act_w hk]
    split <;> split
    · rw [act_w (k2 _ _), act_w (k2 _ _), if_pos (by assumption), if_pos (by assumption)]
      exact doR_comm hne h1 h2 x2 y2
    · rw [act_w (k2 _ _), act_w hk, if_neg (by assumption), if_pos (by assumption)]
    · rw [act_w (k2 _ _), act_w hk, if_pos (by assumption), if_neg (by assumption)]
    · rw [act_w hk, act_w hk, if_neg (by assumption), if_neg (by assumption)]
  · have k2 : ∀ (t : TxR) (s : ByteArray), (addS c t 1 s).kind = 4 := fun t s => by rw [addS_kind, hk]
    have k3 : ∀ (t : TxR) (s : ByteArray), (delS c t 1 s).kind = 4 := fun t s => by rw [delS_kind, hk]
    simp only [act_b hk]
    by_cases a1 : o.act = 1
    · by_cases b1 : p.act = 1
      · simp only [if_pos a1, if_pos b1, act_b (k2 _ _)]; exact add_add
      · by_cases b2 : p.act = 2
        · simp only [if_pos a1, if_neg b1, if_pos b2, act_b (k2 _ _), act_b (k3 _ _)]; exact add_del h1
        · simp only [if_pos a1, if_neg b1, if_neg b2, act_b (k2 _ _), act_b hk]
    · by_cases a2 : o.act = 2
      · by_cases b1 : p.act = 1
        · simp only [if_neg a1, if_pos a2, if_pos b1, act_b (k2 _ _), act_b (k3 _ _)]; exact (add_del h2).symm
        · by_cases b2 : p.act = 2
          · simp only [if_neg a1, if_pos a2, if_neg b1, if_pos b2, act_b (k3 _ _)]; exact del_del_s
          · simp only [if_neg a1, if_pos a2, if_neg b1, if_neg b2, act_b (k3 _ _), act_b hk]
      · by_cases b1 : p.act = 1
        · simp only [if_neg a1, if_neg a2, if_pos b1, act_b (k2 _ _), act_b hk]
        · by_cases b2 : p.act = 2
          · simp only [if_neg a1, if_neg a2, if_neg b1, if_pos b2, act_b (k3 _ _), act_b hk]
          · simp only [if_neg a1, if_neg a2, if_neg b1, if_neg b2, act_b hk]
  · have k2 : ∀ (t : TxR) (m : MarkR) (s : ByteArray), (insQ c t 1 m s).kind = 5 := fun t m s => by rw [insQ_kind, hk]
    have k3 : ∀ (t : TxR) (m : MarkR), (delQ c t 1 m).kind = 5 := fun t m => by rw [delQ_kind, hk]
    simp only [act_r hk]
    by_cases a1 : o.act = 4
    · by_cases b1 : p.act = 4
      · simp only [if_pos a1, if_pos b1, act_r (k2 _ _ _)]; exact ins_ins hne ho hp
      · by_cases b2 : p.act = 2
        · simp only [if_pos a1, if_neg b1, if_pos b2, act_r (k2 _ _ _), act_r (k3 _ _)]; exact ins_del hp h2
        · simp only [if_pos a1, if_neg b1, if_neg b2, act_r (k2 _ _ _), act_r hk]
    · by_cases a2 : o.act = 2
      · by_cases b1 : p.act = 4
        · simp only [if_neg a1, if_pos a2, if_pos b1, act_r (k2 _ _ _), act_r (k3 _ _)]; exact (ins_del ho h1).symm
        · by_cases b2 : p.act = 2
          · simp only [if_neg a1, if_pos a2, if_neg b1, if_pos b2, act_r (k3 _ _)]; exact del_del
          · simp only [if_neg a1, if_pos a2, if_neg b1, if_neg b2, act_r (k3 _ _), act_r hk]
      · by_cases b1 : p.act = 4
        · simp only [if_neg a1, if_neg a2, if_pos b1, act_r (k2 _ _ _), act_r hk]
        · by_cases b2 : p.act = 2
          · simp only [if_neg a1, if_neg a2, if_neg b1, if_pos b2, act_r (k3 _ _), act_r hk]
          · simp only [if_neg a1, if_neg a2, if_neg b1, if_neg b2, act_r hk]
  · simp only [act_o hk]
end Go.Ab
open Nat (reduceAdd reduceSub reduceMul reduceLT reduceLeDiff reduceEqDiff)
open Int (reduceToNat reduceLE reduceEq)
set_option linter.unusedSimpArgs false
namespace Go.Ab
open Go.Proofs

def newC (k : Int) : CellR := ⟨k, 0, [], [], [], []⟩
def newOk (k : Int) : Bool := decide (1 ≤ k) && decide (k ≤ 5)
def newR (k : Int) : CellR := if newOk k then newC k else newC 0
theorem leaf_not {k : Int} : (leafT k = 80) = (newOk k = false) := by
  rcases kinds k with h | h | h | h | h
  · rw [leaf_n h, h]; simp [newOk]
  · rw [leaf_w h]; rcases h with h | h <;> (rw [h]; simp [newOk])
  · rw [leaf_b h, h]; simp [newOk]
  · rw [leaf_r h, h]; simp [newOk]
  · rw [leaf_o h]; simp [newOk]; omega
set_option maxRecDepth 8000 in
theorem cell_new (k : Int) : PSpec Tryz.prog CT 16 [.lit (.int .i64 k)] (· = .tup [cellD (newR k), .lit (.int .i64 (if newOk k then 0 else 2))]) := by
  refine PSpec.of hT Tryz.func16 rfl (by kernel_rfl) rfl rfl ?_
  simp only [Tryz.f16, go_sem, reduceAdd, reduceSub, reduceMul, reduceLT, reduceLeDiff, ↓reduceIte, reduceCtorEq, reduceEqDiff, reduceToNat, Int.reduceLT, reduceLE, reduceEq]
  refine callK_pure (args' := [cellD (newC k)]) (cell_of (newC k)) (by first | rfl | (simp only [go_sem]; done)) (by first | (simp only [go_sem]; done) | (simp [pureL, pureD]; done)) ?_
  cases hk : newOk k with
  | true =>
    have hl : (leafT (newC k).kind = 80) = False := by rw [show (newC k).kind = k from rfl, leaf_not, hk]; simp
    simp only [go_sem, reduceAdd, reduceSub, reduceMul, reduceLT, reduceLeDiff, ↓reduceIte, reduceCtorEq, reduceEqDiff, reduceToNat, Int.reduceLT, reduceLE, reduceEq, hl]
    rw [newR, hk]; rfl
  | false =>
    have hl : leafT (newC k).kind = 80 := by rw [show (newC k).kind = k from rfl, leaf_not, hk]
    simp only [go_sem, reduceAdd, reduceSub, reduceMul, reduceLT, reduceLeDiff, ↓reduceIte, reduceCtorEq, reduceEqDiff, reduceToNat, Int.reduceLT, reduceLE, reduceEq, hl]
    rw [newR, hk]; rfl
def emptyC (c : CellR) : Bool := checkC c && decide (c.base = 0) && decide (c.am.length = 0) && decide (c.wr.length = 0) && decide (c.me.length = 0) && decide (c.el.length = 0)
set_option maxRecDepth 8000 in
theorem cell_empty (c : CellR) (h : c.sm) : PSpec Tryz.prog CT 22 [cellD c] (· = .bool (emptyC c)) := by
  refine PSpec.of hT Tryz.func22 rfl (by kernel_rfl) rfl rfl ?_
  simp only [Tryz.f22, go_sem, reduceAdd, reduceSub, reduceMul, reduceLT, reduceLeDiff, ↓reduceIte, reduceCtorEq, reduceEqDiff, reduceToNat, Int.reduceLT, reduceLE, reduceEq]
  (repeat' (first | ((refine guardK_split (fun hg => ?_) (fun hg => ?_)) <;> (try simp only [go_sem, reduceAdd, reduceSub, reduceMul, reduceLT, reduceLeDiff, ↓reduceIte, reduceCtorEq, reduceEqDiff, reduceToNat, Int.reduceLT, reduceLE, reduceEq, hg])) | ((refine condK_split (fun hg => ?_) (fun hg => ?_)) <;> (try simp only [go_sem, reduceAdd, reduceSub, reduceMul, reduceLT, reduceLeDiff, ↓reduceIte, reduceCtorEq, reduceEqDiff, reduceToNat, Int.reduceLT, reduceLE, reduceEq, hg])) | ((first | refine callK_pure (cell_check c h) ?_ ?_ ?_ | refine callD_pure (cell_check c h) ?_ ?_ ?_); (iterate 2 (focus (first | rfl | (simp only [go_sem]; done)))); try simp only [go_sem, reduceAdd, reduceSub, reduceMul, reduceLT, reduceLeDiff, ↓reduceIte, reduceCtorEq, reduceEqDiff, reduceToNat, Int.reduceLT, reduceLE, reduceEq]) | ((refine Or.inl ⟨by kernel_rfl, ?_⟩) <;> (try simp only [go_sem, reduceAdd, reduceSub, reduceMul, reduceLT, reduceLeDiff, ↓reduceIte, reduceCtorEq, reduceEqDiff, reduceToNat, Int.reduceLT, reduceLE, reduceEq])))) <;> (first | done | (simp_all [emptyC]; done) | (simp_all [emptyC]; omega) | (simp_all [emptyC]; intros; omega) | (simp_all [emptyC]; grind))
set_option maxRecDepth 8000 in
theorem n_read (c : CellR) (h : c.sm) : PSpec Tryz.prog CT 95 [.agg [cellD c]] (· = valD (readN c)) := by
  refine PSpec.of hT Tryz.func95 rfl (by kernel_rfl) rfl rfl ?_
  simp only [Tryz.f95, go_sem, reduceAdd, reduceSub, reduceMul, reduceLT, reduceLeDiff, ↓reduceIte, reduceCtorEq, reduceEqDiff, reduceToNat, Int.reduceLT, reduceLE, reduceEq]
  refine callK_pure (args' := [cellD c]) (counter_read c (by have := h.am; omega)) (by first | rfl | (simp only [go_sem]; done)) (by first | (simp only [go_sem]; done) | (simp [pureL, pureD]; done)) ?_
  simp only [go_sem, reduceAdd, reduceSub, reduceMul, reduceLT, reduceLeDiff, ↓reduceIte, reduceCtorEq, reduceEqDiff, reduceToNat, Int.reduceLT, reduceLE, reduceEq]
set_option maxRecDepth 8000 in
theorem b_read (c : CellR) (h : c.sm) : PSpec Tryz.prog CT 171 [.agg [cellD c]] (· = valD (readS c)) := by
  refine PSpec.of hT Tryz.func171 rfl (by kernel_rfl) rfl rfl ?_
  simp only [Tryz.f171, go_sem, reduceAdd, reduceSub, reduceMul, reduceLT, reduceLeDiff, ↓reduceIte, reduceCtorEq, reduceEqDiff, reduceToNat, Int.reduceLT, reduceLE, reduceEq]
  refine callK_pure (args' := [cellD c]) (orset_read c (by have := h.me; omega) (fun m hm => by have := h.mm m hm; omega)) (by first | rfl | (simp only [go_sem]; done)) (by first | (simp only [go_sem]; done) | (simp [pureL, pureD]; done)) ?_
  simp only [go_sem, reduceAdd, reduceSub, reduceMul, reduceLT, reduceLeDiff, ↓reduceIte, reduceCtorEq, reduceEqDiff, reduceToNat, Int.reduceLT, reduceLE, reduceEq]
set_option maxRecDepth 8000 in
theorem cell_read_n (c : CellR) (h : c.sm) (hk : c.kind = 1) : PSpec Tryz.prog CT 18 [cellD c] (· = valD (readN c)) := by
  refine PSpec.of hT Tryz.func18 rfl (by kernel_rfl) rfl rfl ?_
  simp only [Tryz.f18, go_sem, reduceAdd, reduceSub, reduceMul, reduceLT, reduceLeDiff, ↓reduceIte, reduceCtorEq, reduceEqDiff, reduceToNat, Int.reduceLT, reduceLE, reduceEq]
  refine callK_pure (args' := [cellD c]) (cell_of c) (by first | rfl | (simp only [go_sem]; done)) (by first | (simp only [go_sem]; done) | (simp [pureL, pureD]; done)) ?_
  rw [leaf_n hk]
  simp only [go_sem, reduceAdd, reduceSub, reduceMul, reduceLT, reduceLeDiff, ↓reduceIte, reduceCtorEq, reduceEqDiff, reduceToNat, Int.reduceLT, reduceLE, reduceEq]
  refine callK_pure (args' := [.agg [cellD c]]) (n_read c h) (by first | rfl | (simp only [go_sem]; done)) (by first | (simp only [go_sem]; done) | (simp [pureL, pureD]; done)) ?_
  simp only [go_sem, reduceAdd, reduceSub, reduceMul, reduceLT, reduceLeDiff, ↓reduceIte, reduceCtorEq, reduceEqDiff, reduceToNat, Int.reduceLT, reduceLE, reduceEq]
set_option maxRecDepth 8000 in
theorem cell_read_b (c : CellR) (h : c.sm) (hk : c.kind = 4) : PSpec Tryz.prog CT 18 [cellD c] (· = valD (readS c)) := by
  refine PSpec.of hT Tryz.func18 rfl (by kernel_rfl) rfl rfl ?_
  simp only [Tryz.f18, go_sem, reduceAdd, reduceSub, reduceMul, reduceLT, reduceLeDiff, ↓reduceIte, reduceCtorEq, reduceEqDiff, reduceToNat, Int.reduceLT, reduceLE, reduceEq]
  refine callK_pure (args' := [cellD c]) (cell_of c) (by first | rfl | (simp only [go_sem]; done)) (by first | (simp only [go_sem]; done) | (simp [pureL, pureD]; done)) ?_
  rw [leaf_b hk]
  simp only [go_sem, reduceAdd, reduceSub, reduceMul, reduceLT, reduceLeDiff, ↓reduceIte, reduceCtorEq, reduceEqDiff, reduceToNat, Int.reduceLT, reduceLE, reduceEq]
  refine callK_pure (args' := [.agg [cellD c]]) (b_read c h) (by first | rfl | (simp only [go_sem]; done)) (by first | (simp only [go_sem]; done) | (simp [pureL, pureD]; done)) ?_
  simp only [go_sem, reduceAdd, reduceSub, reduceMul, reduceLT, reduceLeDiff, ↓reduceIte, reduceCtorEq, reduceEqDiff, reduceToNat, Int.reduceLT, reduceLE, reduceEq]
end Go.Ab
open Nat (reduceAdd reduceSub reduceMul reduceLT reduceLeDiff reduceEqDiff)
open Int (reduceToNat reduceLE reduceEq)
set_option linter.unusedSimpArgs false
namespace Go.Ab
open Go.Proofs

def s12x : ByteArray := ⟨#[120]⟩
def t12 : TxR := ⟨1, 1, zeros 13, 1, []⟩
def o12 : OpR := ⟨0, ⟨#[]⟩, ⟨#[]⟩, 0, 1, 3, ⟨#[]⟩, 0, 0, 0⟩
def p12 : OpR := ⟨0, ⟨#[]⟩, ⟨#[]⟩, 0, 1, 0, s12x, 0, 0, 0⟩
def q12 : OpR := ⟨0, ⟨#[]⟩, ⟨#[]⟩, 0, 3, 0, s12x, 0, 0, 0⟩
def b12 : CellR := ⟨1, 0, [⟨⟨1, 1, 1⟩, 3⟩], [], [], []⟩
def x12 : CellR := ⟨4, 0, [], [], [⟨s12x, false, [⟨1, 1, 1⟩]⟩], []⟩
theorem new_sm (k : Int) : (newC k).sm := ⟨by simp [newC], by simp [newC], by simp [newC], by simp [newC], by simp [newC], by simp [newC]⟩
theorem b12_sm : b12.sm := ⟨by simp [b12], by simp [b12], by simp [b12], by simp [b12], by simp [b12], by simp [b12]⟩
theorem x12_sm : x12.sm := ⟨by simp [x12], by simp [x12], by simp [x12], by simp [x12], by simp [x12], by simp [x12]⟩
set_option maxRecDepth 8000 in
set_option maxHeartbeats 4000000 in
theorem heads12 : PSpec Tryz.prog CT 10 [] (· = .bool true) := by
  refine PSpec.of hT Tryz.func10 rfl (by kernel_rfl) rfl rfl ?_
  have d1 : t12.deps.length = 13 := rfl
  have f1 : doC (newC 1) t12 1 o12 = b12 := by kernel_rfl
  have f2 : doC (newC 4) t12 1 p12 = x12 := by kernel_rfl
  have f3 : doC (newC 4) t12 1 q12 = newC 4 := by kernel_rfl
  have g1 : emptyC (newC 1) = true := by decide +kernel
  have g2 : emptyC b12 = false := by decide +kernel
  have g3 : readN b12 = ⟨1, 3, []⟩ := by kernel_rfl
  have g4 : readS x12 = ⟨4, 0, [s12x]⟩ := by kernel_rfl
  have g5 : checkC x12 = true := by decide +kernel
  have g6 : emptyC (newC 4) = true := by decide +kernel
  have n1 := cell_new 1
  have n6 := cell_new 6
  have n4 := cell_new 4
  rw [show newR 1 = newC 1 from rfl, show newOk 1 = true from rfl] at n1
  rw [show newR 6 = newC 0 from rfl, show newOk 6 = false from rfl] at n6
  rw [show newR 4 = newC 4 from rfl, show newOk 4 = true from rfl] at n4
  simp only [Tryz.f10, go_sem, reduceAdd, reduceSub, reduceMul, reduceLT, reduceLeDiff, ↓reduceIte, reduceCtorEq, reduceEqDiff, reduceToNat, Int.reduceLT, reduceLE, reduceEq]
  refine callK_pure n1 (by first | rfl | (simp only [go_sem]; done)) (by first | (simp only [go_sem]; done) | (simp [pureL, pureD]; done)) ?_
  simp only [go_sem, reduceAdd, reduceSub, reduceMul, reduceLT, reduceLeDiff, ↓reduceIte, reduceCtorEq, reduceEqDiff, reduceToNat, Int.reduceLT, reduceLE, reduceEq]
  refine callK_pure n6 (by first | rfl | (simp only [go_sem]; done)) (by first | (simp only [go_sem]; done) | (simp [pureL, pureD]; done)) ?_
  simp only [go_sem, reduceAdd, reduceSub, reduceMul, reduceLT, reduceLeDiff, ↓reduceIte, reduceCtorEq, reduceEqDiff, reduceToNat, Int.reduceLT, reduceLE, reduceEq]
  refine callK_pure n4 (by first | rfl | (simp only [go_sem]; done)) (by first | (simp only [go_sem]; done) | (simp [pureL, pureD]; done)) ?_
  simp only [go_sem, reduceAdd, reduceSub, reduceMul, reduceLT, reduceLeDiff, ↓reduceIte, reduceCtorEq, reduceEqDiff, reduceToNat, Int.reduceLT, reduceLE, reduceEq]
  refine callK_pure (args' := [cellD (newC 1), txD t12, .lit (.int .i64 1), opD o12]) (cell_do (newC 1) t12 1 o12 d1 (new_sm 1)) (by kernel_rfl) ⟨pure_cell _, pure_tx _, trivial, by simp [pureD, pureL], trivial⟩ ?_
  rw [f1]
  simp only [go_sem, reduceAdd, reduceSub, reduceMul, reduceLT, reduceLeDiff, ↓reduceIte, reduceCtorEq, reduceEqDiff, reduceToNat, Int.reduceLT, reduceLE, reduceEq]
  refine callK_pure (args' := [cellD (newC 4), txD t12, .lit (.int .i64 1), opD p12]) (cell_do (newC 4) t12 1 p12 d1 (new_sm 4)) (by kernel_rfl) ⟨pure_cell _, pure_tx _, trivial, by simp [pureD, pureL], trivial⟩ ?_
  rw [f2]
  simp only [go_sem, reduceAdd, reduceSub, reduceMul, reduceLT, reduceLeDiff, ↓reduceIte, reduceCtorEq, reduceEqDiff, reduceToNat, Int.reduceLT, reduceLE, reduceEq]
  refine callK_pure (args' := [cellD (newC 1)]) (cell_empty (newC 1) (new_sm 1)) (by kernel_rfl) ⟨pure_cell _, trivial⟩ ?_
  rw [g1]
  simp only [go_sem, reduceAdd, reduceSub, reduceMul, reduceLT, reduceLeDiff, ↓reduceIte, reduceCtorEq, reduceEqDiff, reduceToNat, Int.reduceLT, reduceLE, reduceEq]
  refine callK_pure (args' := [cellD b12]) (cell_empty b12 b12_sm) (by kernel_rfl) ⟨pure_cell _, trivial⟩ ?_
  rw [g2]
  simp only [go_sem, reduceAdd, reduceSub, reduceMul, reduceLT, reduceLeDiff, ↓reduceIte, reduceCtorEq, reduceEqDiff, reduceToNat, Int.reduceLT, reduceLE, reduceEq]
  refine callK_pure (args' := [cellD b12]) (cell_read_n b12 b12_sm rfl) (by kernel_rfl) ⟨pure_cell _, trivial⟩ ?_
  rw [g3]
  simp only [go_sem, reduceAdd, reduceSub, reduceMul, reduceLT, reduceLeDiff, ↓reduceIte, reduceCtorEq, reduceEqDiff, reduceToNat, Int.reduceLT, reduceLE, reduceEq]
  refine callK_pure (args' := [cellD x12]) (cell_read_b x12 x12_sm rfl) (by kernel_rfl) ⟨pure_cell _, trivial⟩ ?_
  rw [g4]
  simp only [go_sem, reduceAdd, reduceSub, reduceMul, reduceLT, reduceLeDiff, ↓reduceIte, reduceCtorEq, reduceEqDiff, reduceToNat, Int.reduceLT, reduceLE, reduceEq, List.map_cons, List.map_nil, List.length_cons, List.length_nil]
  have h1 : decide (((1 : Nat) : Int) = 1) = true := by decide
  simp only [h1, go_sem, reduceAdd, reduceSub, reduceMul, reduceLT, reduceLeDiff, ↓reduceIte, reduceCtorEq, reduceEqDiff, reduceToNat, Int.reduceLT, reduceLE, reduceEq]
  refine callK_pure (args' := [cellD x12]) (cell_check x12 x12_sm) (by kernel_rfl) ⟨pure_cell _, trivial⟩ ?_
  rw [g5]
  simp only [go_sem, reduceAdd, reduceSub, reduceMul, reduceLT, reduceLeDiff, ↓reduceIte, reduceCtorEq, reduceEqDiff, reduceToNat, Int.reduceLT, reduceLE, reduceEq]
  refine callK_pure (args' := [cellD (newC 4), txD t12, .lit (.int .i64 1), opD q12]) (cell_do (newC 4) t12 1 q12 d1 (new_sm 4)) (by kernel_rfl) ⟨pure_cell _, pure_tx _, trivial, by simp [pureD, pureL], trivial⟩ ?_
  rw [f3]
  simp only [go_sem, reduceAdd, reduceSub, reduceMul, reduceLT, reduceLeDiff, ↓reduceIte, reduceCtorEq, reduceEqDiff, reduceToNat, Int.reduceLT, reduceLE, reduceEq]
  refine callK_pure (args' := [cellD (newC 4)]) (cell_empty (newC 4) (new_sm 4)) (by kernel_rfl) ⟨pure_cell _, trivial⟩ ?_
  rw [g6]
  simp only [go_sem, reduceAdd, reduceSub, reduceMul, reduceLT, reduceLeDiff, ↓reduceIte, reduceCtorEq, reduceEqDiff, reduceToNat, Int.reduceLT, reduceLE, reduceEq]
end Go.Ab
