/- Slices that do not overlap. Conditions: none. -/
import Derived.Test.YtgliaanopmlmfaaReD
import Derived.Laws.Externs
set_option linter.unusedSimpArgs false
namespace Go.Ab
open Go.Proofs

theorem run_overlaps_own {P : Program} (w : World) (tS tR e : TypeId) (ht : P.underlying tS = some (.slice e)) (size : Nat) (hz : ∀ w, (Go.sizeOf e).run P w = .ok size w)
    (a b : Addr) (la ca lb cb : Nat) (hne : a.block ≠ b.block) {cA cB : Array Value} {eA eB : TypeId} {frA : Nat × Nat} (hA : w.heap[a.block]? = some (.cells cA eA frA)) (hB : w.heap[b.block]? = some (.cells cB eB (0, 0))) (hkA : cA.size ≠ 0) :
    (Extern.SlicesOverlaps.overlaps #[tS, tS] #[tR] #[.slice (some a) la ca, .slice (some b) lb cb]).run P w = .ok (.bool false) w := by
  have hnb : (a.block != b.block) = true := by simpa using hne
  have hnb' : (a.block == b.block) = false := by simpa using hne
  have hsa : w.shape? a.block = some (eA, cA.size) := by simp [World.shape?, hA]
  have hsb : w.shape? b.block = some (eB, cB.size) := by simp [World.shape?, hB]
  have hfb : w.frozen? b = false := by simp [World.frozen?, hB]
  have hfe : w.frozen? { block := b.block, off := cB.size } = false := by simp [World.frozen?, hB]
  change Sem.run P (α := Value) (do
    let some t := (#[tS, tS] : Array TypeId)[0]? | stuck "slices.overlaps: no parameter types"
    let .slice elem ← underlying t | stuck "slices.overlaps: slice type expected"
    let size ← sizeOf elem
    match (some a : Option Addr), (some b : Option Addr) with
    | some a, some b =>
      if la = 0 ∨ lb = 0 ∨ size = 0 then pure (Value.bool false)
      else if a.block != b.block && (← frozen a) && (← frozen b) then unsupported .addressObserved
      else do
        if a.block != b.block then do
          noView a; noView b
          if ← mayBeOne a b then return Value.bool ((← choose (.extern "sameAddr.stringBytes" 2)) == 1)
        pure (Value.bool (a.block == b.block && a.off < b.off + lb * size && b.off < a.off + la * size))
    | _, _ => pure (Value.bool false)) w = _
  by_cases h0 : la = 0 ∨ lb = 0 ∨ size = 0
  · simp [run_underlying ht, hz, h0]
  · cases hk : cA.size with
    | zero => exact absurd hk hkA
    | succ kA =>
      rw [hk] at hsa
      cases hfa : w.frozen? a <;> cases hfae : w.frozen? { block := a.block, off := kA + 1 } <;>
        simp [run_underlying ht, hz, h0, hnb, hnb', frozen, noView, viewAt, mayBeOne, stringish, shape, Sem.run, hsa, hsb, hfa, hfae, hfb, hfe]
theorem run_overlaps_none {P : Program} (w : World) (tS tR e : TypeId) (ht : P.underlying tS = some (.slice e)) (size : Nat) (hz : ∀ w, (Go.sizeOf e).run P w = .ok size w) (b : Option Addr) (la ca lb cb : Nat) :
    (Extern.SlicesOverlaps.overlaps #[tS, tS] #[tR] #[.slice none la ca, .slice b lb cb]).run P w = .ok (.bool false) w := by
  change Sem.run P (α := Value) (do
    let some t := (#[tS, tS] : Array TypeId)[0]? | stuck "slices.overlaps: no parameter types"
    let .slice elem ← underlying t | stuck "slices.overlaps: slice type expected"
    let size ← sizeOf elem
    match (none : Option Addr), b with
    | some a, some b =>
      if la = 0 ∨ lb = 0 ∨ size = 0 then pure (Value.bool false)
      else if a.block != b.block && (← frozen a) && (← frozen b) then unsupported .addressObserved
      else do
        if a.block != b.block then do
          noView a; noView b
          if ← mayBeOne a b then return Value.bool ((← choose (.extern "sameAddr.stringBytes" 2)) == 1)
        pure (Value.bool (a.block == b.block && a.off < b.off + lb * size && b.off < a.off + la * size))
    | _, _ => pure (Value.bool false)) w = _
  simp [run_underlying ht, hz]
theorem run_overlaps_zero {P : Program} (w : World) (tS tR e : TypeId) (ht : P.underlying tS = some (.slice e)) (size : Nat) (hz : ∀ w, (Go.sizeOf e).run P w = .ok size w) (a b : Addr) (ca lb cb : Nat) :
    (Extern.SlicesOverlaps.overlaps #[tS, tS] #[tR] #[.slice (some a) 0 ca, .slice (some b) lb cb]).run P w = .ok (.bool false) w := by
  change Sem.run P (α := Value) (do
    let some t := (#[tS, tS] : Array TypeId)[0]? | stuck "slices.overlaps: no parameter types"
    let .slice elem ← underlying t | stuck "slices.overlaps: slice type expected"
    let size ← sizeOf elem
    match (some a : Option Addr), (some b : Option Addr) with
    | some a, some b =>
      if 0 = 0 ∨ lb = 0 ∨ size = 0 then pure (Value.bool false)
      else if a.block != b.block && (← frozen a) && (← frozen b) then unsupported .addressObserved
      else do
        if a.block != b.block then do
          noView a; noView b
          if ← mayBeOne a b then return Value.bool ((← choose (.extern "sameAddr.stringBytes" 2)) == 1)
        pure (Value.bool (a.block == b.block && a.off < b.off + lb * size && b.off < a.off + 0 * size))
    | _, _ => pure (Value.bool false)) w = _
  simp [run_underlying ht, hz]

theorem overlaps_wr (l : List D) (t : Tok) (bs : List (Sh × D)) (tk : List Bool) {b lo n c N : Nat} {s : Sh} {L : List D} (hb : bs[b]? = some (.arr N s, .agg L)) :
    XSpec Try.prog CT 131 [.lst 65 l t, .sl 65 b lo n c] ⟨bs, tk⟩ fun r h' => r = .bool false ∧ h' = ⟨bs, tk⟩ := by
  intro ρ w vs hr hv
  have hvl : vs.toList.length = 2 := hv.1
  obtain ⟨v1, v2, hvs⟩ : ∃ v1 v2, vs.toList = [v1, v2] := by
    match h : vs.toList, hvl with
    | [v1, v2], _ => exact ⟨v1, v2, rfl⟩
  obtain rfl : vs = #[v1, v2] := by apply Array.ext'; simpa using hvs
  have hv1 : VV CT.sh ρ v1 (.lst 65 l t) := hv.2 0 _ _ rfl rfl
  have hv2 : VV CT.sh ρ v2 (.sl 65 b lo n c) := hv.2 1 _ _ rfl rfl
  obtain ⟨B, N', o, rfl, hbox, hc, hn, hm, ho⟩ := vv_sl hv2
  obtain ⟨e1, hsh, cc, tt, hw, ha⟩ := real_box hr hbox hb rfl
  obtain ⟨_, _, hS, _⟩ := hr.box b B _ _ _ hbox hb (by simp)
  have hfw := hT 55 (by rw [ty55]; simp)
  have hf := hfw.desc
  rw [ty55] at hf
  obtain ⟨_, hu, hub, husz⟩ := hf
  have fin : ∀ (la ca : Nat) (x : Option Addr), v1 = .slice x la ca → (Extern.SlicesOverlaps.overlaps #[55, 55] #[4] #[v1, .slice (some ⟨B, o, none⟩) n c]).run Try.prog w = .ok (.bool false) w →
      ∃ v w' r h' ρ', (callFunc 131 #[v1, .slice (some ⟨B, o, none⟩) n c]).run Try.prog w = .ok (.value v) w' ∧ Ext ρ w ρ' w' ∧ Real CT.sh ρ' h' w' ∧ VV CT.sh ρ' v r ∧ (r = .bool false ∧ h' = ⟨bs, tk⟩) := by
    intro la ca x _ hrun
    refine ⟨.bool false, w, .bool false, ⟨bs, tk⟩, ρ, ?_, .refl _ _, hr, .lit _, rfl, rfl⟩
    rw [run_callFunc_extern Try.func131 (by kernel_rfl) (by kernel_rfl) (by kernel_rfl) (e := Extern.SlicesOverlaps.overlaps #[55, 55] #[4]) (by kernel_rfl), hrun]
    rfl
  rcases vv_lst hv1 with ⟨rfl, hl0⟩ | ⟨ad, cap, cs, rfl, hrow, hl, hall, hshl, hcap, _, _⟩
  · refine fin 0 0 none rfl ?_
    exact run_overlaps_none w _ _ _ hu _ (fun w => (hT _ hub).run_sizeOf w) _ _ _ _ _
  · by_cases hl0 : l = []
    · subst hl0
      refine fin 0 cap (some ad) rfl ?_
      exact run_overlaps_zero w _ _ _ hu _ (fun w => (hT _ hub).run_sizeOf w) _ _ _ _ _
    · have hcs : 0 < cs.length := by
        rw [hl, leavesL_length_const (n := (CT.sh 65).size) fun x hx => leaves_length (hshl x hx)]
        exact Nat.mul_pos (List.length_pos_iff.2 hl0) (Nat.pos_of_ne_zero husz)
      have hr0 := hrow 0 _ (List.getElem?_eq_getElem hcs)
      obtain ⟨c1, e2, fr, hA, hA2⟩ := hr.st _ _ _ hr0.2
      have hne : ad.block ≠ B := by
        rintro h0
        have := hr0.2
        rw [h0, hS] at this; cases this
      refine fin _ _ _ rfl ?_
      exact run_overlaps_own w 55 4 65 hu _ (fun w => (hT _ hub).run_sizeOf w) ad ⟨B, o, none⟩ l.length cap n c hne hA hw (by
        have := (Array.getElem?_eq_some_iff.1 hA2).1; omega)
end Go.Ab
set_option linter.unusedSimpArgs false
namespace Go.Ab
open Go.Proofs

def insAt {α : Type} (l : List α) (i : Nat) (x : α) : List α := l.take i ++ x :: l.drop i
theorem overL_get {L m : List D} {o q : Nat} (h : o + m.length ≤ L.length) : (overL L o m)[q]? = if q < o then L[q]? else if q < o + m.length then m[q - o]? else L[q]? := by
  unfold overL
  have h1 : (L.take o).length = o := by rw [List.length_take]; omega
  by_cases h2 : q < o
  · rw [if_pos h2, List.append_assoc, List.getElem?_append_left (by omega), List.getElem?_take, if_pos h2]
  · rw [if_neg h2, List.append_assoc, List.getElem?_append_right (by omega), h1]
    by_cases h3 : q < o + m.length
    · rw [if_pos h3, List.getElem?_append_left (by omega)]
    · rw [if_neg h3, List.getElem?_append_right (by omega), List.getElem?_drop]
      congr 1; omega
theorem overL_len {L m : List D} {o : Nat} (h : o + m.length ≤ L.length) : (overL L o m).length = L.length := by
  simp [overL]; omega
theorem insAt_len {α : Type} (l : List α) (i : Nat) (x : α) (h : i ≤ l.length) : (insAt l i x).length = l.length + 1 := by simp [insAt]; omega
theorem take_insAt {l : List WriteR} {x : WriteR} {i : Nat} (hi : i ≤ l.length) {L L' : List D} (hL : L.take l.length = l.map wrD) (h1 : ∀ q, q < i → L'[q]? = L[q]?) (h2 : L'[i]? = some (wrD x)) (h3 : ∀ q, i ≤ q → q < l.length → L'[q + 1]? = L[q]?) :
    L'.take (l.length + 1) = (insAt l i x).map wrD := by
  have hLq : ∀ q, q < l.length → L[q]? = (l.map wrD)[q]? := fun q hq => by rw [← hL, List.getElem?_take, if_pos hq]
  refine List.ext_getElem? fun q => ?_
  rw [List.getElem?_take]
  simp only [insAt, List.map_append, List.map_take, List.map_cons, List.map_drop]
  have hti : ((l.map wrD).take i).length = i := by simp; omega
  by_cases hq : q < l.length + 1
  · rw [if_pos hq]
    rcases Nat.lt_trichotomy q i with h | h | h
    · rw [List.getElem?_append_left (by omega), List.getElem?_take, if_pos h, h1 q h, hLq q (by omega)]
    · subst h
      rw [List.getElem?_append_right (by omega), hti, Nat.sub_self, h2]; rfl
    · rw [List.getElem?_append_right (by omega), hti]
      obtain ⟨q', rfl⟩ : ∃ q', q = q' + 1 := ⟨q - 1, by omega⟩
      rw [show q' + 1 - i = (q' - i) + 1 by omega, List.getElem?_cons_succ, List.getElem?_drop, h3 q' (by omega) (by omega), hLq q' (by omega)]
      congr 1; omega
  · rw [if_neg hq, List.getElem?_eq_none]
    simp; omega

set_option maxRecDepth 8000 in
set_option maxHeartbeats 2000000 in
theorem insert_wr (l : List WriteR) (x : WriteR) (t : Tok) (i : Nat) (hi : i ≤ l.length) (hl : l.length < 1000000000) (base ex : List (Sh × D)) (tk : List Bool) {d : D} (ho : OutL 65 base.length d ex (l.map wrD)) :
    ASpec Try.prog CT 101 [d, .lit (.int .i64 i), wrsD [x] t] ⟨base ++ ex, tk⟩ fun r h' => ∃ ex', h' = ⟨base ++ ex', tk⟩ ∧ OutM 65 base.length r ex' ((insAt l i x).map wrD) := by
  have hpx : pureL [wrD x] := by simp [pureD, pureL]
  have hpz : pureD (CT.zero 65) := by simp [zero65, pureD, pureL]
  refine ASpec.of hT Try.func101 rfl (by kernel_rfl) rfl rfl ?_
  rcases ho with ⟨rfl, h2, rfl⟩ | ⟨jx, N, L, rfl, hj, hL, hlN, hN, hlL, hpu⟩
  · obtain rfl : l = [] := by simpa using h2
    obtain rfl : i = 0 := by simpa using hi
    simp only [Try.f101, go_sem, Nat.reduceAdd, Nat.reduceSub, Nat.reduceMul, Nat.reduceLT, Nat.reduceLeDiff, ↓reduceIte, reduceCtorEq, Nat.reduceEqDiff, Int.reduceToNat, Int.reduceLT, Int.reduceLE, Int.reduceEq, beq_self_eq_true, List.map_cons, List.map_nil]
    refine condK_split (fun h => absurd (of_decide_eq_true h) (by omega)) (fun _ => ?_)
    simp only [go_sem, Nat.reduceAdd, Nat.reduceSub, Nat.reduceMul, Nat.reduceLT, Nat.reduceLeDiff, ↓reduceIte, reduceCtorEq, Nat.reduceEqDiff, Int.reduceToNat, Int.reduceLT, Int.reduceLE, Int.reduceEq, beq_self_eq_true]
    refine appK_mut _ _ _ 65 _ _ _ _ ⟨[], [wrD x], rfl, rfl, by rw [bytes_write]; omega, by rw [bytes_write]; simp, trivial, (by intro h; cases h), (by intro b lo n c N s L h; cases h), fun _ _ N h1 h2 => ?_⟩
    simp only [go_sem, Nat.reduceAdd, Nat.reduceSub, Nat.reduceMul, Nat.reduceLT, Nat.reduceLeDiff, ↓reduceIte, reduceCtorEq, Nat.reduceEqDiff, Int.reduceToNat, Int.reduceLT, Int.reduceLE, Int.reduceEq, beq_self_eq_true, List.length_nil, Nat.zero_add, List.nil_append, Heap.var]
    simp only [List.length_nil, Nat.zero_add, List.length_cons] at h1
    refine ⟨_, rfl, .inr ⟨0, N, [wrD x] ++ List.replicate (N - 1) (CT.zero 65), by simp [insAt], rfl, by simp; omega, by simp [insAt]; omega, h2, by simp [insAt], ?_⟩⟩
    intro N' s' L' hm
    simp only [List.mem_singleton, Prod.mk.injEq, D.agg.injEq] at hm
    obtain ⟨_, rfl⟩ := hm
    exact pureL_app hpx (pure_rep _ _ hpz)
  · simp only [List.length_map] at hlN hlL ⊢
    have hjl : jx < ex.length := (List.getElem?_eq_some_iff.1 hj).1
    have hbx : (base ++ ex)[base.length + jx]? = some (.arr N (CT.sh 65), .agg L) := by rw [List.getElem?_append_right (by omega), Nat.add_sub_cancel_left]; exact hj
    have hset : ∀ y, (base ++ ex).set (base.length + jx) y = base ++ ex.set jx y := fun y => by rw [List.set_append_right _ _ (by omega), Nat.add_sub_cancel_left]
    have hpL : pureL L := hpu _ _ _ (List.mem_of_getElem? hj)
    have hLtl : (L.take l.length).length = l.length := by rw [List.length_take]; omega
    generalize hb : base.length + jx = b at hbx hset ⊢
    simp only [Try.f101, go_sem, Nat.reduceAdd, Nat.reduceSub, Nat.reduceMul, Nat.reduceLT, Nat.reduceLeDiff, ↓reduceIte, reduceCtorEq, Nat.reduceEqDiff, Int.reduceToNat, Int.reduceLT, Int.reduceLE, Int.reduceEq, beq_self_eq_true, List.map_cons, List.map_nil, slice_sl_lo_t, hi, hlN]
    refine condK_split (fun h => absurd (of_decide_eq_true h) (by omega)) (fun _ => ?_)
    simp only [go_sem, Nat.reduceAdd, Nat.reduceSub, Nat.reduceMul, Nat.reduceLT, Nat.reduceLeDiff, ↓reduceIte, reduceCtorEq, Nat.reduceEqDiff, Int.reduceToNat, Int.reduceLT, Int.reduceLE, Int.reduceEq, beq_self_eq_true]
    refine condK_split (fun hin => ?_) (fun hin => ?_)
    · obtain rfl : i = l.length := by have := of_decide_eq_true hin; omega
      simp only [go_sem, Nat.reduceAdd, Nat.reduceSub, Nat.reduceMul, Nat.reduceLT, Nat.reduceLeDiff, ↓reduceIte, reduceCtorEq, Nat.reduceEqDiff, Int.reduceToNat, Int.reduceLT, Int.reduceLE, Int.reduceEq, beq_self_eq_true]
      have hins : insAt l l.length x = l ++ [x] := by simp [insAt]
      rw [hins]
      refine appK_mut _ _ _ 65 _ _ _ _ ⟨L.take l.length, [wrD x], by simp only [rowOf, hbx, List.drop_zero], rfl, by rw [bytes_write]; omega, by rw [bytes_write, hLtl]; simp; omega, trivial, (by intro h; cases h), ?_, ?_⟩
      · intro b1 lo1 n1 c1 N1 s1 L1 h1 _ h2 h3
        cases h1
        simp only at h3
        rw [hbx] at h3; cases h3
        simp only [go_sem, Nat.reduceAdd, Nat.reduceSub, Nat.reduceMul, Nat.reduceLT, Nat.reduceLeDiff, ↓reduceIte, reduceCtorEq, Nat.reduceEqDiff, Int.reduceToNat, Int.reduceLT, Int.reduceLE, Int.reduceEq, beq_self_eq_true, List.length_cons, List.length_nil, Nat.zero_add]
        have hfit : l.length + 1 ≤ N := by simpa using h2
        refine ⟨ex.set jx (.arr N (CT.sh 65), .agg (overL L l.length [wrD x])), by rw [hset]; rfl, .inr ⟨jx, N, overL L l.length [wrD x], by rw [hb]; simp, List.getElem?_set_self hjl, by rw [overL_len (by simp; omega)]; exact hL, by simp; omega, hN, ?_, ?_⟩⟩
        · have := overL_take (L := L) (m := [wrD x]) (n := l.length) (by simp; omega)
          simp only [List.length_singleton] at this
          simp only [List.length_map, List.length_append, List.length_singleton]
          rw [this, hlL]; simp
        · intro N' s' L' hm
          rcases List.mem_or_eq_of_mem_set hm with h' | h'
          · exact hpu _ _ _ h'
          · simp only [Prod.mk.injEq, D.agg.injEq] at h'
            obtain ⟨_, rfl⟩ := h'
            exact pureL_over hpL hpx
      · intro h1 _ N' h2 h3
        rw [hLtl] at h2
        simp only [List.length_singleton] at h2
        simp only [go_sem, Nat.reduceAdd, Nat.reduceSub, Nat.reduceMul, Nat.reduceLT, Nat.reduceLeDiff, ↓reduceIte, reduceCtorEq, Nat.reduceEqDiff, Int.reduceToNat, Int.reduceLT, Int.reduceLE, Int.reduceEq, beq_self_eq_true, List.length_cons, List.length_nil, Nat.zero_add, hLtl, Heap.var]
        refine ⟨ex ++ [(.arr N' (CT.sh 65), .agg (L.take l.length ++ [wrD x] ++ List.replicate (N' - (l.length + 1)) (CT.zero 65)))], by rw [List.append_assoc]; rfl, .inr ⟨ex.length, N', L.take l.length ++ [wrD x] ++ List.replicate (N' - (l.length + 1)) (CT.zero 65), by simp, by simp, by simp; omega, by simp; omega, h3, ?_, ?_⟩⟩
        · rw [List.length_map, List.length_append, List.take_append_of_le_length (by simp [hLtl]), List.take_of_length_le (by simp [hLtl]), hlL]; simp
        · intro N'' s' L' hm
          rcases List.mem_append.1 hm with h' | h'
          · exact hpu _ _ _ h'
          · simp only [List.mem_singleton, Prod.mk.injEq, D.agg.injEq] at h'
            obtain ⟨_, rfl⟩ := h'
            exact pureL_app (pureL_app (pureL_take _ hpL) hpx) (pure_rep _ _ hpz)
    · have hin' : i < l.length := by have := of_decide_eq_false hin; omega
      have w1 : IntKind.i64.wrap ((l.length : Int) + ((1 : Nat) : Int)) = ((l.length + 1 : Nat) : Int) := by rw [wrap64] <;> omega
      simp only [go_sem, Nat.reduceAdd, Nat.reduceSub, Nat.reduceMul, Nat.reduceLT, Nat.reduceLeDiff, ↓reduceIte, reduceCtorEq, Nat.reduceEqDiff, Int.reduceToNat, Int.reduceLT, Int.reduceLE, Int.reduceEq, beq_self_eq_true, w1]
      refine condK_split (fun hg => ?_) (fun hg => ?_)
      · have hgr : N < l.length + 1 := by have := of_decide_eq_true hg; omega
        have w2 : IntKind.i64.wrap (((l.length + 1 : Nat) : Int) - (i : Int)) = ((l.length + 1 - i : Nat) : Int) := by rw [wrap64] <;> omega
        have hiN : i ≤ N := by omega
        simp only [go_sem, Nat.reduceAdd, Nat.reduceSub, Nat.reduceMul, Nat.reduceLT, Nat.reduceLeDiff, ↓reduceIte, reduceCtorEq, Nat.reduceEqDiff, Int.reduceToNat, Int.reduceLT, Int.reduceLE, Int.reduceEq, beq_self_eq_true, w1, w2, hiN]
        apply aop_growth
        refine ⟨65, .i64, rfl, rfl, .inr ⟨.i64, l.length + 1 - i, b, 0, i, N, N, _, L, rfl, rfl, hbx, by omega, by omega, by rw [bytes_write]; omega, by rw [bytes_write]; omega, fun M h1 h2 => ?_⟩⟩
        have e1 : i + (l.length + 1 - i) = l.length + 1 := by omega
        rw [e1] at h1
        have hi1 : i ≤ l.length + 1 := by omega
        have hi2 : i + 1 ≤ l.length + 1 := by omega
        have w3 : IntKind.i64.wrap ((i : Int) + ((1 : Nat) : Int)) = ((i + 1 : Nat) : Int) := by rw [wrap64] <;> omega
        simp only [go_sem, Nat.reduceAdd, Nat.reduceSub, Nat.reduceMul, Nat.reduceLT, Nat.reduceLeDiff, ↓reduceIte, reduceCtorEq, Nat.reduceEqDiff, Int.reduceToNat, Int.reduceLT, Int.reduceLE, Int.reduceEq, beq_self_eq_true, e1, Heap.var, slice_sl_lo_t, hi1, h1, List.drop_zero, Nat.zero_add]
        have ht1 : [wrD x].take (l.length + 1 - i) = [wrD x] := List.take_of_length_le (by simp; omega)
        refine aop_copy _ _ _ _ _ _ _ _ _ _ _ ⟨65, (base ++ ex).length, _, _, _, M, _, _, [wrD x], rfl, rfl, get_last _ _, rfl, ?_⟩
        simp only [go_sem, Nat.reduceAdd, Nat.reduceSub, Nat.reduceMul, Nat.reduceLT, Nat.reduceLeDiff, ↓reduceIte, reduceCtorEq, Nat.reduceEqDiff, Int.reduceToNat, Int.reduceLT, Int.reduceLE, Int.reduceEq, beq_self_eq_true, set_last, ht1]
        refine .inl ⟨by kernel_rfl, ?_⟩
        simp only [go_sem, Nat.reduceAdd, Nat.reduceSub, Nat.reduceMul, Nat.reduceLT, Nat.reduceLeDiff, ↓reduceIte, reduceCtorEq, Nat.reduceEqDiff, Int.reduceToNat, Int.reduceLT, Int.reduceLE, Int.reduceEq, beq_self_eq_true, slice_sl_lo_t, hi1, hi2, h1, hi, hlN, w3, Nat.zero_add]
        have hl0 : (L.take i ++ List.replicate (M - i) (CT.zero 65)).length = M := by simp; omega
        have hl1 : (overL (L.take i ++ List.replicate (M - i) (CT.zero 65)) i [wrD x]).length = M := by rw [overL_len (by rw [hl0]; simp; omega), hl0]
        have hsrc : ((L.drop i).take (l.length - i)).length = l.length - i := by simp; omega
        have ht2 : ((L.drop i).take (l.length - i)).take (l.length + 1 - (i + 1)) = (L.drop i).take (l.length - i) := List.take_of_length_le (by rw [hsrc]; omega)
        refine aopD_copy _ _ _ _ _ _ _ _ _ _ _ ⟨65, (base ++ ex).length, _, _, _, M, _, _, (L.drop i).take (l.length - i), rfl, rfl, get_last _ _, ?_, ?_⟩
        · have : ∀ y, (base ++ ex ++ [y])[b]? = some (.arr N (CT.sh 65), .agg L) := fun y => by
            rw [List.getElem?_append_left (List.getElem?_eq_some_iff.1 hbx).1]; exact hbx
          show rowOf _ (.sl 65 b i (l.length - i) (N - i)) = _
          simp only [rowOf, this]
        simp only [go_sem, Nat.reduceAdd, Nat.reduceSub, Nat.reduceMul, Nat.reduceLT, Nat.reduceLeDiff, ↓reduceIte, reduceCtorEq, Nat.reduceEqDiff, Int.reduceToNat, Int.reduceLT, Int.reduceLE, Int.reduceEq, beq_self_eq_true, set_last, ht2]
        have hg2 : ∀ q, (overL (overL (L.take i ++ List.replicate (M - i) (CT.zero 65)) i [wrD x]) (i + 1) ((L.drop i).take (l.length - i)))[q]? = if q < i + 1 then (if q < i then L[q]? else some (wrD x)) else if q < l.length + 1 then L[q - 1]? else (overL (overL (L.take i ++ List.replicate (M - i) (CT.zero 65)) i [wrD x]) (i + 1) ((L.drop i).take (l.length - i)))[q]? := by
          intro q
          by_cases hq1 : q < i + 1
          · rw [if_pos hq1, overL_get (by rw [hsrc, hl1]; omega), if_pos hq1, overL_get (by rw [hl0]; simp; omega)]
            by_cases hq2 : q < i
            · rw [if_pos hq2, if_pos hq2, List.getElem?_append_left (by simp; omega), List.getElem?_take, if_pos hq2]
            · rw [if_neg hq2, if_neg hq2, if_pos (by simp; omega)]
              have : q - i = 0 := by omega
              rw [this]; rfl
          · rw [if_neg hq1]
            by_cases hq3 : q < l.length + 1
            · rw [if_pos hq3, overL_get (by rw [hsrc, hl1]; omega), if_neg hq1, if_pos (by rw [hsrc]; omega), List.getElem?_take, if_pos (by omega), List.getElem?_drop]
              congr 1; omega
            · rw [if_neg hq3]
        refine ⟨ex ++ [(.arr M (CT.sh 65), .agg (overL (overL (L.take i ++ List.replicate (M - i) (CT.zero 65)) i [wrD x]) (i + 1) ((L.drop i).take (l.length - i))))], by rw [List.append_assoc]; rfl, .inr ⟨ex.length, M, overL (overL (L.take i ++ List.replicate (M - i) (CT.zero 65)) i [wrD x]) (i + 1) ((L.drop i).take (l.length - i)), by simp [insAt_len _ _ _ hi], by simp, by rw [overL_len (by rw [hsrc, hl1]; omega), hl1], by simp [insAt_len _ _ _ hi]; omega, h2, ?_, ?_⟩⟩
        · rw [List.length_map, insAt_len _ _ _ hi]
          refine take_insAt hi hlL (fun q hq => ?_) ?_ (fun q hq1 hq2 => ?_)
          · rw [hg2, if_pos (by omega), if_pos hq]
          · rw [hg2, if_pos (by omega), if_neg (by omega)]
          · rw [hg2, if_neg (by omega), if_pos (by omega), Nat.add_sub_cancel]
        · intro N'' s' L' hm
          rcases List.mem_append.1 hm with h' | h'
          · exact hpu _ _ _ h'
          · simp only [List.mem_singleton, Prod.mk.injEq, D.agg.injEq] at h'
            obtain ⟨_, rfl⟩ := h'
            exact pureL_over (pureL_over (pureL_app (pureL_take _ hpL) (pure_rep _ _ hpz)) hpx) (pureL_take _ (pureL_drop _ hpL))
      · have hro : l.length + 1 ≤ N := by have := of_decide_eq_false hg; omega
        have hi1 : i ≤ l.length + 1 := by omega
        have hi2 : i + 1 ≤ l.length + 1 := by omega
        have w3 : IntKind.i64.wrap ((i : Int) + ((1 : Nat) : Int)) = ((i + 1 : Nat) : Int) := by rw [wrap64] <;> omega
        have hbl : b < (base ++ ex).length := (List.getElem?_eq_some_iff.1 hbx).1
        simp only [go_sem, Nat.reduceAdd, Nat.reduceSub, Nat.reduceMul, Nat.reduceLT, Nat.reduceLeDiff, ↓reduceIte, reduceCtorEq, Nat.reduceEqDiff, Int.reduceToNat, Int.reduceLT, Int.reduceLE, Int.reduceEq, beq_self_eq_true, w1, w3, hro, slice_sl_lo_t, hi2, hi1, Nat.zero_add]
        refine callK_x (overlaps_wr _ _ _ _ hbx) ?_
        rintro r h' ⟨rfl, rfl⟩
        simp only [go_sem, Nat.reduceAdd, Nat.reduceSub, Nat.reduceMul, Nat.reduceLT, Nat.reduceLeDiff, ↓reduceIte, reduceCtorEq, Nat.reduceEqDiff, Int.reduceToNat, Int.reduceLT, Int.reduceLE, Int.reduceEq, beq_self_eq_true, Bool.not_false]
        refine .inl ⟨by kernel_rfl, ?_⟩
        simp only [go_sem, Nat.reduceAdd, Nat.reduceSub, Nat.reduceMul, Nat.reduceLT, Nat.reduceLeDiff, ↓reduceIte, reduceCtorEq, Nat.reduceEqDiff, Int.reduceToNat, Int.reduceLT, Int.reduceLE, Int.reduceEq, beq_self_eq_true, slice_sl_lo_t, hi1, hi2, hro, w3, Nat.zero_add]
        have hsrc : (((L.drop i).take (l.length + 1 - i)).take (l.length + 1 - (i + 1))).length = l.length - i := by simp; omega
        refine aopD_copy _ _ _ _ _ _ _ _ _ _ _ ⟨65, b, _, _, _, N, _, L, (L.drop i).take (l.length + 1 - i), rfl, rfl, hbx, (by show rowOf _ (.sl 65 b i (l.length + 1 - i) (N - i)) = _; simp only [rowOf, hbx]), ?_⟩
        have hl1 : (overL L (i + 1) (((L.drop i).take (l.length + 1 - i)).take (l.length + 1 - (i + 1)))).length = N := by rw [overL_len (by rw [hsrc]; omega), hL]
        have ht1 : [wrD x].take (l.length + 1 - i) = [wrD x] := List.take_of_length_le (by simp; omega)
        simp only [go_sem, Nat.reduceAdd, Nat.reduceSub, Nat.reduceMul, Nat.reduceLT, Nat.reduceLeDiff, ↓reduceIte, reduceCtorEq, Nat.reduceEqDiff, Int.reduceToNat, Int.reduceLT, Int.reduceLE, Int.reduceEq, beq_self_eq_true, slice_sl_lo_t, hi1, hro, Nat.zero_add]
        refine aop_copy _ _ _ _ _ _ _ _ _ _ _ ⟨65, b, _, _, _, N, _, _, [wrD x], rfl, rfl, List.getElem?_set_self hbl, rfl, ?_⟩
        simp only [go_sem, Nat.reduceAdd, Nat.reduceSub, Nat.reduceMul, Nat.reduceLT, Nat.reduceLeDiff, ↓reduceIte, reduceCtorEq, Nat.reduceEqDiff, Int.reduceToNat, Int.reduceLT, Int.reduceLE, Int.reduceEq, beq_self_eq_true, ht1, List.set_set]
        have hg2 : ∀ q, q < l.length + 1 → (overL (overL L (i + 1) (((L.drop i).take (l.length + 1 - i)).take (l.length + 1 - (i + 1)))) i [wrD x])[q]? = if q < i then L[q]? else if q < i + 1 then some (wrD x) else L[q - 1]? := by
          intro q hq
          rw [overL_get (by rw [hl1]; simp; omega)]
          by_cases hq1 : q < i
          · rw [if_pos hq1, if_pos hq1, overL_get (by rw [hsrc]; omega), if_pos (by omega)]
          · rw [if_neg hq1, if_neg hq1]
            by_cases hq2 : q < i + 1
            · rw [if_pos hq2, if_pos (by simpa using hq2)]
              have : q - i = 0 := by omega
              rw [this]; rfl
            · rw [if_neg hq2, if_neg (by simpa using hq2), overL_get (by rw [hsrc]; omega), if_neg hq2, if_pos (by rw [hsrc]; omega), List.getElem?_take, if_pos (by omega), List.getElem?_take, if_pos (by omega), List.getElem?_drop]
              congr 1; omega
        refine ⟨ex.set jx (.arr N (CT.sh 65), .agg (overL (overL L (i + 1) (((L.drop i).take (l.length + 1 - i)).take (l.length + 1 - (i + 1)))) i [wrD x])), by rw [hset]; rfl, .inr ⟨jx, N, overL (overL L (i + 1) (((L.drop i).take (l.length + 1 - i)).take (l.length + 1 - (i + 1)))) i [wrD x], by rw [hb]; simp [insAt_len _ _ _ hi], List.getElem?_set_self hjl, by rw [overL_len (by rw [hl1]; simp; omega), hl1], by simp [insAt_len _ _ _ hi]; omega, hN, ?_, ?_⟩⟩
        · rw [List.length_map, insAt_len _ _ _ hi]
          refine take_insAt hi hlL (fun q hq => ?_) ?_ (fun q hq1 hq2 => ?_)
          · rw [hg2 q (by omega), if_pos hq]
          · rw [hg2 i (by omega), if_neg (by omega), if_pos (by omega)]
          · rw [hg2 (q + 1) (by omega), if_neg (by omega), if_neg (by omega), Nat.add_sub_cancel]
        · intro N'' s' L' hm
          rcases List.mem_or_eq_of_mem_set hm with h' | h'
          · exact hpu _ _ _ h'
          · simp only [Prod.mk.injEq, D.agg.injEq] at h'
            obtain ⟨_, rfl⟩ := h'
            exact pureL_over (pureL_over hpL (pureL_take _ (pureL_take _ (pureL_drop _ hpL)))) hpx
end Go.Ab
