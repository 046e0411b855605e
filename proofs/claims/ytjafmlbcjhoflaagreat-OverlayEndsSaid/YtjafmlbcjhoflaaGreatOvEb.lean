/- Who comes is told of for some steps alone. Conditions: none. -/
import Derived.Test.YtjafmlbcjhoflaaGreatOvEa
import Derived.Test.YtjafmlbcjhoflaaGreatAbFr
set_option linter.unusedSimpArgs false
namespace Go.Ab
open Go.Proofs

theorem tokC_same (n : Nat) (t : Tok) : tokC n n t = t := by simp [tokC]
section
variable {P : Program} {C : Tab}
theorem aop_makeV {K : St → Prop} {dst : Option Tmp} {ts : List D} {bs : List (Sh × D)} {tk : List Bool} {t u : TypeId} {x y : Operand} {n : Nat} {ty : TypeId} {pos : String} {after : Array Edge} {g : Option (Nat × Bool)}
    (ht : C.ty t = .slice u) (hx : St.ev ⟨ts, ⟨bs, tk⟩⟩ x = .int n) (hy : St.ev ⟨ts, ⟨bs, tk⟩⟩ y = .int n) (hm : n ≤ 9223372036854775807) (hb : n * C.bytes u ≤ 281474976710656)
    (hk : K (St.put ⟨ts, ⟨bs ++ [(.arr n (C.sh u), .agg (List.replicate n (C.zero u)))], tk⟩⟩ dst (.sl u bs.length 0 n n))) : aop P C ⟨dst, .makeSlice t x y, ty, pos, after, g⟩ K ⟨ts, ⟨bs, tk⟩⟩ := by
  show (∃ r h', eff C ⟨dst, .makeSlice t x y, ty, pos, after, g⟩ (St.ev ⟨ts, ⟨bs, tk⟩⟩) ⟨bs, tk⟩ r h' ∧ K (St.put ⟨ts, h'⟩ dst r)) ∨ effN C ⟨dst, .makeSlice t x y, ty, pos, after, g⟩ (St.ev ⟨ts, ⟨bs, tk⟩⟩) ⟨bs, tk⟩ fun r h' => K (St.put ⟨ts, h'⟩ dst r)
  right
  simp only [effN, ht]
  exact ⟨n, n, hx, hy, Nat.le_refl _, hm, hb, hk⟩
theorem appK_any {K : St → Prop} {dst : Option Tmp} {ts : List D} {mu : Bool} (e : TypeId) (l m : List D) (t t' : Tok) (bs : List (Sh × D)) (tk : List Bool) (ha : live t tk) (hb : 0 < C.bytes e) (hl : (l.length + m.length) * C.bytes e ≤ 140737488355328)
    (hk : ∀ u tk', live u tk' → K (St.put ⟨ts, ⟨bs, tk'⟩⟩ dst (.lst e (l ++ m) u))) : appK C mu K dst ts bs tk (.slice e) (.lst e l t) (.lst e m t') := by
  by_cases hm : m = []
  · subst hm
    refine .inl ⟨e, rfl, _, _, ⟨l, [], t, t', rfl, rfl, hb, hl, ?_, .inr ⟨rfl, rfl, rfl⟩⟩, by have := hk t tk ha; rw [List.append_nil] at this; exact this⟩
    cases t with
    | no => exact ha.elim
    | full => trivial
    | own id => exact ha
  · exact appK_live _ _ _ e l m t t' bs tk ha hm hb hl hk
theorem drawN_freshQ {l : List Oper} {Q : St → Prop} {s : St} {sA : Tok → List Bool → St} (tk : List Bool) (pre : List Nat) (c al : Nat) (post : List Nat) (hok : okFresh l.toArray pre c al post = true)
    (h1 : ∀ Q' : St → Prop, (∀ t tk', live t (tk ++ tk') → Q' (sA t tk')) → aopsD P C l.toArray (callF P C l.toArray c (aopsD P C l.toArray Q' (pickL l (al :: post)))) (pickL l pre) s)
    (h2 : ∀ Q' : St → Prop, (∀ t tk', live t (tk ++ tk') → Q' (sA t tk')) → aopsD P C l.toArray (callF P C l.toArray c (aopsD P C l.toArray Q' (pickL l post))) (pickL l (pre ++ [al])) s)
    (hA : ∀ t tk', live t (tk ++ tk') → Q (sA t tk')) : drawN P C l.toArray Q s := drawN_fresh pre c al post hok (h1 Q hA) (h2 Q hA)
theorem FSpec.call_made {f : FuncId} {args args' : List D} {R : D → TypeId → List D → Prop} (hs : FSpec P C f args' R) (bs : List (Sh × D)) (tk : List Bool) (ha : args.map erase = args') (hp : pureL args') :
    ASpec P C f args ⟨bs, tk⟩ fun r h' => ∃ a u L t z, r = .tup [a, .lst u L t] ∧ h' = ⟨bs, tk ++ z⟩ ∧ live t (tk ++ z) ∧ R a u L :=
  (hs.call bs tk ha hp).mono fun r h' ⟨a, u, L, t, z, h1, h2, h3, h4⟩ => ⟨a, u, L, t, z, h1, h2, h3.1, h4⟩
theorem live_app {t : Tok} {tk : List Bool} (h : live t tk) (z : List Bool) : live t (tk ++ z) := by
  cases t with
  | no => exact h
  | full => trivial
  | own id =>
    have h' : tk[id]? = some true := h
    show (tk ++ z)[id]? = some true
    rw [List.getElem?_append_left (List.getElem?_eq_some_iff.1 h').1]; exact h'
end
set_option maxRecDepth 8000 in
set_option maxHeartbeats 2000000 in
theorem overlay_meetF (v : ViewR) (by_ d : Int) (ha : v.act.length < 1000000) (hp : v.pas.length < 1000000) :
    FSpec Tryz.prog CT 10 [viewD v, .lit (.int .i64 by_), .lit (.int .i64 d)] (fun a u L => a = viewD (meetV v by_ d).1 ∧ u = 45 ∧ L = (meetV v by_ d).2.map (rawM .no .no)) := by
  refine FSpec.ofDeep (R0 := fun r h' => ∃ u L, r = .tup [viewD (meetV v by_ d).1, .lst 45 L u] ∧ live u h'.toks ∧ deepL L = (meetV v by_ d).2.map (rawM .no .no)) ?_ ?_
  · refine ASpec.of hT Tryz.func10 rfl (by kernel_rfl) rfl rfl ?_
    simp only [Tryz.f10, go_sem, Nat.reduceAdd, Nat.reduceSub, Nat.reduceMul, Nat.reduceLT, Nat.reduceLeDiff, ↓reduceIte, reduceCtorEq, Nat.reduceEqDiff, Int.reduceToNat, Int.reduceLT, Int.reduceLE, Int.reduceEq, beq_self_eq_true, noHeap]
    have hs := begun_live v d 29 [.ptr 1 []] [(viewSh', viewD v), (.leaf, .lit (.int .i64 by_)), (viewSh', CT.zero 24)] [] ha hp (fun v' L => v' = (meetV v by_ d).1 ∧ L = (meetV v by_ d).2.map (rawM .full .full)) (fun h => by
      have e : meetV v by_ d = (v, []) := by rw [meetV, h]; rfl
      rw [e]; exact ⟨rfl, rfl⟩) (fun hck ex b hbl hb => meet1 v by_ d hck ha hp _ [] b 1 hb rfl (by simp at hbl; omega))
    rw [zero24] at hs
    refine callK_a hs ?_
    rintro r h' ⟨v', L, u, bs', tk3, rfl, rfl, ⟨rfl, rfl⟩, hl, h2⟩
    have h3 : bs'[2]? = _ := (h2 2 (by simp)).trans rfl
    have hl3 := (List.getElem?_eq_some_iff.1 h3).1
    have h4 : ∀ y, (bs'.set 2 y)[2]? = some y := fun y => List.getElem?_set_self hl3
    simp only [go_sem, Nat.reduceAdd, Nat.reduceSub, Nat.reduceMul, Nat.reduceLT, Nat.reduceLeDiff, ↓reduceIte, reduceCtorEq, Nat.reduceEqDiff, Int.reduceToNat, Int.reduceLT, Int.reduceLE, Int.reduceEq, beq_self_eq_true, h3, h4]
    exact ⟨u, _, rfl, hl.1, deep_raws _ _ _⟩
  · rintro r h' ⟨u, L, rfl, hl, h5⟩
    exact ⟨_, _, _, _, rfl, by rw [deep_view]; exact pure_view _, hl, by rw [deep_view], rfl, h5⟩
set_option maxRecDepth 8000 in
set_option maxHeartbeats 4000000 in
theorem overlay_takeF (v : ViewR) (y : GMsg) (d : Int) (hg : GOk y) (hpp : y.peers.length < 100000) (ha : v.act.length < 100000) (hp : v.pas.length < 100000) :
    FSpec Tryz.prog CT 11 [viewD v, rawG y, .lit (.int .i64 d)] (fun a u L => a = viewD (takeV v y d).1 ∧ u = 45 ∧ L = (takeV v y d).2.map (rawM .no .no)) := by
  obtain ⟨d1, d2, d3, _⟩ := id hg
  refine FSpec.ofDeep (R0 := fun r h' => ∃ u L, r = .tup [viewD (takeV v y d).1, .lst 45 L u] ∧ live u h'.toks ∧ deepL L = (takeV v y d).2.map (rawM .no .no)) ?_ ?_
  · refine ASpec.of hT Tryz.func11 rfl (by kernel_rfl) rfl rfl ?_
    simp only [Tryz.f11, go_sem, Nat.reduceAdd, Nat.reduceSub, Nat.reduceMul, Nat.reduceLT, Nat.reduceLeDiff, ↓reduceIte, reduceCtorEq, Nat.reduceEqDiff, Int.reduceToNat, Int.reduceLT, Int.reduceLE, Int.reduceEq, beq_self_eq_true, noHeap, zeros_len, d1, d2, d3, sh_tree, nrm_tree, true_and]
    have hs := begun_live v d 32 [.ptr 1 []] [(viewSh', viewD v), (msgSh, rawG y), (viewSh', CT.zero 24)] [] (by omega) (by omega) (fun v' L => v' = (takeV v y d).1 ∧ deepL L = (takeV v y d).2.map (rawM .no .no)) (fun h => by
      have e : takeV v y d = (v, []) := by rw [takeV, h]; rfl
      rw [e]; exact ⟨rfl, rfl⟩) (fun hck ex b hbl hb => (take1G v y d hg hpp hck ha hp _ [] b 1 hb rfl).mono fun _ _ h => step_work h)
    rw [zero24] at hs
    refine callK_a hs ?_
    rintro r h' ⟨v', L, u, bs', tk3, rfl, rfl, ⟨rfl, h5⟩, hl, h2⟩
    have h3 : bs'[2]? = _ := (h2 2 (by simp)).trans rfl
    have hl3 := (List.getElem?_eq_some_iff.1 h3).1
    have h4 : ∀ y, (bs'.set 2 y)[2]? = some y := fun y => List.getElem?_set_self hl3
    simp only [go_sem, Nat.reduceAdd, Nat.reduceSub, Nat.reduceMul, Nat.reduceLT, Nat.reduceLeDiff, ↓reduceIte, reduceCtorEq, Nat.reduceEqDiff, Int.reduceToNat, Int.reduceLT, Int.reduceLE, Int.reduceEq, beq_self_eq_true, h3, h4]
    exact ⟨u, L, rfl, hl.1, h5⟩
  · rintro r h' ⟨u, L, rfl, hl, h5⟩
    exact ⟨_, _, _, _, rfl, by rw [deep_view]; exact pure_view _, hl, by rw [deep_view], rfl, h5⟩
theorem len_sumW : ∀ l : List MsgM, l.length ≤ sumW l
  | [] => by simp
  | x :: r => by rw [sumW_cons, List.length_cons]; have := wM_pos x; have := len_sumW r; omega
/-- A made message on its way. -/
def WOk (m : MsgM) : Prop := okG (gOf m) = true ∧ (7 ≤ m.kind ∧ m.kind ≤ 13) ∧ m.peers.length ≤ 40
theorem check_way {m : MsgM} (h : WOk m) : PSpec Tryz.prog CT 23 [rawM .no .no m] (· = .bool true) := by
  obtain ⟨h1, ⟨h2, h3⟩, h5⟩ := h
  have := ref26_checkG (gOf m) (gok_gOf h5) (by show m.peers.length < 4000000000; omega) h2 h3
  rw [raw_gOf, h1] at this
  exact this
theorem take_way {v : ViewR} {m : MsgM} (d : Int) (h : WOk m) (ha : v.act.length < 100000) (hp : v.pas.length < 100000) :
    FSpec Tryz.prog CT 11 [viewD v, rawM .no .no m, .lit (.int .i64 d)] (fun a u L => a = viewD (takeV v (gOf m) d).1 ∧ u = 45 ∧ L = (takeV v (gOf m) d).2.map (rawM .no .no)) := by
  have := overlay_takeF v (gOf m) d (gok_gOf h.2.2) (by show m.peers.length < 100000; have := h.2.2; omega) ha hp
  rw [raw_gOf] at this
  exact this
theorem pure_made (m : MsgM) : pureD (rawM .no .no m) := by
  have := pure_rawG (gOf m)
  rw [raw_gOf] at this
  exact this.1
/-- Everybody's views. -/
structure VsOk (vs : List ViewR) : Prop where
  len : vs.length = 12
  ok : ∀ (i : Nat) (v : ViewR), vs[i]? = some v → VOk v ∧ v.self = (i : Int) + 1
theorem VsOk.set {vs : List ViewR} (h : VsOk vs) {i : Nat} {v x : ViewR} (hv : vs[i]? = some v) (hx : VOk x) (hs : x.self = v.self) : VsOk (vs.set i x) := by
  refine ⟨by rw [List.length_set]; exact h.len, fun j y hy => ?_⟩
  rw [List.getElem?_set] at hy
  split at hy
  · rename_i hij
    subst hij
    split at hy
    · cases hy; exact ⟨hx, hs.trans (h.ok i v hv).2⟩
    · cases hy
  · exact h.ok j y hy
def vsL (l : List ViewR) (j : Nat) : List D := CT.zero 24 :: ((l.take j).map viewD ++ List.replicate (12 - j) (CT.zero 24))
theorem vsL_len (l : List ViewR) (j : Nat) (hj : j ≤ 12) (hl : 12 ≤ l.length) : (vsL l j).length = 13 := by
  simp [vsL]; omega
theorem vsL_set {l : List ViewR} {j : Nat} (hj : j < 12) {v : ViewR} (hv : l[j]? = some v) : (vsL l j).set (j + 1) (viewD v) = vsL l (j + 1) := by
  have hjl := (List.getElem?_eq_some_iff.1 hv).1
  have h1 : ((l.take j).map viewD).length = j := by simp; omega
  rw [vsL, List.set_cons_succ, List.set_append_right _ _ (by omega), h1, Nat.sub_self, show 12 - j = (12 - (j + 1)) + 1 by omega, List.replicate_succ, List.set_cons_zero, vsL, List.take_add_one, hv]
  simp
theorem vsL_end {l : List ViewR} (hl : 12 ≤ l.length) : vsL l 12 = CT.zero 24 :: (l.take 12).map viewD := by simp [vsL]
theorem vs_at {z : D} {vs : List ViewR} {p : Int} (hp : 1 ≤ p) (hp2 : p ≤ 12) (h : VsOk vs) : ∃ i v, p.toNat = i + 1 ∧ vs[i]? = some v ∧ (z :: vs.map viewD)[p.toNat]? = some (viewD v) ∧ p = (i : Int) + 1 := by
  obtain ⟨i, hi⟩ : ∃ i : Nat, p = (i : Int) + 1 := ⟨p.toNat - 1, by omega⟩
  have hlt : i < vs.length := by rw [h.len]; omega
  refine ⟨i, vs[i], by omega, List.getElem?_eq_getElem hlt, ?_, hi⟩
  have e : p.toNat = i + 1 := by omega
  rw [e, List.getElem?_cons_succ, List.getElem?_map, List.getElem?_eq_getElem hlt]; rfl
theorem vs_set {z : D} {vs : List ViewR} {p i : Nat} (hp : p = i + 1) (x : ViewR) : (z :: vs.map viewD).set p (viewD x) = z :: (vs.set i x).map viewD := by
  subst hp
  rw [List.set_cons_succ, List.map_set]
theorem inv_views {d : D} (h : HasTy CT 54 d) : ∃ l : List ViewR, d = .lst 24 (l.map viewD) .no ∧ l.length ≤ maxLen := by
  obtain ⟨os, rfl, h1, h2⟩ := h.inv_slice ty54
  obtain ⟨l, rfl, _⟩ := all_of (enc := viewD) (Q := fun _ => True) fun x hx => by
    obtain ⟨v, hv, _⟩ := inv_view (h2 x hx)
    exact ⟨v, hv, trivial⟩
  exact ⟨l, rfl, by simpa using h1⟩
end Go.Ab
