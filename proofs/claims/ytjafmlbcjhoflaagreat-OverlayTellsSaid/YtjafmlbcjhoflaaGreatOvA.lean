/- Who is whose neighbour: messages, and how they are sent. Conditions: none. -/
import Derived.Test.YtjafmlbcjhoflaaGreatViF
import Derived.Test.YtjafmlbcjhoflaaGreatAbPg
import Derived.Test.YtjafmlbcjhoflaaGreatAbDp
open Nat (reduceAdd reduceSub reduceMul reduceLT reduceLeDiff reduceEqDiff)
open Int (reduceToNat reduceLE reduceEq)
set_option linter.unusedSimpArgs false
namespace Go.Ab
open Go.Proofs

abbrev zVec : D := .agg ((zeros 13).map fun n => .lit (.int .i64 n))
abbrev zTree (u : Tok) : D := .agg [.lit (.int .i64 0), .lst 41 [] u]
/-- A message, as the program makes it. -/
structure MsgM where
  kind : Int
  from_ : Int
  to : Int
  flag : Bool
  n : Int
  of_ : Int
  peers : List Int
  deriving DecidableEq
/-- A made message's data; its lists' tokens are these. -/
abbrev rawM (u w : Tok) (m : MsgM) : D := .agg [.lit (.int .i64 m.kind), .lit (.int .i64 m.from_), .lit (.int .i64 m.to), .agg [.agg [.lit (.int .i64 0), .lit (.int .i64 0)], zVec, .lit (.int .i64 0), .lst 89 [] u], zVec, zVec, .lit (.bool m.flag), .lit (.int .i64 0), .lit (.int .i64 m.n), .lit (.int .i64 m.of_), .lst 5 [] u, .agg [zTree u, zTree u], intsL m.peers w]
abbrev msgSh : Sh := (.pair .leaf (.pair .leaf (.pair .leaf (.pair (.pair (.pair .leaf (.pair .leaf .unit)) (.pair (.arr 13 .leaf) (.pair .leaf (.pair .leaf .unit)))) (.pair (.arr 13 .leaf) (.pair (.arr 13 .leaf) (.pair .leaf (.pair .leaf (.pair .leaf (.pair .leaf (.pair .leaf (.pair (.pair (.pair .leaf (.pair .leaf .unit)) (.pair (.pair .leaf (.pair .leaf .unit)) .unit)) (.pair .leaf .unit)))))))))))))
abbrev walkSh : Sh := (.pair (.pair .leaf (.pair .leaf (.pair .leaf .unit))) (.pair .leaf (.pair .leaf .unit)))
abbrev walkD (v : ViewR) (d : Int) (L : List D) (u : Tok) : D := .agg [viewD v, .lit (.int .i64 d), .lst 45 L u]
theorem nil_ptrO (b : Nat) (p : List Nat) : nilD (.ptr b p) = some (.ptr b p) := Eq.trans rfl rfl
/-- Only one box changed. -/
def Fr (b : Nat) (bs bs' : List (Sh × D)) : Prop := bs.length ≤ bs'.length ∧ ∀ j, j ≠ b → j < bs.length → bs'[j]? = bs[j]?
theorem fr_refl (b : Nat) (bs : List (Sh × D)) : Fr b bs bs := ⟨Nat.le_refl _, fun _ _ _ => rfl⟩
theorem fr_trans {b : Nat} {x y z : List (Sh × D)} (h : Fr b x y) (k : Fr b y z) : Fr b x z := ⟨Nat.le_trans h.1 k.1, fun j hj hl => (k.2 j hj (by have := h.1; omega)).trans (h.2 j hj hl)⟩
theorem fr_set (b : Nat) (bs : List (Sh × D)) (y : Sh × D) : Fr b bs (bs.set b y) := ⟨by simp, fun j hj _ => by rw [List.getElem?_set_ne (Ne.symm hj)]⟩
theorem fr_more (b : Nat) (bs ex : List (Sh × D)) : Fr b bs (bs ++ ex) := ⟨by simp, fun j _ hl => by rw [List.getElem?_append_left hl]⟩
set_option maxRecDepth 8000 in
set_option maxHeartbeats 1000000 in
theorem walk_send (v : ViewR) (d : Int) (L : List D) (u : Tok) (m : MsgM) (w : Tok) (bs : List (Sh × D)) (tk tk2 : List Bool) (b : Nat) (hb : bs[b]? = some (walkSh, walkD v d L u)) (hu : liveH u tk tk2) (hL : L.length < 1000000) (hw : pureD (intsL m.peers w) = True) :
    ASpec Tryz.prog CT 31 [.ptr b [], rawM .full w m] ⟨bs, tk ++ tk2⟩ fun _ h' => ∃ bs' tk3 u', h' = ⟨bs', tk ++ tk3⟩ ∧ bs'[b]? = some (walkSh, walkD v d (L ++ [rawM .full w { m with from_ := v.self }]) u') ∧ liveH u' tk tk3 ∧ Fr b bs bs' := by
  refine ASpec.of hT Tryz.func31 rfl (by kernel_rfl) rfl rfl ?_
  have hbl := (List.getElem?_eq_some_iff.1 hb).1
  have g1 : ∀ y, (bs ++ [y])[b]? = some (walkSh, walkD v d L u) := fun y => by rw [List.getElem?_append_left hbl]; exact hb
  have g2 : ∀ y, (bs ++ [y])[bs.length]? = some y := fun y => by simp
  have g3 : ∀ y z, (bs ++ [y]).set bs.length z = bs ++ [z] := fun y z => by simp
  have g4 : ∀ y z, (bs ++ [y]).set b z = bs.set b z ++ [y] := fun y z => by rw [List.set_append_left _ _ hbl]
  simp only [Tryz.f31, go_sem, reduceAdd, reduceSub, reduceMul, reduceLT, reduceLeDiff, ↓reduceIte, reduceCtorEq, reduceEqDiff, reduceToNat, Int.reduceLT, reduceLE, reduceEq, nil_ptrO, g1, g2, g3]
  refine .inl ⟨by kernel_rfl, ?_⟩
  simp only [go_sem, reduceAdd, reduceSub, reduceMul, reduceLT, reduceLeDiff, ↓reduceIte, reduceCtorEq, reduceEqDiff, reduceToNat, Int.reduceLT, reduceLE, reduceEq, zeros_len, hw]
  refine appK_liveH _ _ _ _ _ _ _ _ hu (by simp) (by simp only [go_sem, reduceAdd, reduceSub, reduceMul, reduceLT, reduceLeDiff, ↓reduceIte, reduceCtorEq, reduceEqDiff, reduceToNat, Int.reduceLT, reduceLE, reduceEq]) (by simp only [go_sem, reduceAdd, reduceSub, reduceMul, reduceLT, reduceLeDiff, ↓reduceIte, reduceCtorEq, reduceEqDiff, reduceToNat, Int.reduceLT, reduceLE, reduceEq, List.length_singleton]; omega) (fun u' tk' hu' => ?_)
  simp only [go_sem, reduceAdd, reduceSub, reduceMul, reduceLT, reduceLeDiff, ↓reduceIte, reduceCtorEq, reduceEqDiff, reduceToNat, Int.reduceLT, reduceLE, reduceEq, nil_ptrO, g1, g2, g4]
  refine ⟨_, tk', u', rfl, ?_, hu', ?_⟩
  · rw [List.getElem?_append_left (by simpa using hbl), List.getElem?_set_self hbl]
  · exact fr_trans (fr_set b bs _) (fr_more b _ _)
/-- What is sent to who is not had any more. -/
def goneM (v : ViewR) (p d : Int) : List MsgM := if (addV v p d).2 = 0 then [] else [⟨11, (addV v p d).1.self, (addV v p d).2, false, 0, 0, []⟩]
set_option maxRecDepth 8000 in
set_option maxHeartbeats 1000000 in
theorem walk_have (v : ViewR) (d : Int) (L : List D) (u : Tok) (p : Int) (bs : List (Sh × D)) (tk tk2 : List Bool) (b : Nat) (hb : bs[b]? = some (walkSh, walkD v d L u)) (hu : liveH u tk tk2) (hL : L.length < 1000000) (ha : v.act.length < 1000000) (hp : v.pas.length < 1000000) :
    ASpec Tryz.prog CT 30 [.ptr b [], .lit (.int .i64 p)] ⟨bs, tk ++ tk2⟩ fun _ h' => ∃ bs' tk3 u', h' = ⟨bs', tk ++ tk3⟩ ∧ bs'[b]? = some (walkSh, walkD (addV v p d).1 d (L ++ (goneM v p d).map (rawM .full .full)) u') ∧ liveH u' tk tk3 ∧ Fr b bs bs' := by
  have hbl := (List.getElem?_eq_some_iff.1 hb).1
  have g1 : ∀ y, (bs ++ [y])[b]? = some (walkSh, walkD v d L u) := fun y => by rw [List.getElem?_append_left hbl]; exact hb
  have g2 : ∀ y, (bs ++ [y])[bs.length]? = some y := fun y => by simp
  have g3 : ∀ y z, (bs ++ [y]).set bs.length z = bs ++ [z] := fun y z => by simp
  have g4 : ∀ y z, (bs ++ [y]).set b z = bs.set b z ++ [y] := fun y z => by rw [List.set_append_left _ _ hbl]
  refine ASpec.of hT Tryz.func30 rfl (by kernel_rfl) rfl rfl ?_
  simp only [Tryz.f30, go_sem, reduceAdd, reduceSub, reduceMul, reduceLT, reduceLeDiff, ↓reduceIte, reduceCtorEq, reduceEqDiff, reduceToNat, Int.reduceLT, reduceLE, reduceEq, nil_ptrO, hb]
  refine .inl ⟨by kernel_rfl, ?_⟩
  try simp only [go_sem, reduceAdd, reduceSub, reduceMul, reduceLT, reduceLeDiff, ↓reduceIte, reduceCtorEq, reduceEqDiff, reduceToNat, Int.reduceLT, reduceLE, reduceEq, nil_ptrO, hb]
  refine callD_pure (view_add v p d ha hp) (by first | rfl | (simp only [go_sem]; done)) (by first | (simp only [go_sem]; done) | (simp [pureL, pureD]; done)) ?_
  simp only [go_sem, reduceAdd, reduceSub, reduceMul, reduceLT, reduceLeDiff, ↓reduceIte, reduceCtorEq, reduceEqDiff, reduceToNat, Int.reduceLT, reduceLE, reduceEq, nil_ptrO, hb, g1, g2, g3, g4]
  have hb2 : ∀ y z, (bs.set b y ++ [z])[b]? = some y := fun y z => by rw [List.getElem?_append_left (by simpa using hbl), List.getElem?_set_self hbl]
  have hf : ∀ y z, Fr b bs (bs.set b y ++ [z]) := fun y z => fr_trans (fr_set b bs _) (fr_more b _ _)
  refine condK_split (fun h1 => ?_) (fun h1 => ?_)
  · have h1' : ¬ (addV v p d).2 = 0 := by simpa using h1
    have e : goneM v p d = [⟨11, (addV v p d).1.self, (addV v p d).2, false, 0, 0, []⟩] := if_neg h1'
    simp only [go_sem, reduceAdd, reduceSub, reduceMul, reduceLT, reduceLeDiff, ↓reduceIte, reduceCtorEq, reduceEqDiff, reduceToNat, Int.reduceLT, reduceLE, reduceEq, zeros_len]
    refine callK_a (walk_send (addV v p d).1 d L u ⟨11, 0, (addV v p d).2, false, 0, 0, []⟩ .full _ tk tk2 b (hb2 _ _) hu hL (by simp only [go_sem, reduceAdd, reduceSub, reduceMul, reduceLT, reduceLeDiff, ↓reduceIte, reduceCtorEq, reduceEqDiff, reduceToNat, Int.reduceLT, reduceLE, reduceEq])) ?_
    rintro r h' ⟨bs', tk3, u', rfl, h2, h3, h4⟩
    simp only [go_sem, reduceAdd, reduceSub, reduceMul, reduceLT, reduceLeDiff, ↓reduceIte, reduceCtorEq, reduceEqDiff, reduceToNat, Int.reduceLT, reduceLE, reduceEq]
    rw [e]
    exact ⟨bs', tk3, u', rfl, h2, h3, fr_trans (hf _ _) h4⟩
  · have h1' : (addV v p d).2 = 0 := by simpa using h1
    have e : goneM v p d = [] := if_pos h1'
    simp only [go_sem, reduceAdd, reduceSub, reduceMul, reduceLT, reduceLeDiff, ↓reduceIte, reduceCtorEq, reduceEqDiff, reduceToNat, Int.reduceLT, reduceLE, reduceEq]
    rw [e]
    exact ⟨_, tk2, u, rfl, by rw [List.map_nil, List.append_nil]; exact hb2 _ _, hu, hf _ _⟩
end Go.Ab
set_option linter.unusedSimpArgs false
namespace Go.Ab
open Go.Proofs

/-- A function that only computes, whose result holds fresh slices within slices. -/
theorem PSpec.ofDeep {P : Program} {C : Tab} {f : FuncId} {args : List D} {R : D → Heap → Prop} {Q : D → Prop} (hs : ASpec P C f args noHeap R)
    (hr : ∀ r h', R r h' → pureR (deep r) ∧ Q (deep r)) : PSpec P C f args Q :=
  ⟨hs.1, fun ρ w vs hreal ha => (hs.2 ρ w vs hreal ha).mono fun _ _ ⟨v, r, h', ρ', h1, h2, h3, h4, h5⟩ => ⟨v, deep r, h', ρ', h1, h2, h3, vv_deep h4, hr r h' h5⟩⟩
/-- What views at work come to. -/
def WorkR (d : Int) (b : Nat) (bs1 : List (Sh × D)) (tk : List Bool) (R : ViewR → List D → Prop) (h' : Heap) : Prop :=
  ∃ bs' tk3 u' v' L, h' = ⟨bs', tk ++ tk3⟩ ∧ bs'[b]? = some (walkSh, walkD v' d L u') ∧ liveH u' tk tk3 ∧ Fr b bs1 bs' ∧ R v' L
abbrev viewSh' : Sh := (.pair .leaf (.pair .leaf (.pair .leaf .unit)))
set_option maxRecDepth 8000 in
set_option maxHeartbeats 1000000 in
theorem begun_live (v : ViewR) (d : Int) (f : FuncId) (caps : List D) (bs : List (Sh × D)) (tk : List Bool) (ha : v.act.length < 1000000) (hp : v.pas.length < 1000000) (R : ViewR → List D → Prop) (h0 : checkV v = false → R v [])
    (hs : checkV v = true → ∀ ex b, bs.length ≤ b → (bs ++ ex)[b]? = some (walkSh, walkD v d [] .full) → ASpec Tryz.prog CT f (.ptr b [] :: caps) ⟨bs ++ ex, tk⟩ fun _ h' => WorkR d b (bs ++ ex) tk R h') :
    ASpec Tryz.prog CT 28 [viewD v, .lit (.int .i64 d), .fn (.func f) caps] ⟨bs, tk⟩ fun r h' => ∃ v' L u bs' tk3, r = .tup [viewD v', .lst 45 L u] ∧ h' = ⟨bs', tk ++ tk3⟩ ∧ R v' L ∧ liveH u tk tk3 ∧ ∀ j, j < bs.length → bs'[j]? = bs[j]? := by
  refine ASpec.of hT Tryz.func28 rfl (by kernel_rfl) rfl rfl ?_
  have l1 : ∀ y : Sh × D, (bs ++ [y]).length = bs.length + 1 := fun y => by simp
  have l2 : ∀ y z : Sh × D, (bs ++ [y] ++ [z]).length = bs.length + 2 := fun y z => by simp
  have g2 : ∀ y z, (bs ++ [y] ++ [z])[bs.length]? = some y := fun y z => by rw [List.append_assoc, List.getElem?_append_right (Nat.le_refl _)]; simp
  have g3 : ∀ y z, (bs ++ [y] ++ [z])[bs.length + 1]? = some z := fun y z => by rw [List.append_assoc, List.getElem?_append_right (by omega)]; simp
  have g5 : ∀ y z x, (bs ++ [y] ++ [z]).set (bs.length + 1) x = bs ++ [y] ++ [x] := fun y z x => by rw [List.append_assoc, List.set_append_right _ _ (by omega), List.append_assoc]; simp
  simp only [Tryz.f28, go_sem, reduceAdd, reduceSub, reduceMul, reduceLT, reduceLeDiff, ↓reduceIte, reduceCtorEq, reduceEqDiff, reduceToNat, Int.reduceLT, reduceLE, reduceEq, l1, g2]
  refine callK_pure (view_check v (by omega) (by omega)) (by first | rfl | (simp only [go_sem]; done)) (by first | (simp only [go_sem]; done) | (simp [pureL, pureD]; done)) ?_
  cases h1 : checkV v with
  | false =>
    simp only [go_sem, reduceAdd, reduceSub, reduceMul, reduceLT, reduceLeDiff, ↓reduceIte, reduceCtorEq, reduceEqDiff, reduceToNat, Int.reduceLT, reduceLE, reduceEq, l1, g2, g3, g5, Bool.not_false]
    exact ⟨v, [], .full, _, [], rfl, by rw [List.append_nil], h0 h1, ⟨trivial, trivial⟩, fun j hj => by rw [List.append_assoc, List.getElem?_append_left hj]⟩
  | true =>
    simp only [go_sem, reduceAdd, reduceSub, reduceMul, reduceLT, reduceLeDiff, ↓reduceIte, reduceCtorEq, reduceEqDiff, reduceToNat, Int.reduceLT, reduceLE, reduceEq, l1, l2, g2, g3, g5, Bool.not_true]
    have hassoc : ∀ x y z : Sh × D, bs ++ [x] ++ [y] ++ [z] = bs ++ [x, y, z] := fun x y z => by simp
    have l3 : ∀ x y : Sh × D, (bs ++ [x, y]).length = bs.length + 2 := fun x y => by simp
    have g6 : ∀ x y z : Sh × D, (bs ++ [x, y, z])[bs.length + 2]? = some z := fun x y z => by rw [List.getElem?_append_right (by omega)]; simp
    have g7 : ∀ x y z : Sh × D, (bs ++ [x, y, z])[bs.length + 1]? = some y := fun x y z => by rw [List.getElem?_append_right (by omega)]; simp
    rw [hassoc]
    refine callK_a (hs h1 _ (bs.length + 2) (by omega) (g6 _ _ _)) ?_
    rintro r h' ⟨bs', tk3, u', v', L, rfl, h2, h3, h4, h5⟩
    have h6 : bs'[bs.length + 1]? = _ := (h4.2 (bs.length + 1) (by omega) (by simp)).trans (g7 _ _ _)
    have hl6 := (List.getElem?_eq_some_iff.1 h6).1
    have h7 : ∀ y, (bs'.set (bs.length + 1) y)[bs.length + 1]? = some y := fun y => List.getElem?_set_self hl6
    simp only [go_sem, reduceAdd, reduceSub, reduceMul, reduceLT, reduceLeDiff, ↓reduceIte, reduceCtorEq, reduceEqDiff, reduceToNat, Int.reduceLT, reduceLE, reduceEq, nil_ptrO, h2]
    have h8 : ∀ y, (bs'.set (bs.length + 1) y)[bs.length + 2]? = some (walkSh, walkD v' d L u') := fun y => by rw [List.getElem?_set_ne (by omega)]; exact h2
    refine .inr ?_
    apply drawN_one [6, 7, 8] [[0, 1, 2, 3, 4, 5, 6, 7, 8, 9], [0, 1, 2, 3, 4, 5, 6, 8, 7, 9], [0, 1, 2, 3, 4, 5, 8, 6, 7, 9]] (by kernel_rfl)
    · intro Q' hA ord ho
      simp only [List.mem_cons, List.not_mem_nil, or_false] at ho
      rcases ho with rfl | rfl | rfl
      · simp only [go_sem, reduceAdd, reduceSub, reduceMul, reduceLT, reduceLeDiff, ↓reduceIte, reduceCtorEq, reduceEqDiff, reduceToNat, Int.reduceLT, reduceLE, reduceEq, nil_ptrO, h2, h6, h7, h8]; exact hA
      · simp only [go_sem, reduceAdd, reduceSub, reduceMul, reduceLT, reduceLeDiff, ↓reduceIte, reduceCtorEq, reduceEqDiff, reduceToNat, Int.reduceLT, reduceLE, reduceEq, nil_ptrO, h2, h6, h7, h8]; exact hA
      · simp only [go_sem, reduceAdd, reduceSub, reduceMul, reduceLT, reduceLeDiff, ↓reduceIte, reduceCtorEq, reduceEqDiff, reduceToNat, Int.reduceLT, reduceLE, reduceEq, nil_ptrO, h2, h6, h7, h8]; exact hA
    simp only [go_sem, reduceAdd, reduceSub, reduceMul, reduceLT, reduceLeDiff, ↓reduceIte, reduceCtorEq, reduceEqDiff, reduceToNat, Int.reduceLT, reduceLE, reduceEq, nil_ptrO, h2, h6, h7, h8]
    exact ⟨v', L, u', _, tk3, rfl, rfl, h5, h3, fun j hj => by rw [List.getElem?_set_ne (by omega), h4.2 j (by omega) (by simp; omega), List.getElem?_append_left hj]⟩
theorem begun_spec (v : ViewR) (d : Int) (f : FuncId) (caps : List D) (bs : List (Sh × D)) (tk : List Bool) (ha : v.act.length < 1000000) (hp : v.pas.length < 1000000) (R : ViewR → List D → Prop) (h0 : checkV v = false → R v [])
    (hs : checkV v = true → ∀ ex b, bs.length ≤ b → (bs ++ ex)[b]? = some (walkSh, walkD v d [] .full) → ASpec Tryz.prog CT f (.ptr b [] :: caps) ⟨bs ++ ex, tk⟩ fun _ h' => WorkR d b (bs ++ ex) tk R h') :
    ASpec Tryz.prog CT 28 [viewD v, .lit (.int .i64 d), .fn (.func f) caps] ⟨bs, tk⟩ fun r h' => ∃ v' L u bs' tk3, r = .tup [viewD v', .lst 45 L u] ∧ h' = ⟨bs', tk ++ tk3⟩ ∧ R v' L ∧ ∀ j, j < bs.length → bs'[j]? = bs[j]? :=
  (begun_live v d f caps bs tk ha hp R h0 hs).mono fun r h' ⟨v', L, u, bs', tk3, h1, h2, h3, _, h4⟩ => ⟨v', L, u, bs', tk3, h1, h2, h3, h4⟩
end Go.Ab
set_option linter.unusedSimpArgs false
namespace Go.Ab
open Go.Proofs

theorem deep_ints (l : List Int) : deepL (l.map fun n => D.lit (.int .i64 n)) = l.map fun n => D.lit (.int .i64 n) := by
  rw [deepL_map, List.map_map]; exact List.map_congr_left fun _ _ => rfl
abbrev msgsD (l : List MsgM) : D := .lst 45 (l.map (rawM .no .no)) .no
theorem deep_raw (u w : Tok) (m : MsgM) : deep (rawM u w m) = rawM .no .no m := by
  simp only [rawM, zVec, zTree, intsL, deep, deepL, deep_ints]
theorem deep_raws (u w : Tok) (l : List MsgM) : deepL (l.map (rawM u w)) = l.map (rawM .no .no) := by
  rw [deepL_map, List.map_map]; exact List.map_congr_left fun m _ => deep_raw u w m
theorem deep_view (v : ViewR) : deep (viewD v) = viewD v := by
  simp only [viewD, intsL, deep, deepL, deep_ints]
def meetV (v : ViewR) (by_ d : Int) : ViewR × List MsgM :=
  if checkV v && otherV v by_ then ((addV v by_ d).1, goneM v by_ d ++ [⟨7, (addV v by_ d).1.self, by_, false, 0, 0, []⟩]) else (v, [])
set_option maxRecDepth 8000 in
set_option maxHeartbeats 1000000 in
theorem meet1 (v : ViewR) (by_ d : Int) (hck : checkV v = true) (ha : v.act.length < 1000000) (hp : v.pas.length < 1000000) (bs : List (Sh × D)) (tk : List Bool) (b c : Nat) (hb : bs[b]? = some (walkSh, walkD v d [] .full)) (hc : bs[c]? = some (.leaf, .lit (.int .i64 by_))) (hbc : c ≠ b) :
    ASpec Tryz.prog CT 29 [.ptr b [], .ptr c []] ⟨bs, tk⟩ fun _ h' => WorkR d b bs tk (fun v' L => v' = (meetV v by_ d).1 ∧ L = (meetV v by_ d).2.map (rawM .full .full)) h' := by
  refine ASpec.of hT Tryz.func29 rfl (by kernel_rfl) rfl rfl ?_
  simp only [Tryz.f29, go_sem, reduceAdd, reduceSub, reduceMul, reduceLT, reduceLeDiff, ↓reduceIte, reduceCtorEq, reduceEqDiff, reduceToNat, Int.reduceLT, reduceLE, reduceEq, nil_ptrO, hb, hc]
  refine .inl ⟨by kernel_rfl, ?_⟩
  try simp only [go_sem, reduceAdd, reduceSub, reduceMul, reduceLT, reduceLeDiff, ↓reduceIte, reduceCtorEq, reduceEqDiff, reduceToNat, Int.reduceLT, reduceLE, reduceEq, nil_ptrO, hb, hc]
  have hbl := (List.getElem?_eq_some_iff.1 hb).1
  have fin : otherV v by_ = false → WorkR d b bs tk (fun v' L => v' = (meetV v by_ d).1 ∧ L = (meetV v by_ d).2.map (rawM .full .full)) ⟨bs, tk⟩ := fun h => by
    have e : meetV v by_ d = (v, []) := by rw [meetV, h, Bool.and_false]; rfl
    exact ⟨bs, [], .full, v, [], by rw [List.append_nil], hb, ⟨trivial, trivial⟩, fr_refl _ _, by rw [e], by rw [e]; rfl⟩
  refine guardK_split (fun a1 => ?_) (fun a1 => ?_)
  · simp only [go_sem, reduceAdd, reduceSub, reduceMul, reduceLT, reduceLeDiff, ↓reduceIte, reduceCtorEq, reduceEqDiff, reduceToNat, Int.reduceLT, reduceLE, reduceEq, a1]
    exact fin (by simp only [otherV, vpeer]; simp only [decide_eq_true_eq] at a1; simp; omega)
  simp only [go_sem, reduceAdd, reduceSub, reduceMul, reduceLT, reduceLeDiff, ↓reduceIte, reduceCtorEq, reduceEqDiff, reduceToNat, Int.reduceLT, reduceLE, reduceEq, nil_ptrO, hb, hc, a1]
  refine guardK_split (fun a2 => ?_) (fun a2 => ?_)
  · simp only [go_sem, reduceAdd, reduceSub, reduceMul, reduceLT, reduceLeDiff, ↓reduceIte, reduceCtorEq, reduceEqDiff, reduceToNat, Int.reduceLT, reduceLE, reduceEq, a2]
    exact fin (by simp only [otherV, vpeer]; simp only [decide_eq_true_eq] at a2; simp; omega)
  simp only [go_sem, reduceAdd, reduceSub, reduceMul, reduceLT, reduceLeDiff, ↓reduceIte, reduceCtorEq, reduceEqDiff, reduceToNat, Int.reduceLT, reduceLE, reduceEq, nil_ptrO, hb, hc, a2]
  refine condK_split (fun a3 => ?_) (fun a3 => ?_)
  · simp only [go_sem, reduceAdd, reduceSub, reduceMul, reduceLT, reduceLeDiff, ↓reduceIte, reduceCtorEq, reduceEqDiff, reduceToNat, Int.reduceLT, reduceLE, reduceEq, a3]
    exact fin (by simp only [otherV, vpeer]; simp only [decide_eq_true_eq] at a3; simp; omega)
  have ho : otherV v by_ = true := by simp only [otherV, vpeer]; simp only [decide_eq_false_iff_not] at a1 a2 a3; simp; omega
  have e : meetV v by_ d = ((addV v by_ d).1, goneM v by_ d ++ [⟨7, (addV v by_ d).1.self, by_, false, 0, 0, []⟩]) := by rw [meetV, hck, ho]; rfl
  simp only [go_sem, reduceAdd, reduceSub, reduceMul, reduceLT, reduceLeDiff, ↓reduceIte, reduceCtorEq, reduceEqDiff, reduceToNat, Int.reduceLT, reduceLE, reduceEq, hc]
  have hs := walk_have v d [] .full by_ bs tk [] b hb ⟨trivial, trivial⟩ (by simp) ha hp
  rw [List.append_nil, List.nil_append] at hs
  refine callK_a hs ?_
  rintro r h' ⟨bs', tk3, u', rfl, h2, h3, h4⟩
  have hcl := (List.getElem?_eq_some_iff.1 hc).1
  have hc2 : bs'[c]? = some (.leaf, .lit (.int .i64 by_)) := by rw [h4.2 c hbc hcl]; exact hc
  have hgl : ((goneM v by_ d).map (rawM .full .full)).length < 1000000 := by
    rw [List.length_map, goneM]; split <;> simp
  simp only [go_sem, reduceAdd, reduceSub, reduceMul, reduceLT, reduceLeDiff, ↓reduceIte, reduceCtorEq, reduceEqDiff, reduceToNat, Int.reduceLT, reduceLE, reduceEq, hc2]
  refine callK_a (walk_send (addV v by_ d).1 d _ u' ⟨7, 0, by_, false, 0, 0, []⟩ .full _ tk tk3 b h2 h3 hgl (by simp only [go_sem, reduceAdd, reduceSub, reduceMul, reduceLT, reduceLeDiff, ↓reduceIte, reduceCtorEq, reduceEqDiff, reduceToNat, Int.reduceLT, reduceLE, reduceEq])) ?_
  rintro r h' ⟨bs2, tk4, u2, rfl, q2, q3, q4⟩
  simp only [go_sem, reduceAdd, reduceSub, reduceMul, reduceLT, reduceLeDiff, ↓reduceIte, reduceCtorEq, reduceEqDiff, reduceToNat, Int.reduceLT, reduceLE, reduceEq]
  exact ⟨bs2, tk4, u2, _, _, rfl, q2, q3, fr_trans h4 q4, by rw [e], by rw [e, List.map_append]; rfl⟩
theorem pure_view (v : ViewR) : pureD (viewD v) := ⟨trivial, trivial, trivial, trivial⟩
set_option maxRecDepth 8000 in
set_option maxHeartbeats 1000000 in
theorem overlay_meet (v : ViewR) (by_ d : Int) (ha : v.act.length < 1000000) (hp : v.pas.length < 1000000) :
    PSpec Tryz.prog CT 10 [viewD v, .lit (.int .i64 by_), .lit (.int .i64 d)] (· = .tup [viewD (meetV v by_ d).1, msgsD (meetV v by_ d).2]) := by
  refine PSpec.ofDeep (R := fun r _ => ∃ u, r = .tup [viewD (meetV v by_ d).1, .lst 45 ((meetV v by_ d).2.map (rawM .full .full)) u]) ?_ ?_
  · refine ASpec.of hT Tryz.func10 rfl (by kernel_rfl) rfl rfl ?_
    simp only [Tryz.f10, go_sem, reduceAdd, reduceSub, reduceMul, reduceLT, reduceLeDiff, ↓reduceIte, reduceCtorEq, reduceEqDiff, reduceToNat, Int.reduceLT, reduceLE, reduceEq, noHeap]
    have hs := begun_spec v d 29 [.ptr 1 []] [(viewSh', viewD v), (.leaf, .lit (.int .i64 by_)), (viewSh', CT.zero 24)] [] ha hp (fun v' L => v' = (meetV v by_ d).1 ∧ L = (meetV v by_ d).2.map (rawM .full .full)) (fun h => by
      have e : meetV v by_ d = (v, []) := by rw [meetV, h]; rfl
      rw [e]; exact ⟨rfl, rfl⟩) (fun hck ex b hbl hb => meet1 v by_ d hck ha hp _ [] b 1 hb rfl (by simp at hbl; omega))
    rw [zero24] at hs
    refine callK_a hs ?_
    rintro r h' ⟨v', L, u, bs', tk3, rfl, rfl, ⟨rfl, rfl⟩, h2⟩
    have h3 : bs'[2]? = _ := (h2 2 (by simp)).trans rfl
    have hl3 := (List.getElem?_eq_some_iff.1 h3).1
    have h4 : ∀ y, (bs'.set 2 y)[2]? = some y := fun y => List.getElem?_set_self hl3
    simp only [go_sem, reduceAdd, reduceSub, reduceMul, reduceLT, reduceLeDiff, ↓reduceIte, reduceCtorEq, reduceEqDiff, reduceToNat, Int.reduceLT, reduceLE, reduceEq, h3, h4]
    exact ⟨u, rfl⟩
  · rintro r h' ⟨u, rfl⟩
    have e : deep (.tup [viewD (meetV v by_ d).1, .lst 45 ((meetV v by_ d).2.map (rawM .full .full)) u]) = .tup [viewD (meetV v by_ d).1, msgsD (meetV v by_ d).2] := by
      simp only [deep, deepL, deep_raws, deep_ints]
    rw [e]
    exact ⟨⟨pure_view _, trivial, trivial⟩, rfl⟩
end Go.Ab
set_option linter.unusedSimpArgs false
namespace Go.Ab
open Go.Proofs

/-- Views and what is sent, behind a walk's step. -/
def StepR (d : Int) (b : Nat) (bs1 : List (Sh × D)) (tk : List Bool) (L : List D) (v' : ViewR) (ms : List MsgM) (h' : Heap) : Prop :=
  ∃ bs' tk3 u' L2, h' = ⟨bs', tk ++ tk3⟩ ∧ bs'[b]? = some (walkSh, walkD v' d (L ++ L2) u') ∧ liveH u' tk tk3 ∧ Fr b bs1 bs' ∧ deepL L2 = ms.map (rawM .no .no)
def tellM (self p : Int) (l : List Int) : List MsgM := (l.filter fun q => !decide (q = p)).map fun q => ⟨8, self, q, false, p, 3, []⟩
theorem tell_take (self p : Int) (l : List Int) (j : Nat) (hj : j < l.length) : tellM self p (l.take (j + 1)) = tellM self p (l.take j) ++ (if l.getD j 0 = p then [] else [⟨8, self, l.getD j 0, false, p, 3, []⟩]) := by
  rw [List.take_add_one, List.getElem?_eq_getElem hj, List.getD_eq_getElem?_getD, List.getElem?_eq_getElem hj]
  simp only [tellM, Option.toList_some, List.filter_append, List.map_append, List.filter_cons, List.filter_nil, Option.getD_some]
  by_cases h : l[j] = p
  · rw [if_pos h, decide_eq_true h]; rfl
  · rw [if_neg h, decide_eq_false h]; rfl
def joinV (v : ViewR) (m : MsgM) (d : Int) : ViewR × List MsgM := ((addV v m.from_ d).1, goneM v m.from_ d ++ tellM (addV v m.from_ d).1.self m.from_ (addV v m.from_ d).1.act)
theorem deepL_cat (a b : List D) : deepL (a ++ b) = deepL a ++ deepL b := by simp [deepL_map]
theorem tell_len (self p : Int) (l : List Int) : (tellM self p l).length ≤ l.length := by
  rw [tellM, List.length_map]; exact List.length_filter_le _ _
theorem gone_len (v : ViewR) (p d : Int) : (goneM v p d).length ≤ 1 := by rw [goneM]; split <;> simp
theorem add_act (v : ViewR) (p d : Int) : (addV v p d).1.act.length ≤ v.act.length + 1 := by
  unfold addV
  split
  · have h := withL_len (roomV v d).1.act p
    have h2 : (roomV v d).1.act.length ≤ v.act.length := by
      unfold roomV; split
      · have := dropL_len v.act (pickI v.act [] d)
        unfold cooledV knownV; split <;> exact this
      · exact Nat.le_refl _
    show (withL (roomV v d).1.act p).length ≤ _
    omega
  · exact Nat.le_succ _
set_option maxRecDepth 8000 in
set_option maxHeartbeats 2000000 in
theorem walk_join (v : ViewR) (d : Int) (L : List D) (u : Tok) (m : MsgM) (bs : List (Sh × D)) (tk tk2 : List Bool) (b : Nat) (hb : bs[b]? = some (walkSh, walkD v d L u)) (hu : liveH u tk tk2) (hL : L.length < 100000) (ha : v.act.length < 100000) (hp : v.pas.length < 100000) :
    ASpec Tryz.prog CT 58 [.ptr b [], rawM .no .no m] ⟨bs, tk ++ tk2⟩ fun _ h' => StepR d b bs tk L (joinV v m d).1 (joinV v m d).2 h' := by
  have hbl := (List.getElem?_eq_some_iff.1 hb).1
  have g1 : ∀ y, (bs ++ [y])[b]? = some (walkSh, walkD v d L u) := fun y => by rw [List.getElem?_append_left hbl]; exact hb
  have g2 : ∀ y, (bs ++ [y])[bs.length]? = some y := fun y => by simp
  refine ASpec.of hT Tryz.func58 rfl (by kernel_rfl) rfl rfl ?_
  simp only [Tryz.f58, go_sem, reduceAdd, reduceSub, reduceMul, reduceLT, reduceLeDiff, ↓reduceIte, reduceCtorEq, reduceEqDiff, reduceToNat, Int.reduceLT, reduceLE, reduceEq, nil_ptrO, g1, g2, zeros_len]
  refine callK_a (walk_have v d L u m.from_ _ tk tk2 b (g1 _) hu (by omega) (by omega) (by omega)) ?_
  rintro r h' ⟨bs1, tk3, u1, rfl, h2, h3, h4⟩
  have hm1 : ∀ {bs2 : List (Sh × D)}, Fr b bs1 bs2 → bs2[bs.length]? = _ := fun hf => (hf.2 bs.length (by omega) (by have := h4.1; simp at this; omega)).trans ((h4.2 bs.length (by omega) (by simp)).trans (g2 _))
  have hact := add_act v m.from_ d
  have hgl := gone_len v m.from_ d
  have hjv : joinV v m d = ((addV v m.from_ d).1, goneM v m.from_ d ++ tellM (addV v m.from_ d).1.self m.from_ (addV v m.from_ d).1.act) := rfl
  rw [hjv]
  generalize (addV v m.from_ d).1 = v1 at *
  generalize goneM v m.from_ d = gm at *
  simp only [go_sem, reduceAdd, reduceSub, reduceMul, reduceLT, reduceLeDiff, ↓reduceIte, reduceCtorEq, reduceEqDiff, reduceToNat, Int.reduceLT, reduceLE, reduceEq, nil_ptrO, h2]
  refine awp_loop (fun n s => ∃ (j : Nat) (x : List (Sh × D)) (tk4 : List Bool) (u2 : Tok) (g : Nat → D), s = ⟨[.ptr b [], g 1, g 2, .ptr bs.length [], g 4, g 5, g 6, g 7, g 8, g 9, g 10, g 11, g 12, g 13, intsL v1.act .no, .lit (.int .i64 v1.act.length), .lit (.int .i64 j), g 17, g 18, g 19, g 20, g 21, g 22, g 23, g 24, g 25, g 26, g 27, g 28, g 29, g 30], ⟨x, tk ++ tk4⟩⟩ ∧ n = v1.act.length - j ∧ j ≤ v1.act.length ∧ x[b]? = some (walkSh, walkD v1 d (L ++ (gm ++ tellM v1.self m.from_ (v1.act.take j)).map (rawM .full .full)) u2) ∧ liveH u2 tk tk4 ∧ Fr b bs1 x) v1.act.length ⟨0, bs1, tk3, u1, reg_intro rfl rfl ⟨by simp, by omega, by rw [List.take_zero, show tellM v1.self m.from_ [] = [] from rfl, List.append_nil]; exact h2, h3, fr_refl _ _⟩⟩ ?_
  rintro n st ⟨j, x, tk4, u2, g, rfl, hn, hj, hx, hu2, hf⟩
  have hmx := hm1 hf
  simp only [go_sem, reduceAdd, reduceSub, reduceMul, reduceLT, reduceLeDiff, ↓reduceIte, reduceCtorEq, reduceEqDiff, reduceToNat, Int.reduceLT, reduceLE, reduceEq]
  refine condK_split (fun hc => ?_) (fun hc => ?_)
  · have hj' : j < v1.act.length := by have := of_decide_eq_true hc; omega
    have htt := tell_take v1.self m.from_ v1.act j hj'
    have htl := tell_len v1.self m.from_ (v1.act.take j)
    have htl2 : (v1.act.take j).length ≤ v1.act.length := by simp; omega
    have hLl : (L ++ (gm ++ tellM v1.self m.from_ (v1.act.take j)).map (rawM .full .full)).length < 1000000 := by
      rw [List.length_append, List.length_map, List.length_append]; omega
    simp only [go_sem, reduceAdd, reduceSub, reduceMul, reduceLT, reduceLeDiff, ↓reduceIte, reduceCtorEq, reduceEqDiff, reduceToNat, Int.reduceLT, reduceLE, reduceEq, hj', hmx]
    refine condK_split (fun h5 => ?_) (fun h5 => ?_)
    · have h6 : ¬ v1.act.getD j 0 = m.from_ := by simpa using h5
      rw [if_neg h6] at htt
      simp only [go_sem, reduceAdd, reduceSub, reduceMul, reduceLT, reduceLeDiff, ↓reduceIte, reduceCtorEq, reduceEqDiff, reduceToNat, Int.reduceLT, reduceLE, reduceEq, hmx, zeros_len]
      refine callK_a (walk_send v1 d _ u2 ⟨8, 0, v1.act.getD j 0, false, m.from_, 3, []⟩ .full _ tk tk4 b hx hu2 hLl (by simp only [go_sem, reduceAdd, reduceSub, reduceMul, reduceLT, reduceLeDiff, ↓reduceIte, reduceCtorEq, reduceEqDiff, reduceToNat, Int.reduceLT, reduceLE, reduceEq])) ?_
      rintro r h' ⟨bs2, tk5, u3, rfl, q2, q3, q4⟩
      simp only [go_sem, reduceAdd, reduceSub, reduceMul, reduceLT, reduceLeDiff, ↓reduceIte, reduceCtorEq, reduceEqDiff, reduceToNat, Int.reduceLT, reduceLE, reduceEq, wrapNat j (by omega)]
      exact ⟨v1.act.length - (j + 1), by omega, j + 1, bs2, tk5, u3, reg_intro rfl rfl ⟨rfl, by omega, by rw [q2, htt, ← List.append_assoc gm, List.map_append (l₁ := gm ++ _), ← List.append_assoc L]; rfl, q3, fr_trans hf q4⟩⟩
    · have h6 : v1.act.getD j 0 = m.from_ := by simpa using h5
      rw [if_pos h6, List.append_nil] at htt
      simp only [go_sem, reduceAdd, reduceSub, reduceMul, reduceLT, reduceLeDiff, ↓reduceIte, reduceCtorEq, reduceEqDiff, reduceToNat, Int.reduceLT, reduceLE, reduceEq, wrapNat j (by omega)]
      exact ⟨v1.act.length - (j + 1), by omega, j + 1, x, tk4, u2, reg_intro rfl rfl ⟨rfl, by omega, by rw [htt]; exact hx, hu2, hf⟩⟩
  · have hi2 := of_decide_eq_false hc
    obtain rfl : j = v1.act.length := by omega
    rw [List.take_length] at hx
    simp only [go_sem, reduceAdd, reduceSub, reduceMul, reduceLT, reduceLeDiff, ↓reduceIte, reduceCtorEq, reduceEqDiff, reduceToNat, Int.reduceLT, reduceLE, reduceEq]
    exact ⟨x, tk4, u2, _, rfl, hx, hu2, fr_trans (fr_trans (fr_more b bs _) h4) hf, deep_raws _ _ _⟩
end Go.Ab
