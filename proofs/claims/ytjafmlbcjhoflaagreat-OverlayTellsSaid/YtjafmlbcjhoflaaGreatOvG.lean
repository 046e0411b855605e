/- Who is whose neighbour: what is told. Conditions: none. -/
import Derived.Test.YtjafmlbcjhoflaaGreatOvE
open Nat (reduceAdd reduceSub reduceMul reduceLT reduceLeDiff reduceEqDiff)
open Int (reduceToNat reduceLE reduceEq)
set_option linter.unusedSimpArgs false
namespace Go.Ab
open Go.Proofs

def knownL (v : ViewR) (l : List Int) (d : Int) : ViewR := l.foldl (fun v p => knowV v p d) v
theorem knownL_take (v : ViewR) (l : List Int) (d : Int) (j : Nat) (hj : j < l.length) : knownL v (l.take (j + 1)) d = knowV (knownL v (l.take j) d) (l.getD j 0) d := by
  rw [List.take_add_one, List.getElem?_eq_getElem hj, List.getD_eq_getElem?_getD, List.getElem?_eq_getElem hj]
  simp only [knownL, Option.toList_some, List.foldl_append, List.foldl_cons, List.foldl_nil, Option.getD_some]
theorem knownL_len (d : Int) : ∀ (l : List Int) (v : ViewR), (knownL v l d).act = v.act ∧ (knownL v l d).pas.length ≤ v.pas.length + l.length ∧ (knownL v l d).self = v.self
  | [], v => ⟨rfl, Nat.le_refl _, rfl⟩
  | x :: r, v => by
    obtain ⟨a1, a2, a3⟩ := know_len v x d
    obtain ⟨b1, b2, b3⟩ := knownL_len d r (knowV v x d)
    refine ⟨b1.trans a1, ?_, b3.trans a3⟩
    show (knownL (knowV v x d) r d).pas.length ≤ _
    simp only [List.length_cons]; omega
def backV (v : ViewR) (m : MsgM) (d : Int) : ViewR × List MsgM := (knownL v m.peers d, [])
def shufT (v : ViewR) (m : MsgM) (d : Int) : Int := if 0 < m.of_ then pickI v.act [m.from_, m.n] d else 0
def shuffleV (v : ViewR) (m : MsgM) (d : Int) : ViewR × List MsgM :=
  if ¬ shufT v m d = 0 then (v, [⟨12, v.self, shufT v m d, false, m.n, m.of_ - 1, m.peers⟩])
  else if m.n = (knownL v m.peers d).self then (knownL v m.peers d, [])
  else (knownL v m.peers d, [⟨13, (knownL v m.peers d).self, m.n, false, 0, 0, sampleV v d⟩])
section
variable (v : ViewR) (d : Int) (L : List D) (u : Tok) (bs : List (Sh × D)) (tk tk2 : List Bool) (b : Nat) (hb : bs[b]? = some (walkSh, walkD v d L u)) (hu : liveH u tk tk2) (hL : L.length < 100000) (ha : v.act.length < 100000) (hp : v.pas.length < 100000)
include hb hu hL ha hp
set_option maxRecDepth 8000 in
set_option maxHeartbeats 2000000 in
theorem walk_back (m : MsgM) (hm : m.peers.length < 100000) : ASpec Tryz.prog CT 64 [.ptr b [], rawM .no .no m] ⟨bs, tk ++ tk2⟩ fun _ h' => ∃ bs', h' = ⟨bs', tk ++ tk2⟩ ∧ bs'[b]? = some (walkSh, walkD (knownL v m.peers d) d L u) ∧ Fr b bs bs' := by
  have _ := hu
  have _ := hL
  have _ := ha
  have _ := hp
  have hbl := (List.getElem?_eq_some_iff.1 hb).1
  have g1 : ∀ y, (bs ++ [y])[b]? = some (walkSh, walkD v d L u) := fun y => by rw [List.getElem?_append_left hbl]; exact hb
  have g2 : ∀ y, (bs ++ [y])[bs.length]? = some y := fun y => by simp
  refine ASpec.of hT Tryz.func64 rfl (by kernel_rfl) rfl rfl ?_
  simp only [Tryz.f64, go_sem, reduceAdd, reduceSub, reduceMul, reduceLT, reduceLeDiff, ↓reduceIte, reduceCtorEq, reduceEqDiff, reduceToNat, Int.reduceLT, reduceLE, reduceEq, nil_ptrO, g1, g2, zeros_len]
  refine awp_loop (fun n s => ∃ (j : Nat) (x : List (Sh × D)) (g : Nat → D), s = ⟨[.ptr b [], g 1, g 2, g 3, g 4, g 5, g 6, intsL m.peers .no, .lit (.int .i64 m.peers.length), .lit (.int .i64 j), g 10, g 11, g 12, g 13, g 14, g 15, g 16, g 17, g 18, g 19, g 20, g 21, g 22, g 23, g 24, g 25, g 26], ⟨x, tk ++ tk2⟩⟩ ∧ n = m.peers.length - j ∧ j ≤ m.peers.length ∧ x[b]? = some (walkSh, walkD (knownL v (m.peers.take j) d) d L u) ∧ Fr b bs x) m.peers.length ⟨0, _, reg_intro rfl rfl ⟨by simp, by omega, g1 _, fr_more _ _ _⟩⟩ ?_
  rintro n st ⟨j, x, g, rfl, hn, hj, hx, hf⟩
  simp only [go_sem, reduceAdd, reduceSub, reduceMul, reduceLT, reduceLeDiff, ↓reduceIte, reduceCtorEq, reduceEqDiff, reduceToNat, Int.reduceLT, reduceLE, reduceEq]
  refine condK_split (fun hc => ?_) (fun hc => ?_)
  · have hj' : j < m.peers.length := by have := of_decide_eq_true hc; omega
    have hkt := knownL_take v m.peers d j hj'
    obtain ⟨k1, k2, k3⟩ := knownL_len d (m.peers.take j) v
    have k4 : (m.peers.take j).length ≤ m.peers.length := by simp; omega
    have hxl := (List.getElem?_eq_some_iff.1 hx).1
    generalize knownL v (m.peers.take j) d = v1 at *
    have k5 : v1.act.length < 1000000 := by rw [k1]; omega
    simp only [go_sem, reduceAdd, reduceSub, reduceMul, reduceLT, reduceLeDiff, ↓reduceIte, reduceCtorEq, reduceEqDiff, reduceToNat, Int.reduceLT, reduceLE, reduceEq, hj']
    simp only [go_sem, reduceAdd, reduceSub, reduceMul, reduceLT, reduceLeDiff, ↓reduceIte, reduceCtorEq, reduceEqDiff, reduceToNat, Int.reduceLT, reduceLE, reduceEq, nil_ptrO, hx]
    refine .inl ⟨by kernel_rfl, ?_⟩
    try simp only [go_sem, reduceAdd, reduceSub, reduceMul, reduceLT, reduceLeDiff, ↓reduceIte, reduceCtorEq, reduceEqDiff, reduceToNat, Int.reduceLT, reduceLE, reduceEq, nil_ptrO, hx]
    refine callD_pure (view_know v1 (m.peers.getD j 0) d k5 (by omega)) (by first | rfl | (simp only [go_sem]; done)) (by first | (simp only [go_sem]; done) | (simp [pureL, pureD]; done)) ?_
    simp only [go_sem, reduceAdd, reduceSub, reduceMul, reduceLT, reduceLeDiff, ↓reduceIte, reduceCtorEq, reduceEqDiff, reduceToNat, Int.reduceLT, reduceLE, reduceEq, nil_ptrO, hx, wrapNat j (by omega)]
    exact ⟨m.peers.length - (j + 1), by omega, j + 1, _, reg_intro rfl rfl ⟨rfl, by omega, by rw [List.getElem?_set_self hxl, hkt], fr_trans hf (fr_set b x _)⟩⟩
  · have hi2 := of_decide_eq_false hc
    obtain rfl : j = m.peers.length := by omega
    rw [List.take_length] at hx
    simp only [go_sem, reduceAdd, reduceSub, reduceMul, reduceLT, reduceLeDiff, ↓reduceIte, reduceCtorEq, reduceEqDiff, reduceToNat, Int.reduceLT, reduceLE, reduceEq]
    exact ⟨x, rfl, hx, hf⟩
set_option maxRecDepth 8000 in
set_option maxHeartbeats 2000000 in
theorem walk_shuffle (m : MsgM) (hof : m.of_ ≤ 100000) (hm : m.peers.length < 100000) : ASpec Tryz.prog CT 63 [.ptr b [], rawM .no .no m] ⟨bs, tk ++ tk2⟩ fun _ h' => StepR d b bs tk L (shuffleV v m d).1 (shuffleV v m d).2 h' := by
  have _ := hu
  have _ := hL
  have _ := ha
  have _ := hp
  have hbl := (List.getElem?_eq_some_iff.1 hb).1
  have g1 : ∀ y, (bs ++ [y])[b]? = some (walkSh, walkD v d L u) := fun y => by rw [List.getElem?_append_left hbl]; exact hb
  have g2 : ∀ y, (bs ++ [y])[bs.length]? = some y := fun y => by simp
  obtain ⟨k1, k2, k3⟩ := knownL_len d m.peers v
  refine ASpec.of hT Tryz.func63 rfl (by kernel_rfl) rfl rfl ?_
  simp only [Tryz.f63, go_sem, reduceAdd, reduceSub, reduceMul, reduceLT, reduceLeDiff, ↓reduceIte, reduceCtorEq, reduceEqDiff, reduceToNat, Int.reduceLT, reduceLE, reduceEq, nil_ptrO, g1, g2, zeros_len]
  refine condK_split (fun a1 => ?_) (fun a1 => ?_)
  · have a1' := of_decide_eq_true a1
    have eT : shufT v m d = pickI v.act [m.from_, m.n] d := if_pos a1'
    have hw1 : IntKind.i64.wrap (m.of_ - 1) = m.of_ - 1 := by rw [wrap64] <;> omega
    simp only [go_sem, reduceAdd, reduceSub, reduceMul, reduceLT, reduceLeDiff, ↓reduceIte, reduceCtorEq, reduceEqDiff, reduceToNat, Int.reduceLT, reduceLE, reduceEq, nil_ptrO, g1, g2, zeros_len]
    refine callK_a (walk_pick v d L u _ _ b (g1 _) [m.from_, m.n] .full trivial (by simp) (by omega)) ?_
    rintro r h' ⟨rfl, rfl⟩
    simp only [go_sem, reduceAdd, reduceSub, reduceMul, reduceLT, reduceLeDiff, ↓reduceIte, reduceCtorEq, reduceEqDiff, reduceToNat, Int.reduceLT, reduceLE, reduceEq]
    refine condK_split (fun a2 => ?_) (fun a2 => ?_)
    · have a3 : ¬ shufT v m d = 0 := by rw [eT]; simpa using a2
      have e : shuffleV v m d = (v, [⟨12, v.self, pickI v.act [m.from_, m.n] d, false, m.n, m.of_ - 1, m.peers⟩]) := by rw [shuffleV, if_pos a3, eT]
      simp only [go_sem, reduceAdd, reduceSub, reduceMul, reduceLT, reduceLeDiff, ↓reduceIte, reduceCtorEq, reduceEqDiff, reduceToNat, Int.reduceLT, reduceLE, reduceEq, nil_ptrO, g1, g2, zeros_len, hw1]
      refine callK_a (walk_send v d L u ⟨12, 0, pickI v.act [m.from_, m.n] d, false, m.n, m.of_ - 1, m.peers⟩ .no _ tk tk2 b (g1 _) hu (by omega) (by simp only [go_sem, reduceAdd, reduceSub, reduceMul, reduceLT, reduceLeDiff, ↓reduceIte, reduceCtorEq, reduceEqDiff, reduceToNat, Int.reduceLT, reduceLE, reduceEq])) ?_
      rintro r h' ⟨bs2, tk4, u2, rfl, q2, q3, q4⟩
      simp only [go_sem, reduceAdd, reduceSub, reduceMul, reduceLT, reduceLeDiff, ↓reduceIte, reduceCtorEq, reduceEqDiff, reduceToNat, Int.reduceLT, reduceLE, reduceEq]
      rw [e]
      exact ⟨bs2, tk4, u2, _, rfl, q2, q3, fr_trans (fr_more _ _ _) q4, deep_raws .full .no [_]⟩
    · have a3 : shufT v m d = 0 := by rw [eT]; simpa using a2
      simp only [go_sem, reduceAdd, reduceSub, reduceMul, reduceLT, reduceLeDiff, ↓reduceIte, reduceCtorEq, reduceEqDiff, reduceToNat, Int.reduceLT, reduceLE, reduceEq, nil_ptrO, g1, g2, zeros_len]
      refine .inl ⟨by kernel_rfl, ?_⟩
      try simp only [go_sem, reduceAdd, reduceSub, reduceMul, reduceLT, reduceLeDiff, ↓reduceIte, reduceCtorEq, reduceEqDiff, reduceToNat, Int.reduceLT, reduceLE, reduceEq, nil_ptrO, g1, g2, zeros_len]
      refine callD_pure (view_sample v d (by omega) (by omega)) (by first | rfl | (simp only [go_sem]; done)) (by first | (simp only [go_sem]; done) | (simp [pureL, pureD]; done)) ?_
      simp only [go_sem, reduceAdd, reduceSub, reduceMul, reduceLT, reduceLeDiff, ↓reduceIte, reduceCtorEq, reduceEqDiff, reduceToNat, Int.reduceLT, reduceLE, reduceEq, nil_ptrO, g1, g2, zeros_len]
      refine callK_a (walk_back v d L u _ tk tk2 b (g1 _) hu hL ha hp m hm) ?_
      rintro r h' ⟨bs1, rfl, q2, q3⟩
      have hmx : bs1[bs.length]? = some (msgSh, rawM .no .no m) := (q3.2 bs.length (by omega) (by simp)).trans (g2 _)
      simp only [go_sem, reduceAdd, reduceSub, reduceMul, reduceLT, reduceLeDiff, ↓reduceIte, reduceCtorEq, reduceEqDiff, reduceToNat, Int.reduceLT, reduceLE, reduceEq, nil_ptrO, q2, hmx, zeros_len]
      refine .inl ⟨by kernel_rfl, ?_⟩
      try simp only [go_sem, reduceAdd, reduceSub, reduceMul, reduceLT, reduceLeDiff, ↓reduceIte, reduceCtorEq, reduceEqDiff, reduceToNat, Int.reduceLT, reduceLE, reduceEq, nil_ptrO, q2, hmx, zeros_len]
      refine condK_split (fun a5 => ?_) (fun a5 => ?_)
      · have a6 : ¬ m.n = (knownL v m.peers d).self := by simpa using a5
        have e : shuffleV v m d = (knownL v m.peers d, [⟨13, (knownL v m.peers d).self, m.n, false, 0, 0, sampleV v d⟩]) := by rw [shuffleV, if_neg (by simpa using a3), if_neg a6]
        simp only [go_sem, reduceAdd, reduceSub, reduceMul, reduceLT, reduceLeDiff, ↓reduceIte, reduceCtorEq, reduceEqDiff, reduceToNat, Int.reduceLT, reduceLE, reduceEq, nil_ptrO, q2, hmx, zeros_len]
        refine callK_a (walk_send (knownL v m.peers d) d L u ⟨13, 0, m.n, false, 0, 0, sampleV v d⟩ .no _ tk tk2 b q2 hu (by omega) (by simp only [go_sem, reduceAdd, reduceSub, reduceMul, reduceLT, reduceLeDiff, ↓reduceIte, reduceCtorEq, reduceEqDiff, reduceToNat, Int.reduceLT, reduceLE, reduceEq])) ?_
        rintro r h' ⟨bs2, tk4, u2, rfl, p2, p3, p4⟩
        simp only [go_sem, reduceAdd, reduceSub, reduceMul, reduceLT, reduceLeDiff, ↓reduceIte, reduceCtorEq, reduceEqDiff, reduceToNat, Int.reduceLT, reduceLE, reduceEq]
        rw [e]
        exact ⟨bs2, tk4, u2, _, rfl, p2, p3, fr_trans (fr_trans (fr_more _ _ _) q3) p4, deep_raws .full .no [_]⟩
      · have a6 : m.n = (knownL v m.peers d).self := by simpa using a5
        have e : shuffleV v m d = (knownL v m.peers d, []) := by rw [shuffleV, if_neg (by simpa using a3), if_pos a6]
        simp only [go_sem, reduceAdd, reduceSub, reduceMul, reduceLT, reduceLeDiff, ↓reduceIte, reduceCtorEq, reduceEqDiff, reduceToNat, Int.reduceLT, reduceLE, reduceEq]
        rw [e]
        exact step_none q2 hu (fr_trans (fr_more _ _ _) q3)
  · have a3 : shufT v m d = 0 := if_neg (of_decide_eq_false a1)
    simp only [go_sem, reduceAdd, reduceSub, reduceMul, reduceLT, reduceLeDiff, ↓reduceIte, reduceCtorEq, reduceEqDiff, reduceToNat, Int.reduceLT, reduceLE, reduceEq, nil_ptrO, g1, g2, zeros_len]
    refine .inl ⟨by kernel_rfl, ?_⟩
    try simp only [go_sem, reduceAdd, reduceSub, reduceMul, reduceLT, reduceLeDiff, ↓reduceIte, reduceCtorEq, reduceEqDiff, reduceToNat, Int.reduceLT, reduceLE, reduceEq, nil_ptrO, g1, g2, zeros_len]
    refine callD_pure (view_sample v d (by omega) (by omega)) (by first | rfl | (simp only [go_sem]; done)) (by first | (simp only [go_sem]; done) | (simp [pureL, pureD]; done)) ?_
    simp only [go_sem, reduceAdd, reduceSub, reduceMul, reduceLT, reduceLeDiff, ↓reduceIte, reduceCtorEq, reduceEqDiff, reduceToNat, Int.reduceLT, reduceLE, reduceEq, nil_ptrO, g1, g2, zeros_len]
    refine callK_a (walk_back v d L u _ tk tk2 b (g1 _) hu hL ha hp m hm) ?_
    rintro r h' ⟨bs1, rfl, q2, q3⟩
    have hmx : bs1[bs.length]? = some (msgSh, rawM .no .no m) := (q3.2 bs.length (by omega) (by simp)).trans (g2 _)
    simp only [go_sem, reduceAdd, reduceSub, reduceMul, reduceLT, reduceLeDiff, ↓reduceIte, reduceCtorEq, reduceEqDiff, reduceToNat, Int.reduceLT, reduceLE, reduceEq, nil_ptrO, q2, hmx, zeros_len]
    refine .inl ⟨by kernel_rfl, ?_⟩
    try simp only [go_sem, reduceAdd, reduceSub, reduceMul, reduceLT, reduceLeDiff, ↓reduceIte, reduceCtorEq, reduceEqDiff, reduceToNat, Int.reduceLT, reduceLE, reduceEq, nil_ptrO, q2, hmx, zeros_len]
    refine condK_split (fun a5 => ?_) (fun a5 => ?_)
    · have a6 : ¬ m.n = (knownL v m.peers d).self := by simpa using a5
      have e : shuffleV v m d = (knownL v m.peers d, [⟨13, (knownL v m.peers d).self, m.n, false, 0, 0, sampleV v d⟩]) := by rw [shuffleV, if_neg (by simpa using a3), if_neg a6]
      simp only [go_sem, reduceAdd, reduceSub, reduceMul, reduceLT, reduceLeDiff, ↓reduceIte, reduceCtorEq, reduceEqDiff, reduceToNat, Int.reduceLT, reduceLE, reduceEq, nil_ptrO, q2, hmx, zeros_len]
      refine callK_a (walk_send (knownL v m.peers d) d L u ⟨13, 0, m.n, false, 0, 0, sampleV v d⟩ .no _ tk tk2 b q2 hu (by omega) (by simp only [go_sem, reduceAdd, reduceSub, reduceMul, reduceLT, reduceLeDiff, ↓reduceIte, reduceCtorEq, reduceEqDiff, reduceToNat, Int.reduceLT, reduceLE, reduceEq])) ?_
      rintro r h' ⟨bs2, tk4, u2, rfl, p2, p3, p4⟩
      simp only [go_sem, reduceAdd, reduceSub, reduceMul, reduceLT, reduceLeDiff, ↓reduceIte, reduceCtorEq, reduceEqDiff, reduceToNat, Int.reduceLT, reduceLE, reduceEq]
      rw [e]
      exact ⟨bs2, tk4, u2, _, rfl, p2, p3, fr_trans (fr_trans (fr_more _ _ _) q3) p4, deep_raws .full .no [_]⟩
    · have a6 : m.n = (knownL v m.peers d).self := by simpa using a5
      have e : shuffleV v m d = (knownL v m.peers d, []) := by rw [shuffleV, if_neg (by simpa using a3), if_pos a6]
      simp only [go_sem, reduceAdd, reduceSub, reduceMul, reduceLT, reduceLeDiff, ↓reduceIte, reduceCtorEq, reduceEqDiff, reduceToNat, Int.reduceLT, reduceLE, reduceEq]
      rw [e]
      exact step_none q2 hu (fr_trans (fr_more _ _ _) q3)
end
end Go.Ab
set_option linter.unusedSimpArgs false
namespace Go.Ab
open Go.Proofs

def zeroL (v : ViewR) : Bool := decide ((v.act.length : Int) = 0)
def tickV (v : ViewR) (d : Int) : ViewR × List MsgM :=
  (v, if checkV v = true then (if zeroL v = true then askV v true d else [⟨12, v.self, pickI v.act [] d, false, v.self, 2, sampleV v d⟩]) else [])
def failV (v : ViewR) (p d : Int) : ViewR × List MsgM :=
  if checkV v = true then (forgetV v p, if p ∈ v.act then askV (forgetV v p) (zeroL (forgetV v p)) d else []) else (v, [])
theorem step_work {d : Int} {b : Nat} {bs1 : List (Sh × D)} {tk : List Bool} {v' : ViewR} {ms : List MsgM} {h' : Heap} (h : StepR d b bs1 tk [] v' ms h') : WorkR d b bs1 tk (fun v'' L => v'' = v' ∧ deepL L = ms.map (rawM .no .no)) h' := by
  obtain ⟨bs', tk3, u', L2, h1, h2, h3, h4, h5⟩ := h
  exact ⟨bs', tk3, u', v', L2, h1, by rw [List.nil_append] at h2; exact h2, h3, h4, rfl, h5⟩
theorem walk_pickM (v : ViewR) (d : Int) (L : List D) (u : Tok) (bs : List (Sh × D)) (tk : List Bool) (b : Nat) (hb : bs[b]? = some (walkSh, walkD v d L u)) (not : List Int) (w : Tok) (hw : pureD (intsL not w)) (hn : not.length < 1000000) (ha : v.act.length < 1000000) :
    MSpec Tryz.prog CT 47 [.ptr b [], intsL not w] ⟨bs, tk⟩ (.int (pickI v.act not d)) := by
  rintro ⟨bs', tk'⟩ ⟨ex, he⟩
  simp only at he
  subst he
  exact walk_pick v d L u _ tk' b (by rw [List.getElem?_append_left (List.getElem?_eq_some_iff.1 hb).1]; exact hb) not w hw hn ha
set_option maxRecDepth 8000 in
set_option maxHeartbeats 2000000 in
theorem tick1 (v : ViewR) (d : Int) (hck : checkV v = true) (ha : v.act.length < 100000) (hp : v.pas.length < 100000) (bs : List (Sh × D)) (tk : List Bool) (b c : Nat) (hb : bs[b]? = some (walkSh, walkD v d [] .full)) (hc : bs[c]? = some (.leaf, .lit (.int .i64 d))) :
    ASpec Tryz.prog CT 45 [.ptr b [], .ptr c []] ⟨bs, tk⟩ fun _ h' => WorkR d b bs tk (fun v' L => v' = (tickV v d).1 ∧ deepL L = (tickV v d).2.map (rawM .no .no)) h' := by
  refine (?_ : ASpec Tryz.prog CT 45 [.ptr b [], .ptr c []] ⟨bs, tk⟩ fun _ h' => StepR d b bs tk [] (tickV v d).1 (tickV v d).2 h').mono fun _ _ h => step_work h
  refine ASpec.of hT Tryz.func45 rfl (by kernel_rfl) rfl rfl ?_
  simp only [Tryz.f45, go_sem, reduceAdd, reduceSub, reduceMul, reduceLT, reduceLeDiff, ↓reduceIte, reduceCtorEq, reduceEqDiff, reduceToNat, Int.reduceLT, reduceLE, reduceEq, nil_ptrO, hb, hc]
  refine condK_split (fun a1 => ?_) (fun a1 => ?_)
  · have e : tickV v d = (v, askV v true d) := by rw [tickV, if_pos hck, if_pos (show zeroL v = true from a1)]
    simp only [go_sem, reduceAdd, reduceSub, reduceMul, reduceLT, reduceLeDiff, ↓reduceIte, reduceCtorEq, reduceEqDiff, reduceToNat, Int.reduceLT, reduceLE, reduceEq]
    have hs := walk_ask v d [] .full bs tk [] b hb ⟨trivial, trivial⟩ (by simp) ha hp true
    rw [List.append_nil] at hs
    refine callK_a hs ?_
    rintro r h' h2
    simp only [go_sem, reduceAdd, reduceSub, reduceMul, reduceLT, reduceLeDiff, ↓reduceIte, reduceCtorEq, reduceEqDiff, reduceToNat, Int.reduceLT, reduceLE, reduceEq]
    rw [e]; exact h2
  · have e : tickV v d = (v, [⟨12, v.self, pickI v.act [] d, false, v.self, 2, sampleV v d⟩]) := by rw [tickV, if_pos hck, if_neg (by rw [show zeroL v = false from a1]; simp)]
    simp only [go_sem, reduceAdd, reduceSub, reduceMul, reduceLT, reduceLeDiff, ↓reduceIte, reduceCtorEq, reduceEqDiff, reduceToNat, Int.reduceLT, reduceLE, reduceEq, nil_ptrO, hb, hc]
    refine .inr (drawN_calls [0, 1, 2, 3, 4, 5, 6, 7, 8, 9, 10, 11, 12, 13, 14] [] [15] (by kernel_rfl) ?_)
    simp only [go_sem, reduceAdd, reduceSub, reduceMul, reduceLT, reduceLeDiff, ↓reduceIte, reduceCtorEq, reduceEqDiff, reduceToNat, Int.reduceLT, reduceLE, reduceEq, nil_ptrO, hb, hc]
    refine ⟨_, walk_pickM v d [] .full bs tk b hb [] .full trivial (by simp) (by omega), ?_⟩
    simp only [go_sem, reduceAdd, reduceSub, reduceMul, reduceLT, reduceLeDiff, ↓reduceIte, reduceCtorEq, reduceEqDiff, reduceToNat, Int.reduceLT, reduceLE, reduceEq, nil_ptrO, hb, hc]
    refine callD_pure (view_sample v d (by omega) (by omega)) (by first | rfl | (simp only [go_sem]; done)) (by first | (simp only [go_sem]; done) | (simp [pureL, pureD]; done)) ?_
    simp only [go_sem, reduceAdd, reduceSub, reduceMul, reduceLT, reduceLeDiff, ↓reduceIte, reduceCtorEq, reduceEqDiff, reduceToNat, Int.reduceLT, reduceLE, reduceEq, nil_ptrO, hb, hc, zeros_len]
    have hs := walk_send v d [] .full ⟨12, 0, pickI v.act [] d, false, v.self, 2, sampleV v d⟩ .no bs tk [] b hb ⟨trivial, trivial⟩ (by simp) (by simp only [go_sem, reduceAdd, reduceSub, reduceMul, reduceLT, reduceLeDiff, ↓reduceIte, reduceCtorEq, reduceEqDiff, reduceToNat, Int.reduceLT, reduceLE, reduceEq])
    rw [List.append_nil] at hs
    show aopsN _ _ _ _ _ _
    refine aopsN_at rfl rfl ?_
    simp only [go_sem, reduceAdd, reduceSub, reduceMul, reduceLT, reduceLeDiff, ↓reduceIte, reduceCtorEq, reduceEqDiff, reduceToNat, Int.reduceLT, reduceLE, reduceEq, zeros_len]
    refine callK_a hs ?_
    rintro r h' ⟨bs2, tk4, u2, rfl, q2, q3, q4⟩
    simp only [go_sem, reduceAdd, reduceSub, reduceMul, reduceLT, reduceLeDiff, ↓reduceIte, reduceCtorEq, reduceEqDiff, reduceToNat, Int.reduceLT, reduceLE, reduceEq, aopsN_nil]
    rw [e]
    exact ⟨bs2, tk4, u2, _, rfl, q2, q3, q4, deep_raws .full .no [_]⟩
set_option maxRecDepth 8000 in
set_option maxHeartbeats 2000000 in
theorem fail1 (v : ViewR) (p d : Int) (hck : checkV v = true) (ha : v.act.length < 100000) (hp : v.pas.length < 100000) (bs : List (Sh × D)) (tk : List Bool) (b c : Nat) (hb : bs[b]? = some (walkSh, walkD v d [] .full)) (hc : bs[c]? = some (.leaf, .lit (.int .i64 p))) (hbc : c ≠ b) :
    ASpec Tryz.prog CT 51 [.ptr b [], .ptr c []] ⟨bs, tk⟩ fun _ h' => WorkR d b bs tk (fun v' L => v' = (failV v p d).1 ∧ deepL L = (failV v p d).2.map (rawM .no .no)) h' := by
  refine (?_ : ASpec Tryz.prog CT 51 [.ptr b [], .ptr c []] ⟨bs, tk⟩ fun _ h' => StepR d b bs tk [] (failV v p d).1 (failV v p d).2 h').mono fun _ _ h => step_work h
  have hbl := (List.getElem?_eq_some_iff.1 hb).1
  have g1 : ∀ y, (bs.set b y)[b]? = some y := fun y => List.getElem?_set_self hbl
  have fl : (forgetV v p).act.length ≤ v.act.length ∧ (forgetV v p).pas.length ≤ v.pas.length := by
    rw [forgetV, if_pos hck]
    exact ⟨dropL_len _ _, dropL_len _ _⟩
  refine ASpec.of hT Tryz.func51 rfl (by kernel_rfl) rfl rfl ?_
  simp only [Tryz.f51, go_sem, reduceAdd, reduceSub, reduceMul, reduceLT, reduceLeDiff, ↓reduceIte, reduceCtorEq, reduceEqDiff, reduceToNat, Int.reduceLT, reduceLE, reduceEq, nil_ptrO, hb, hc]
  refine .inl ⟨by kernel_rfl, ?_⟩
  try simp only [go_sem, reduceAdd, reduceSub, reduceMul, reduceLT, reduceLeDiff, ↓reduceIte, reduceCtorEq, reduceEqDiff, reduceToNat, Int.reduceLT, reduceLE, reduceEq, nil_ptrO, hb, hc]
  refine callD_pure (slices_contains v.act p (by omega)) (by first | rfl | (simp only [go_sem]; done)) (by first | (simp only [go_sem]; done) | (simp [pureL, pureD]; done)) ?_
  simp only [go_sem, reduceAdd, reduceSub, reduceMul, reduceLT, reduceLeDiff, ↓reduceIte, reduceCtorEq, reduceEqDiff, reduceToNat, Int.reduceLT, reduceLE, reduceEq, nil_ptrO, hb, hc]
  refine .inl ⟨by kernel_rfl, ?_⟩
  try simp only [go_sem, reduceAdd, reduceSub, reduceMul, reduceLT, reduceLeDiff, ↓reduceIte, reduceCtorEq, reduceEqDiff, reduceToNat, Int.reduceLT, reduceLE, reduceEq, nil_ptrO, hb, hc]
  refine callD_pure (view_forget v p (by omega) (by omega)) (by first | rfl | (simp only [go_sem]; done)) (by first | (simp only [go_sem]; done) | (simp [pureL, pureD]; done)) ?_
  simp only [go_sem, reduceAdd, reduceSub, reduceMul, reduceLT, reduceLeDiff, ↓reduceIte, reduceCtorEq, reduceEqDiff, reduceToNat, Int.reduceLT, reduceLE, reduceEq, nil_ptrO, hb, hc, g1]
  refine condK_split (fun a1 => ?_) (fun a1 => ?_)
  · have e : failV v p d = (forgetV v p, askV (forgetV v p) (zeroL (forgetV v p)) d) := by rw [failV, if_pos hck, if_pos (by simpa using a1)]
    simp only [go_sem, reduceAdd, reduceSub, reduceMul, reduceLT, reduceLeDiff, ↓reduceIte, reduceCtorEq, reduceEqDiff, reduceToNat, Int.reduceLT, reduceLE, reduceEq, nil_ptrO, g1]
    have hs := walk_ask (forgetV v p) d [] .full _ tk [] b (g1 _) ⟨trivial, trivial⟩ (by simp) (by omega) (by omega) (zeroL (forgetV v p))
    rw [List.append_nil] at hs
    refine callK_a hs ?_
    rintro r h' ⟨bs2, tk4, u2, L2, rfl, q2, q3, q4, q5⟩
    simp only [go_sem, reduceAdd, reduceSub, reduceMul, reduceLT, reduceLeDiff, ↓reduceIte, reduceCtorEq, reduceEqDiff, reduceToNat, Int.reduceLT, reduceLE, reduceEq]
    rw [e]; exact ⟨bs2, tk4, u2, L2, rfl, q2, q3, fr_trans (fr_set b bs _) q4, q5⟩
  · have e : failV v p d = (forgetV v p, []) := by rw [failV, if_pos hck, if_neg (by simpa using a1)]
    simp only [go_sem, reduceAdd, reduceSub, reduceMul, reduceLT, reduceLeDiff, ↓reduceIte, reduceCtorEq, reduceEqDiff, reduceToNat, Int.reduceLT, reduceLE, reduceEq]
    rw [e]
    have := step_none (tk := tk) (tk2 := []) (g1 (walkSh, walkD (forgetV v p) d [] .full)) ⟨trivial, trivial⟩ (fr_set b bs _)
    rw [List.append_nil] at this
    exact this
end Go.Ab
