/- Who is whose neighbour: what is asked, answered, and picked. Conditions: none. -/
import Derived.Test.YtjafmlbcjhoflaaGreatOvA
open Nat (reduceAdd reduceSub reduceMul reduceLT reduceLeDiff reduceEqDiff)
open Int (reduceToNat reduceLE reduceEq)
set_option linter.unusedSimpArgs false
namespace Go.Ab
open Go.Proofs

def replyV (v : ViewR) (m : MsgM) (d : Int) : ViewR × List MsgM := if m.flag then ((addV v m.from_ d).1, goneM v m.from_ d) else (v, [])
def leaveV (v : ViewR) (m : MsgM) (d : Int) : ViewR × List MsgM := (coolV v m.from_ d, [])
def askV (v : ViewR) (f : Bool) (d : Int) : List MsgM := if pickI v.pas [] d = 0 then [] else [⟨9, v.self, pickI v.pas [] d, f, 0, 0, []⟩]
def yesV (v : ViewR) (m : MsgM) : Bool := m.flag || decide ((v.act.length : Int) < 4) || decide (m.from_ ∈ v.act)
def neighborV (v : ViewR) (m : MsgM) (d : Int) : ViewR × List MsgM :=
  if yesV v m then ((addV v m.from_ d).1, goneM v m.from_ d ++ [⟨10, (addV v m.from_ d).1.self, m.from_, true, 0, 0, []⟩]) else (v, [⟨10, v.self, m.from_, false, 0, 0, []⟩])
theorem step_none {d : Int} {b : Nat} {bs1 bs : List (Sh × D)} {tk tk2 : List Bool} {L : List D} {u : Tok} {v : ViewR} (hb : bs[b]? = some (walkSh, walkD v d L u)) (hu : liveH u tk tk2) (hf : Fr b bs1 bs) : StepR d b bs1 tk L v [] ⟨bs, tk ++ tk2⟩ :=
  ⟨bs, tk2, u, [], rfl, by rw [List.append_nil]; exact hb, hu, hf, rfl⟩
section
variable (v : ViewR) (d : Int) (L : List D) (u : Tok) (bs : List (Sh × D)) (tk tk2 : List Bool) (b : Nat) (hb : bs[b]? = some (walkSh, walkD v d L u)) (hu : liveH u tk tk2) (hL : L.length < 100000) (ha : v.act.length < 100000) (hp : v.pas.length < 100000)
include hb hu hL ha hp
set_option maxRecDepth 8000 in
set_option maxHeartbeats 1000000 in
theorem walk_reply (m : MsgM) : ASpec Tryz.prog CT 61 [.ptr b [], rawM .no .no m] ⟨bs, tk ++ tk2⟩ fun _ h' => StepR d b bs tk L (replyV v m d).1 (replyV v m d).2 h' := by
  have _ := hu
  have _ := hL
  have _ := ha
  have _ := hp
  have hbl := (List.getElem?_eq_some_iff.1 hb).1
  have g1 : ∀ y, (bs ++ [y])[b]? = some (walkSh, walkD v d L u) := fun y => by rw [List.getElem?_append_left hbl]; exact hb
  have g2 : ∀ y, (bs ++ [y])[bs.length]? = some y := fun y => by simp
  refine ASpec.of hT Tryz.func61 rfl (by kernel_rfl) rfl rfl ?_
  simp only [Tryz.f61, go_sem, reduceAdd, reduceSub, reduceMul, reduceLT, reduceLeDiff, ↓reduceIte, reduceCtorEq, reduceEqDiff, reduceToNat, Int.reduceLT, reduceLE, reduceEq, nil_ptrO, g1, g2, zeros_len]
  cases hf : m.flag with
  | false =>
    have e : replyV v m d = (v, []) := by rw [replyV, hf]; rfl
    simp only [go_sem, reduceAdd, reduceSub, reduceMul, reduceLT, reduceLeDiff, ↓reduceIte, reduceCtorEq, reduceEqDiff, reduceToNat, Int.reduceLT, reduceLE, reduceEq, hf]
    rw [e]
    exact step_none (g1 _) hu (fr_more _ _ _)
  | true =>
    have e : replyV v m d = ((addV v m.from_ d).1, goneM v m.from_ d) := by rw [replyV, hf]; rfl
    simp only [go_sem, reduceAdd, reduceSub, reduceMul, reduceLT, reduceLeDiff, ↓reduceIte, reduceCtorEq, reduceEqDiff, reduceToNat, Int.reduceLT, reduceLE, reduceEq, hf, g2]
    refine callK_a (walk_have v d L u m.from_ _ tk tk2 b (g1 _) hu (by omega) (by omega) (by omega)) ?_
    rintro r h' ⟨bs1, tk3, u1, rfl, h2, h3, h4⟩
    simp only [go_sem, reduceAdd, reduceSub, reduceMul, reduceLT, reduceLeDiff, ↓reduceIte, reduceCtorEq, reduceEqDiff, reduceToNat, Int.reduceLT, reduceLE, reduceEq]
    rw [e]
    exact ⟨bs1, tk3, u1, _, rfl, h2, h3, fr_trans (fr_more _ _ _) h4, deep_raws _ _ _⟩
set_option maxRecDepth 8000 in
set_option maxHeartbeats 1000000 in
theorem walk_leave (m : MsgM) : ASpec Tryz.prog CT 62 [.ptr b [], rawM .no .no m] ⟨bs, tk ++ tk2⟩ fun _ h' => StepR d b bs tk L (leaveV v m d).1 (leaveV v m d).2 h' := by
  have _ := hu
  have _ := hL
  have _ := ha
  have _ := hp
  have hbl := (List.getElem?_eq_some_iff.1 hb).1
  have g1 : ∀ y, (bs ++ [y])[b]? = some (walkSh, walkD v d L u) := fun y => by rw [List.getElem?_append_left hbl]; exact hb
  have g2 : ∀ y, (bs ++ [y])[bs.length]? = some y := fun y => by simp
  have g4 : ∀ y z, (bs ++ [y]).set b z = bs.set b z ++ [y] := fun y z => by rw [List.set_append_left _ _ hbl]
  have g5 : ∀ y z, (bs.set b y ++ [z])[b]? = some y := fun y z => by rw [List.getElem?_append_left (by simpa using hbl), List.getElem?_set_self hbl]
  refine ASpec.of hT Tryz.func62 rfl (by kernel_rfl) rfl rfl ?_
  simp only [Tryz.f62, go_sem, reduceAdd, reduceSub, reduceMul, reduceLT, reduceLeDiff, ↓reduceIte, reduceCtorEq, reduceEqDiff, reduceToNat, Int.reduceLT, reduceLE, reduceEq, nil_ptrO, g1, g2, zeros_len]
  refine .inl ⟨by kernel_rfl, ?_⟩
  try simp only [go_sem, reduceAdd, reduceSub, reduceMul, reduceLT, reduceLeDiff, ↓reduceIte, reduceCtorEq, reduceEqDiff, reduceToNat, Int.reduceLT, reduceLE, reduceEq, nil_ptrO, g1, g2, zeros_len]
  refine callD_pure (view_cool v m.from_ d (by omega) (by omega)) (by first | rfl | (simp only [go_sem]; done)) (by first | (simp only [go_sem]; done) | (simp [pureL, pureD]; done)) ?_
  simp only [go_sem, reduceAdd, reduceSub, reduceMul, reduceLT, reduceLeDiff, ↓reduceIte, reduceCtorEq, reduceEqDiff, reduceToNat, Int.reduceLT, reduceLE, reduceEq, nil_ptrO, g1, g4]
  exact step_none (g5 _ _) hu (fr_trans (fr_set b bs _) (fr_more _ _ _))
set_option maxRecDepth 8000 in
set_option maxHeartbeats 1000000 in
theorem walk_ask (f : Bool) : ASpec Tryz.prog CT 46 [.ptr b [], .lit (.bool f)] ⟨bs, tk ++ tk2⟩ fun _ h' => StepR d b bs tk L v (askV v f d) h' := by
  have _ := hu
  have _ := hL
  have _ := ha
  have _ := hp
  refine ASpec.of hT Tryz.func46 rfl (by kernel_rfl) rfl rfl ?_
  simp only [Tryz.f46, go_sem, reduceAdd, reduceSub, reduceMul, reduceLT, reduceLeDiff, ↓reduceIte, reduceCtorEq, reduceEqDiff, reduceToNat, Int.reduceLT, reduceLE, reduceEq, nil_ptrO, hb]
  refine .inl ⟨by kernel_rfl, ?_⟩
  try simp only [go_sem, reduceAdd, reduceSub, reduceMul, reduceLT, reduceLeDiff, ↓reduceIte, reduceCtorEq, reduceEqDiff, reduceToNat, Int.reduceLT, reduceLE, reduceEq, nil_ptrO, hb]
  refine callD_pure (args' := [intsL v.pas .no, intsL [] .no, .lit (.int .i64 d)]) (view_pick v.pas [] d (by omega) (by simp)) (by first | rfl | (simp only [go_sem]; done)) (by first | (simp only [go_sem]; done) | (simp [pureL, pureD]; done)) ?_
  simp only [go_sem, reduceAdd, reduceSub, reduceMul, reduceLT, reduceLeDiff, ↓reduceIte, reduceCtorEq, reduceEqDiff, reduceToNat, Int.reduceLT, reduceLE, reduceEq, nil_ptrO, hb]
  refine condK_split (fun h1 => ?_) (fun h1 => ?_)
  · have h2 : ¬ pickI v.pas [] d = 0 := by simpa using h1
    have e : askV v f d = [⟨9, v.self, pickI v.pas [] d, f, 0, 0, []⟩] := if_neg h2
    simp only [go_sem, reduceAdd, reduceSub, reduceMul, reduceLT, reduceLeDiff, ↓reduceIte, reduceCtorEq, reduceEqDiff, reduceToNat, Int.reduceLT, reduceLE, reduceEq, zeros_len]
    refine callK_a (walk_send v d L u ⟨9, 0, pickI v.pas [] d, f, 0, 0, []⟩ .full bs tk tk2 b hb hu (by omega) (by simp only [go_sem, reduceAdd, reduceSub, reduceMul, reduceLT, reduceLeDiff, ↓reduceIte, reduceCtorEq, reduceEqDiff, reduceToNat, Int.reduceLT, reduceLE, reduceEq])) ?_
    rintro r h' ⟨bs1, tk3, u1, rfl, h2, h3, h4⟩
    simp only [go_sem, reduceAdd, reduceSub, reduceMul, reduceLT, reduceLeDiff, ↓reduceIte, reduceCtorEq, reduceEqDiff, reduceToNat, Int.reduceLT, reduceLE, reduceEq]
    rw [e]
    exact ⟨bs1, tk3, u1, _, rfl, h2, h3, h4, deep_raws .full .full [⟨9, v.self, _, f, 0, 0, []⟩]⟩
  · have h2 : pickI v.pas [] d = 0 := by simpa using h1
    have e : askV v f d = [] := if_pos h2
    simp only [go_sem, reduceAdd, reduceSub, reduceMul, reduceLT, reduceLeDiff, ↓reduceIte, reduceCtorEq, reduceEqDiff, reduceToNat, Int.reduceLT, reduceLE, reduceEq]
    rw [e]
    exact step_none hb hu (fr_refl _ _)
set_option maxRecDepth 8000 in
set_option maxHeartbeats 1000000 in
theorem walk_neighbor (m : MsgM) : ASpec Tryz.prog CT 60 [.ptr b [], rawM .no .no m] ⟨bs, tk ++ tk2⟩ fun _ h' => StepR d b bs tk L (neighborV v m d).1 (neighborV v m d).2 h' := by
  have _ := hu
  have _ := hL
  have _ := ha
  have _ := hp
  have hbl := (List.getElem?_eq_some_iff.1 hb).1
  have g1 : ∀ y, (bs ++ [y])[b]? = some (walkSh, walkD v d L u) := fun y => by rw [List.getElem?_append_left hbl]; exact hb
  have g2 : ∀ y, (bs ++ [y])[bs.length]? = some y := fun y => by simp
  refine ASpec.of hT Tryz.func60 rfl (by kernel_rfl) rfl rfl ?_
  simp only [Tryz.f60, go_sem, reduceAdd, reduceSub, reduceMul, reduceLT, reduceLeDiff, ↓reduceIte, reduceCtorEq, reduceEqDiff, reduceToNat, Int.reduceLT, reduceLE, reduceEq, nil_ptrO, g1, g2, zeros_len]
  refine .inl ⟨by kernel_rfl, ?_⟩
  try simp only [go_sem, reduceAdd, reduceSub, reduceMul, reduceLT, reduceLeDiff, ↓reduceIte, reduceCtorEq, reduceEqDiff, reduceToNat, Int.reduceLT, reduceLE, reduceEq, nil_ptrO, g1, g2, zeros_len]
  have hm1 : ∀ {y : Sh × D} {bs2 : List (Sh × D)}, Fr b (bs ++ [y]) bs2 → bs2[bs.length]? = some y := fun hf => (hf.2 bs.length (by omega) (by simp)).trans (g2 _)
  refine guardK_split (fun a1 => ?_) (fun a1 => ?_)
  · have hy : yesV v m = true := by rw [yesV, a1]; rfl
    simp only [go_sem, reduceAdd, reduceSub, reduceMul, reduceLT, reduceLeDiff, ↓reduceIte, reduceCtorEq, reduceEqDiff, reduceToNat, Int.reduceLT, reduceLE, reduceEq, nil_ptrO, g1, g2, zeros_len, a1]
    have e : neighborV v m d = ((addV v m.from_ d).1, goneM v m.from_ d ++ [⟨10, (addV v m.from_ d).1.self, m.from_, true, 0, 0, []⟩]) := by rw [neighborV, hy]; rfl
    try simp only [go_sem, reduceAdd, reduceSub, reduceMul, reduceLT, reduceLeDiff, ↓reduceIte, reduceCtorEq, reduceEqDiff, reduceToNat, Int.reduceLT, reduceLE, reduceEq, nil_ptrO, g1, g2, zeros_len]
    refine callK_a (walk_have v d L u m.from_ _ tk tk2 b (g1 _) hu (by omega) (by omega) (by omega)) ?_
    rintro r h' ⟨bs1, tk3, u1, rfl, h2, h3, h4⟩
    have hm := hm1 h4
    have hgl := gone_len v m.from_ d
    simp only [go_sem, reduceAdd, reduceSub, reduceMul, reduceLT, reduceLeDiff, ↓reduceIte, reduceCtorEq, reduceEqDiff, reduceToNat, Int.reduceLT, reduceLE, reduceEq, hm, zeros_len]
    refine callK_a (walk_send (addV v m.from_ d).1 d _ u1 ⟨10, 0, m.from_, true, 0, 0, []⟩ .full _ tk tk3 b h2 h3 (by rw [List.length_append, List.length_map]; omega) (by simp only [go_sem, reduceAdd, reduceSub, reduceMul, reduceLT, reduceLeDiff, ↓reduceIte, reduceCtorEq, reduceEqDiff, reduceToNat, Int.reduceLT, reduceLE, reduceEq])) ?_
    rintro r h' ⟨bs2, tk4, u2, rfl, q2, q3, q4⟩
    simp only [go_sem, reduceAdd, reduceSub, reduceMul, reduceLT, reduceLeDiff, ↓reduceIte, reduceCtorEq, reduceEqDiff, reduceToNat, Int.reduceLT, reduceLE, reduceEq]
    rw [e]
    exact ⟨bs2, tk4, u2, _, rfl, by rw [q2, List.append_assoc], q3, fr_trans (fr_trans (fr_more b bs _) h4) q4, by rw [deepL_cat, deep_raws, List.map_append]; exact congrArg _ (deep_raws .full .full [_])⟩
  simp only [go_sem, reduceAdd, reduceSub, reduceMul, reduceLT, reduceLeDiff, ↓reduceIte, reduceCtorEq, reduceEqDiff, reduceToNat, Int.reduceLT, reduceLE, reduceEq, nil_ptrO, g1, g2, zeros_len, a1]
  refine guardK_split (fun a2 => ?_) (fun a2 => ?_)
  · have hy : yesV v m = true := by rw [yesV, a1, a2]; rfl
    simp only [go_sem, reduceAdd, reduceSub, reduceMul, reduceLT, reduceLeDiff, ↓reduceIte, reduceCtorEq, reduceEqDiff, reduceToNat, Int.reduceLT, reduceLE, reduceEq, nil_ptrO, g1, g2, zeros_len, a1, a2]
    have e : neighborV v m d = ((addV v m.from_ d).1, goneM v m.from_ d ++ [⟨10, (addV v m.from_ d).1.self, m.from_, true, 0, 0, []⟩]) := by rw [neighborV, hy]; rfl
    try simp only [go_sem, reduceAdd, reduceSub, reduceMul, reduceLT, reduceLeDiff, ↓reduceIte, reduceCtorEq, reduceEqDiff, reduceToNat, Int.reduceLT, reduceLE, reduceEq, nil_ptrO, g1, g2, zeros_len]
    refine callK_a (walk_have v d L u m.from_ _ tk tk2 b (g1 _) hu (by omega) (by omega) (by omega)) ?_
    rintro r h' ⟨bs1, tk3, u1, rfl, h2, h3, h4⟩
    have hm := hm1 h4
    have hgl := gone_len v m.from_ d
    simp only [go_sem, reduceAdd, reduceSub, reduceMul, reduceLT, reduceLeDiff, ↓reduceIte, reduceCtorEq, reduceEqDiff, reduceToNat, Int.reduceLT, reduceLE, reduceEq, hm, zeros_len]
    refine callK_a (walk_send (addV v m.from_ d).1 d _ u1 ⟨10, 0, m.from_, true, 0, 0, []⟩ .full _ tk tk3 b h2 h3 (by rw [List.length_append, List.length_map]; omega) (by simp only [go_sem, reduceAdd, reduceSub, reduceMul, reduceLT, reduceLeDiff, ↓reduceIte, reduceCtorEq, reduceEqDiff, reduceToNat, Int.reduceLT, reduceLE, reduceEq])) ?_
    rintro r h' ⟨bs2, tk4, u2, rfl, q2, q3, q4⟩
    simp only [go_sem, reduceAdd, reduceSub, reduceMul, reduceLT, reduceLeDiff, ↓reduceIte, reduceCtorEq, reduceEqDiff, reduceToNat, Int.reduceLT, reduceLE, reduceEq]
    rw [e]
    exact ⟨bs2, tk4, u2, _, rfl, by rw [q2, List.append_assoc], q3, fr_trans (fr_trans (fr_more b bs _) h4) q4, by rw [deepL_cat, deep_raws, List.map_append]; exact congrArg _ (deep_raws .full .full [_])⟩
  simp only [go_sem, reduceAdd, reduceSub, reduceMul, reduceLT, reduceLeDiff, ↓reduceIte, reduceCtorEq, reduceEqDiff, reduceToNat, Int.reduceLT, reduceLE, reduceEq, nil_ptrO, g1, g2, zeros_len, a1, a2]
  refine callD_pure (slices_contains v.act m.from_ (by omega)) (by first | rfl | (simp only [go_sem]; done)) (by first | (simp only [go_sem]; done) | (simp [pureL, pureD]; done)) ?_
  cases a3 : decide (m.from_ ∈ v.act) with
  | true =>
    have hy : yesV v m = true := by rw [yesV, a1, a2, a3]; rfl
    have e : neighborV v m d = ((addV v m.from_ d).1, goneM v m.from_ d ++ [⟨10, (addV v m.from_ d).1.self, m.from_, true, 0, 0, []⟩]) := by rw [neighborV, hy]; rfl
    try simp only [go_sem, reduceAdd, reduceSub, reduceMul, reduceLT, reduceLeDiff, ↓reduceIte, reduceCtorEq, reduceEqDiff, reduceToNat, Int.reduceLT, reduceLE, reduceEq, nil_ptrO, g1, g2, zeros_len]
    refine callK_a (walk_have v d L u m.from_ _ tk tk2 b (g1 _) hu (by omega) (by omega) (by omega)) ?_
    rintro r h' ⟨bs1, tk3, u1, rfl, h2, h3, h4⟩
    have hm := hm1 h4
    have hgl := gone_len v m.from_ d
    simp only [go_sem, reduceAdd, reduceSub, reduceMul, reduceLT, reduceLeDiff, ↓reduceIte, reduceCtorEq, reduceEqDiff, reduceToNat, Int.reduceLT, reduceLE, reduceEq, hm, zeros_len]
    refine callK_a (walk_send (addV v m.from_ d).1 d _ u1 ⟨10, 0, m.from_, true, 0, 0, []⟩ .full _ tk tk3 b h2 h3 (by rw [List.length_append, List.length_map]; omega) (by simp only [go_sem, reduceAdd, reduceSub, reduceMul, reduceLT, reduceLeDiff, ↓reduceIte, reduceCtorEq, reduceEqDiff, reduceToNat, Int.reduceLT, reduceLE, reduceEq])) ?_
    rintro r h' ⟨bs2, tk4, u2, rfl, q2, q3, q4⟩
    simp only [go_sem, reduceAdd, reduceSub, reduceMul, reduceLT, reduceLeDiff, ↓reduceIte, reduceCtorEq, reduceEqDiff, reduceToNat, Int.reduceLT, reduceLE, reduceEq]
    rw [e]
    exact ⟨bs2, tk4, u2, _, rfl, by rw [q2, List.append_assoc], q3, fr_trans (fr_trans (fr_more b bs _) h4) q4, by rw [deepL_cat, deep_raws, List.map_append]; exact congrArg _ (deep_raws .full .full [_])⟩
  | false =>
      have hy : yesV v m = false := by rw [yesV, a1, a2, a3]; rfl
      have e : neighborV v m d = (v, [⟨10, v.self, m.from_, false, 0, 0, []⟩]) := by rw [neighborV, hy]; rfl
      try simp only [go_sem, reduceAdd, reduceSub, reduceMul, reduceLT, reduceLeDiff, ↓reduceIte, reduceCtorEq, reduceEqDiff, reduceToNat, Int.reduceLT, reduceLE, reduceEq, nil_ptrO, g1, g2, zeros_len]
      refine callK_a (walk_send v d L u ⟨10, 0, m.from_, false, 0, 0, []⟩ .full _ tk tk2 b (g1 _) hu (by omega) (by simp only [go_sem, reduceAdd, reduceSub, reduceMul, reduceLT, reduceLeDiff, ↓reduceIte, reduceCtorEq, reduceEqDiff, reduceToNat, Int.reduceLT, reduceLE, reduceEq])) ?_
      rintro r h' ⟨bs2, tk4, u2, rfl, q2, q3, q4⟩
      simp only [go_sem, reduceAdd, reduceSub, reduceMul, reduceLT, reduceLeDiff, ↓reduceIte, reduceCtorEq, reduceEqDiff, reduceToNat, Int.reduceLT, reduceLE, reduceEq]
      rw [e]
      exact ⟨bs2, tk4, u2, _, rfl, q2, q3, fr_trans (fr_more b bs _) q4, deep_raws .full .full [_]⟩
end
end Go.Ab
set_option linter.unusedSimpArgs false
namespace Go.Ab
open Go.Proofs

def fwdC (v : ViewR) (m : MsgM) : Bool := decide (0 < m.of_) && decide (1 < (v.act.length : Int))
def fwdV (v : ViewR) (m : MsgM) (d : Int) : ViewR := if (fwdC v m && decide (m.of_ = 1)) = true then knowV v m.n d else v
def fwdT (v : ViewR) (m : MsgM) (d : Int) : Int := if fwdC v m = true then pickI (fwdV v m d).act [m.from_, m.n] d else 0
def forwardV (v : ViewR) (m : MsgM) (d : Int) : ViewR × List MsgM :=
  if m.n = v.self then (v, [])
  else if ¬ fwdT v m d = 0 then (fwdV v m d, [⟨8, (fwdV v m d).self, fwdT v m d, false, m.n, m.of_ - 1, []⟩])
  else if m.n ∈ (fwdV v m d).act then (fwdV v m d, [])
  else ((addV (fwdV v m d) m.n d).1, goneM (fwdV v m d) m.n d ++ [⟨9, (addV (fwdV v m d) m.n d).1.self, m.n, true, 0, 0, []⟩])
theorem know_len (v : ViewR) (p d : Int) : (knowV v p d).act = v.act ∧ (knowV v p d).pas.length ≤ v.pas.length + 1 ∧ (knowV v p d).self = v.self := by
  unfold knowV; split
  · unfold knownV; split
    · exact ⟨rfl, Nat.le_succ _, rfl⟩
    · refine ⟨rfl, ?_, rfl⟩
      have h1 := withL_len (if 8 ≤ v.pas.length then dropL v.pas (pickI v.pas [] d) else v.pas) p
      have h2 : (if 8 ≤ v.pas.length then dropL v.pas (pickI v.pas [] d) else v.pas).length ≤ v.pas.length := by
        split
        · exact dropL_len _ _
        · exact Nat.le_refl _
      show (withL _ p).length ≤ _
      omega
  · exact ⟨rfl, Nat.le_succ _, rfl⟩
section
variable (v : ViewR) (d : Int) (L : List D) (u : Tok) (bs : List (Sh × D)) (tk tk2 : List Bool) (b : Nat) (hb : bs[b]? = some (walkSh, walkD v d L u))
include hb
set_option maxRecDepth 8000 in
theorem walk_pick (not : List Int) (w : Tok) (hw : pureD (intsL not w)) (hn : not.length < 1000000) (ha : v.act.length < 1000000) : ASpec Tryz.prog CT 47 [.ptr b [], intsL not w] ⟨bs, tk⟩ fun r h' => r = .int (pickI v.act not d) ∧ h' = ⟨bs, tk⟩ := by
  refine ASpec.of hT Tryz.func47 rfl (by kernel_rfl) rfl rfl ?_
  simp only [Tryz.f47, go_sem, reduceAdd, reduceSub, reduceMul, reduceLT, reduceLeDiff, ↓reduceIte, reduceCtorEq, reduceEqDiff, reduceToNat, Int.reduceLT, reduceLE, reduceEq, nil_ptrO, hb]
  refine .inl ⟨by kernel_rfl, ?_⟩
  try simp only [go_sem, reduceAdd, reduceSub, reduceMul, reduceLT, reduceLeDiff, ↓reduceIte, reduceCtorEq, reduceEqDiff, reduceToNat, Int.reduceLT, reduceLE, reduceEq, nil_ptrO, hb]
  refine callD_pure (args' := [intsL v.act .no, intsL not .no, .lit (.int .i64 d)]) (view_pick v.act not d (by omega) (by omega)) (by first | rfl | (simp only [go_sem]; done)) (by first | (simp only [go_sem]; done) | (simp [pureL, pureD]; done)) ?_
  simp only [go_sem, reduceAdd, reduceSub, reduceMul, reduceLT, reduceLeDiff, ↓reduceIte, reduceCtorEq, reduceEqDiff, reduceToNat, Int.reduceLT, reduceLE, reduceEq]
variable (hu : liveH u tk tk2) (hL : L.length < 100000) (ha : v.act.length < 100000) (hp : v.pas.length < 100000)
include hu hL ha hp
set_option maxRecDepth 8000 in
set_option maxHeartbeats 2000000 in
theorem walk_forward (m : MsgM) (hof : m.of_ ≤ 100000) : ASpec Tryz.prog CT 59 [.ptr b [], rawM .no .no m] ⟨bs, tk ++ tk2⟩ fun _ h' => StepR d b bs tk L (forwardV v m d).1 (forwardV v m d).2 h' := by
  have _ := hu
  have _ := hL
  have _ := ha
  have _ := hp
  have hbl := (List.getElem?_eq_some_iff.1 hb).1
  have g1 : ∀ y, (bs ++ [y])[b]? = some (walkSh, walkD v d L u) := fun y => by rw [List.getElem?_append_left hbl]; exact hb
  have g2 : ∀ y, (bs ++ [y])[bs.length]? = some y := fun y => by simp
  have g4 : ∀ y z, (bs ++ [y]).set b z = bs.set b z ++ [y] := fun y z => by rw [List.set_append_left _ _ hbl]
  have g5 : ∀ y z, (bs.set b y ++ [z])[b]? = some y := fun y z => by rw [List.getElem?_append_left (by simpa using hbl), List.getElem?_set_self hbl]
  have g6 : ∀ y z, (bs.set b y ++ [z])[bs.length]? = some z := fun y z => by rw [List.getElem?_append_right (by simp)]; simp
  have hl1 := know_len v m.n d
  refine ASpec.of hT Tryz.func59 rfl (by kernel_rfl) rfl rfl ?_
  simp only [Tryz.f59, go_sem, reduceAdd, reduceSub, reduceMul, reduceLT, reduceLeDiff, ↓reduceIte, reduceCtorEq, reduceEqDiff, reduceToNat, Int.reduceLT, reduceLE, reduceEq, nil_ptrO, g1, g2, zeros_len]
  refine .inl ⟨by kernel_rfl, ?_⟩
  try simp only [go_sem, reduceAdd, reduceSub, reduceMul, reduceLT, reduceLeDiff, ↓reduceIte, reduceCtorEq, reduceEqDiff, reduceToNat, Int.reduceLT, reduceLE, reduceEq, nil_ptrO, g1, g2, zeros_len]
  refine condK_split (fun a1 => ?_) (fun a1 => ?_)
  · have a2 := of_decide_eq_true a1
    have e : forwardV v m d = (v, []) := by rw [forwardV, if_pos a2]
    simp only [go_sem, reduceAdd, reduceSub, reduceMul, reduceLT, reduceLeDiff, ↓reduceIte, reduceCtorEq, reduceEqDiff, reduceToNat, Int.reduceLT, reduceLE, reduceEq]
    rw [e]
    exact step_none (g1 _) hu (fr_more _ _ _)
  have hns : ¬ m.n = v.self := of_decide_eq_false a1
  simp only [go_sem, reduceAdd, reduceSub, reduceMul, reduceLT, reduceLeDiff, ↓reduceIte, reduceCtorEq, reduceEqDiff, reduceToNat, Int.reduceLT, reduceLE, reduceEq, nil_ptrO, g1, g2, zeros_len]
  refine guardK_split (fun a2 => ?_) (fun a2 => ?_)
  · have a2' := of_decide_eq_true a2
    have hw1 : IntKind.i64.wrap (m.of_ - 1) = m.of_ - 1 := by rw [wrap64] <;> omega
    simp only [go_sem, reduceAdd, reduceSub, reduceMul, reduceLT, reduceLeDiff, ↓reduceIte, reduceCtorEq, reduceEqDiff, reduceToNat, Int.reduceLT, reduceLE, reduceEq, nil_ptrO, g1, g2, zeros_len, a2]
    refine condK_split (fun a3 => ?_) (fun a3 => ?_)
    · have hC : fwdC v m = true := by rw [fwdC, a2, a3]; rfl
      simp only [go_sem, reduceAdd, reduceSub, reduceMul, reduceLT, reduceLeDiff, ↓reduceIte, reduceCtorEq, reduceEqDiff, reduceToNat, Int.reduceLT, reduceLE, reduceEq, g2, zeros_len]
      refine condK_split (fun a4 => ?_) (fun a4 => ?_)
      · have eV : fwdV v m d = knowV v m.n d := by rw [fwdV, hC, a4]; rfl
        have eT : fwdT v m d = pickI (knowV v m.n d).act [m.from_, m.n] d := by rw [fwdT, hC, if_pos rfl, eV]
        have hbx := g5 (walkSh, walkD (knowV v m.n d) d L u) (msgSh, rawM .no .no m)
        have hmx := g6 (walkSh, walkD (knowV v m.n d) d L u) (msgSh, rawM .no .no m)
        have hfx : Fr b bs (bs.set b (walkSh, walkD (knowV v m.n d) d L u) ++ [(msgSh, rawM .no .no m)]) := fr_trans (fr_set b bs _) (fr_more _ _ _)
        simp only [go_sem, reduceAdd, reduceSub, reduceMul, reduceLT, reduceLeDiff, ↓reduceIte, reduceCtorEq, reduceEqDiff, reduceToNat, Int.reduceLT, reduceLE, reduceEq, nil_ptrO, g1, g2, zeros_len]
        refine .inl ⟨by kernel_rfl, ?_⟩
        try simp only [go_sem, reduceAdd, reduceSub, reduceMul, reduceLT, reduceLeDiff, ↓reduceIte, reduceCtorEq, reduceEqDiff, reduceToNat, Int.reduceLT, reduceLE, reduceEq, nil_ptrO, g1, g2, zeros_len]
        refine callD_pure (view_know v m.n d (by omega) (by omega)) (by first | rfl | (simp only [go_sem]; done)) (by first | (simp only [go_sem]; done) | (simp [pureL, pureD]; done)) ?_
        simp only [go_sem, reduceAdd, reduceSub, reduceMul, reduceLT, reduceLeDiff, ↓reduceIte, reduceCtorEq, reduceEqDiff, reduceToNat, Int.reduceLT, reduceLE, reduceEq, nil_ptrO, g1, g4, hmx]
        obtain ⟨q1, q2, q3⟩ := hl1
        have q4 : (knowV v m.n d).act.length < 100000 := by rw [q1]; exact ha
        refine callK_a (walk_pick (knowV v m.n d) d L u _ _ b hbx [m.from_, m.n] .full trivial (by simp) (by omega)) ?_
        rintro r h' ⟨rfl, rfl⟩
        simp only [go_sem, reduceAdd, reduceSub, reduceMul, reduceLT, reduceLeDiff, ↓reduceIte, reduceCtorEq, reduceEqDiff, reduceToNat, Int.reduceLT, reduceLE, reduceEq]
        refine condK_split (fun a5 => ?_) (fun a5 => ?_)
        · have a6 : ¬ pickI (knowV v m.n d).act [m.from_, m.n] d = 0 := by simpa using a5
          have e : forwardV v m d = (knowV v m.n d, [⟨8, (knowV v m.n d).self, pickI (knowV v m.n d).act [m.from_, m.n] d, false, m.n, m.of_ - 1, []⟩]) := by rw [forwardV, if_neg hns, eT, eV, if_pos a6]
          simp only [go_sem, reduceAdd, reduceSub, reduceMul, reduceLT, reduceLeDiff, ↓reduceIte, reduceCtorEq, reduceEqDiff, reduceToNat, Int.reduceLT, reduceLE, reduceEq, hmx, zeros_len, hw1]
          refine callK_a (walk_send (knowV v m.n d) d L u ⟨8, 0, pickI (knowV v m.n d).act [m.from_, m.n] d, false, m.n, m.of_ - 1, []⟩ .full _ tk tk2 b hbx hu (by omega) (by simp only [go_sem, reduceAdd, reduceSub, reduceMul, reduceLT, reduceLeDiff, ↓reduceIte, reduceCtorEq, reduceEqDiff, reduceToNat, Int.reduceLT, reduceLE, reduceEq])) ?_
          rintro r h' ⟨bs2, tk4, u2, rfl, q2, q3, q4⟩
          simp only [go_sem, reduceAdd, reduceSub, reduceMul, reduceLT, reduceLeDiff, ↓reduceIte, reduceCtorEq, reduceEqDiff, reduceToNat, Int.reduceLT, reduceLE, reduceEq]
          rw [e]
          exact ⟨bs2, tk4, u2, _, rfl, q2, q3, fr_trans hfx q4, deep_raws .full .full [_]⟩
        · have a6 : pickI (knowV v m.n d).act [m.from_, m.n] d = 0 := by simpa using a5
          simp only [go_sem, reduceAdd, reduceSub, reduceMul, reduceLT, reduceLeDiff, ↓reduceIte, reduceCtorEq, reduceEqDiff, reduceToNat, Int.reduceLT, reduceLE, reduceEq, nil_ptrO, hbx, hmx, zeros_len]
          refine .inl ⟨by kernel_rfl, ?_⟩
          try simp only [go_sem, reduceAdd, reduceSub, reduceMul, reduceLT, reduceLeDiff, ↓reduceIte, reduceCtorEq, reduceEqDiff, reduceToNat, Int.reduceLT, reduceLE, reduceEq, nil_ptrO, hbx, hmx, zeros_len]
          refine callD_pure (slices_contains (knowV v m.n d).act m.n (by omega)) (by first | rfl | (simp only [go_sem]; done)) (by first | (simp only [go_sem]; done) | (simp [pureL, pureD]; done)) ?_
          cases a7 : decide (m.n ∈ (knowV v m.n d).act) with
          | true =>
            have e : forwardV v m d = (knowV v m.n d, []) := by rw [forwardV, if_neg hns, eT, eV, if_neg (by simpa using a6), if_pos (of_decide_eq_true a7)]
            simp only [go_sem, reduceAdd, reduceSub, reduceMul, reduceLT, reduceLeDiff, ↓reduceIte, reduceCtorEq, reduceEqDiff, reduceToNat, Int.reduceLT, reduceLE, reduceEq, Bool.not_true]
            rw [e]
            exact step_none hbx hu hfx
          | false =>
            have e : forwardV v m d = ((addV (knowV v m.n d) m.n d).1, goneM (knowV v m.n d) m.n d ++ [⟨9, (addV (knowV v m.n d) m.n d).1.self, m.n, true, 0, 0, []⟩]) := by rw [forwardV, if_neg hns, eT, eV, if_neg (by simpa using a6), if_neg (of_decide_eq_false a7)]
            simp only [go_sem, reduceAdd, reduceSub, reduceMul, reduceLT, reduceLeDiff, ↓reduceIte, reduceCtorEq, reduceEqDiff, reduceToNat, Int.reduceLT, reduceLE, reduceEq, nil_ptrO, hbx, hmx, zeros_len, Bool.not_false]
            refine callK_a (walk_have (knowV v m.n d) d L u m.n _ tk tk2 b hbx hu (by omega) (by omega) (by omega)) ?_
            rintro r h' ⟨bs1, tk3, u1, rfl, h2, h3, h4⟩
            have hm : bs1[bs.length]? = some (msgSh, rawM .no .no m) := (h4.2 bs.length (by omega) (by have := (List.getElem?_eq_some_iff.1 hmx).1; exact this)).trans hmx
            have hgl := gone_len (knowV v m.n d) m.n d
            simp only [go_sem, reduceAdd, reduceSub, reduceMul, reduceLT, reduceLeDiff, ↓reduceIte, reduceCtorEq, reduceEqDiff, reduceToNat, Int.reduceLT, reduceLE, reduceEq, hm, zeros_len]
            refine callK_a (walk_send (addV (knowV v m.n d) m.n d).1 d _ u1 ⟨9, 0, m.n, true, 0, 0, []⟩ .full _ tk tk3 b h2 h3 (by rw [List.length_append, List.length_map]; omega) (by simp only [go_sem, reduceAdd, reduceSub, reduceMul, reduceLT, reduceLeDiff, ↓reduceIte, reduceCtorEq, reduceEqDiff, reduceToNat, Int.reduceLT, reduceLE, reduceEq])) ?_
            rintro r h' ⟨bs2, tk4, u2, rfl, q2, q3, q4⟩
            simp only [go_sem, reduceAdd, reduceSub, reduceMul, reduceLT, reduceLeDiff, ↓reduceIte, reduceCtorEq, reduceEqDiff, reduceToNat, Int.reduceLT, reduceLE, reduceEq]
            rw [e]
            exact ⟨bs2, tk4, u2, _, rfl, by rw [q2, List.append_assoc], q3, fr_trans (fr_trans hfx h4) q4, by rw [deepL_cat, deep_raws, List.map_append]; exact congrArg _ (deep_raws .full .full [_])⟩
      · have eV : fwdV v m d = v := by rw [fwdV, hC, a4]; rfl
        have eT : fwdT v m d = pickI v.act [m.from_, m.n] d := by rw [fwdT, hC, if_pos rfl, eV]
        have hbx := g1 (msgSh, rawM .no .no m)
        have hmx := g2 (msgSh, rawM .no .no m)
        have hfx : Fr b bs (bs ++ [(msgSh, rawM .no .no m)]) := fr_more _ _ _
        simp only [go_sem, reduceAdd, reduceSub, reduceMul, reduceLT, reduceLeDiff, ↓reduceIte, reduceCtorEq, reduceEqDiff, reduceToNat, Int.reduceLT, reduceLE, reduceEq, nil_ptrO, g1, g2, zeros_len]
        refine callK_a (walk_pick v d L u _ _ b hbx [m.from_, m.n] .full trivial (by simp) (by omega)) ?_
        rintro r h' ⟨rfl, rfl⟩
        simp only [go_sem, reduceAdd, reduceSub, reduceMul, reduceLT, reduceLeDiff, ↓reduceIte, reduceCtorEq, reduceEqDiff, reduceToNat, Int.reduceLT, reduceLE, reduceEq]
        refine condK_split (fun a5 => ?_) (fun a5 => ?_)
        · have a6 : ¬ pickI v.act [m.from_, m.n] d = 0 := by simpa using a5
          have e : forwardV v m d = (v, [⟨8, (v).self, pickI v.act [m.from_, m.n] d, false, m.n, m.of_ - 1, []⟩]) := by rw [forwardV, if_neg hns, eT, eV, if_pos a6]
          simp only [go_sem, reduceAdd, reduceSub, reduceMul, reduceLT, reduceLeDiff, ↓reduceIte, reduceCtorEq, reduceEqDiff, reduceToNat, Int.reduceLT, reduceLE, reduceEq, hmx, zeros_len, hw1]
          refine callK_a (walk_send (v) d L u ⟨8, 0, pickI v.act [m.from_, m.n] d, false, m.n, m.of_ - 1, []⟩ .full _ tk tk2 b hbx hu (by omega) (by simp only [go_sem, reduceAdd, reduceSub, reduceMul, reduceLT, reduceLeDiff, ↓reduceIte, reduceCtorEq, reduceEqDiff, reduceToNat, Int.reduceLT, reduceLE, reduceEq])) ?_
          rintro r h' ⟨bs2, tk4, u2, rfl, q2, q3, q4⟩
          simp only [go_sem, reduceAdd, reduceSub, reduceMul, reduceLT, reduceLeDiff, ↓reduceIte, reduceCtorEq, reduceEqDiff, reduceToNat, Int.reduceLT, reduceLE, reduceEq]
          rw [e]
          exact ⟨bs2, tk4, u2, _, rfl, q2, q3, fr_trans hfx q4, deep_raws .full .full [_]⟩
        · have a6 : pickI v.act [m.from_, m.n] d = 0 := by simpa using a5
          simp only [go_sem, reduceAdd, reduceSub, reduceMul, reduceLT, reduceLeDiff, ↓reduceIte, reduceCtorEq, reduceEqDiff, reduceToNat, Int.reduceLT, reduceLE, reduceEq, nil_ptrO, hbx, hmx, zeros_len]
          refine .inl ⟨by kernel_rfl, ?_⟩
          try simp only [go_sem, reduceAdd, reduceSub, reduceMul, reduceLT, reduceLeDiff, ↓reduceIte, reduceCtorEq, reduceEqDiff, reduceToNat, Int.reduceLT, reduceLE, reduceEq, nil_ptrO, hbx, hmx, zeros_len]
          refine callD_pure (slices_contains (v).act m.n (by omega)) (by first | rfl | (simp only [go_sem]; done)) (by first | (simp only [go_sem]; done) | (simp [pureL, pureD]; done)) ?_
          cases a7 : decide (m.n ∈ (v).act) with
          | true =>
            have e : forwardV v m d = (v, []) := by rw [forwardV, if_neg hns, eT, eV, if_neg (by simpa using a6), if_pos (of_decide_eq_true a7)]
            simp only [go_sem, reduceAdd, reduceSub, reduceMul, reduceLT, reduceLeDiff, ↓reduceIte, reduceCtorEq, reduceEqDiff, reduceToNat, Int.reduceLT, reduceLE, reduceEq, Bool.not_true]
            rw [e]
            exact step_none hbx hu hfx
          | false =>
            have e : forwardV v m d = ((addV (v) m.n d).1, goneM (v) m.n d ++ [⟨9, (addV (v) m.n d).1.self, m.n, true, 0, 0, []⟩]) := by rw [forwardV, if_neg hns, eT, eV, if_neg (by simpa using a6), if_neg (of_decide_eq_false a7)]
            simp only [go_sem, reduceAdd, reduceSub, reduceMul, reduceLT, reduceLeDiff, ↓reduceIte, reduceCtorEq, reduceEqDiff, reduceToNat, Int.reduceLT, reduceLE, reduceEq, nil_ptrO, hbx, hmx, zeros_len, Bool.not_false]
            refine callK_a (walk_have (v) d L u m.n _ tk tk2 b hbx hu (by omega) (by omega) (by omega)) ?_
            rintro r h' ⟨bs1, tk3, u1, rfl, h2, h3, h4⟩
            have hm : bs1[bs.length]? = some (msgSh, rawM .no .no m) := (h4.2 bs.length (by omega) (by have := (List.getElem?_eq_some_iff.1 hmx).1; exact this)).trans hmx
            have hgl := gone_len (v) m.n d
            simp only [go_sem, reduceAdd, reduceSub, reduceMul, reduceLT, reduceLeDiff, ↓reduceIte, reduceCtorEq, reduceEqDiff, reduceToNat, Int.reduceLT, reduceLE, reduceEq, hm, zeros_len]
            refine callK_a (walk_send (addV (v) m.n d).1 d _ u1 ⟨9, 0, m.n, true, 0, 0, []⟩ .full _ tk tk3 b h2 h3 (by rw [List.length_append, List.length_map]; omega) (by simp only [go_sem, reduceAdd, reduceSub, reduceMul, reduceLT, reduceLeDiff, ↓reduceIte, reduceCtorEq, reduceEqDiff, reduceToNat, Int.reduceLT, reduceLE, reduceEq])) ?_
            rintro r h' ⟨bs2, tk4, u2, rfl, q2, q3, q4⟩
            simp only [go_sem, reduceAdd, reduceSub, reduceMul, reduceLT, reduceLeDiff, ↓reduceIte, reduceCtorEq, reduceEqDiff, reduceToNat, Int.reduceLT, reduceLE, reduceEq]
            rw [e]
            exact ⟨bs2, tk4, u2, _, rfl, by rw [q2, List.append_assoc], q3, fr_trans (fr_trans hfx h4) q4, by rw [deepL_cat, deep_raws, List.map_append]; exact congrArg _ (deep_raws .full .full [_])⟩
    · have hC : fwdC v m = false := by rw [fwdC, a2, a3]; rfl
      have eV : fwdV v m d = v := by rw [fwdV, hC]; rfl
      have eT : fwdT v m d = 0 := by rw [fwdT, hC]; rfl
      have hbx := g1 (msgSh, rawM .no .no m)
      have hmx := g2 (msgSh, rawM .no .no m)
      have hfx : Fr b bs (bs ++ [(msgSh, rawM .no .no m)]) := fr_more _ _ _
      simp only [go_sem, reduceAdd, reduceSub, reduceMul, reduceLT, reduceLeDiff, ↓reduceIte, reduceCtorEq, reduceEqDiff, reduceToNat, Int.reduceLT, reduceLE, reduceEq, nil_ptrO, hbx, hmx, zeros_len]
      refine .inl ⟨by kernel_rfl, ?_⟩
      try simp only [go_sem, reduceAdd, reduceSub, reduceMul, reduceLT, reduceLeDiff, ↓reduceIte, reduceCtorEq, reduceEqDiff, reduceToNat, Int.reduceLT, reduceLE, reduceEq, nil_ptrO, hbx, hmx, zeros_len]
      refine callD_pure (slices_contains (v).act m.n (by omega)) (by first | rfl | (simp only [go_sem]; done)) (by first | (simp only [go_sem]; done) | (simp [pureL, pureD]; done)) ?_
      cases a7 : decide (m.n ∈ (v).act) with
      | true =>
        have e : forwardV v m d = (v, []) := by rw [forwardV, if_neg hns, eT, eV, if_neg (by simp), if_pos (of_decide_eq_true a7)]
        simp only [go_sem, reduceAdd, reduceSub, reduceMul, reduceLT, reduceLeDiff, ↓reduceIte, reduceCtorEq, reduceEqDiff, reduceToNat, Int.reduceLT, reduceLE, reduceEq, Bool.not_true]
        rw [e]
        exact step_none hbx hu hfx
      | false =>
        have e : forwardV v m d = ((addV (v) m.n d).1, goneM (v) m.n d ++ [⟨9, (addV (v) m.n d).1.self, m.n, true, 0, 0, []⟩]) := by rw [forwardV, if_neg hns, eT, eV, if_neg (by simp), if_neg (of_decide_eq_false a7)]
        simp only [go_sem, reduceAdd, reduceSub, reduceMul, reduceLT, reduceLeDiff, ↓reduceIte, reduceCtorEq, reduceEqDiff, reduceToNat, Int.reduceLT, reduceLE, reduceEq, nil_ptrO, hbx, hmx, zeros_len, Bool.not_false]
        refine callK_a (walk_have (v) d L u m.n _ tk tk2 b hbx hu (by omega) (by omega) (by omega)) ?_
        rintro r h' ⟨bs1, tk3, u1, rfl, h2, h3, h4⟩
        have hm : bs1[bs.length]? = some (msgSh, rawM .no .no m) := (h4.2 bs.length (by omega) (by have := (List.getElem?_eq_some_iff.1 hmx).1; exact this)).trans hmx
        have hgl := gone_len (v) m.n d
        simp only [go_sem, reduceAdd, reduceSub, reduceMul, reduceLT, reduceLeDiff, ↓reduceIte, reduceCtorEq, reduceEqDiff, reduceToNat, Int.reduceLT, reduceLE, reduceEq, hm, zeros_len]
        refine callK_a (walk_send (addV (v) m.n d).1 d _ u1 ⟨9, 0, m.n, true, 0, 0, []⟩ .full _ tk tk3 b h2 h3 (by rw [List.length_append, List.length_map]; omega) (by simp only [go_sem, reduceAdd, reduceSub, reduceMul, reduceLT, reduceLeDiff, ↓reduceIte, reduceCtorEq, reduceEqDiff, reduceToNat, Int.reduceLT, reduceLE, reduceEq])) ?_
        rintro r h' ⟨bs2, tk4, u2, rfl, q2, q3, q4⟩
        simp only [go_sem, reduceAdd, reduceSub, reduceMul, reduceLT, reduceLeDiff, ↓reduceIte, reduceCtorEq, reduceEqDiff, reduceToNat, Int.reduceLT, reduceLE, reduceEq]
        rw [e]
        exact ⟨bs2, tk4, u2, _, rfl, by rw [q2, List.append_assoc], q3, fr_trans (fr_trans hfx h4) q4, by rw [deepL_cat, deep_raws, List.map_append]; exact congrArg _ (deep_raws .full .full [_])⟩
  · have hC : fwdC v m = false := by rw [fwdC, a2]; rfl
    have eV : fwdV v m d = v := by rw [fwdV, hC]; rfl
    have eT : fwdT v m d = 0 := by rw [fwdT, hC]; rfl
    have hbx := g1 (msgSh, rawM .no .no m)
    have hmx := g2 (msgSh, rawM .no .no m)
    have hfx : Fr b bs (bs ++ [(msgSh, rawM .no .no m)]) := fr_more _ _ _
    simp only [go_sem, reduceAdd, reduceSub, reduceMul, reduceLT, reduceLeDiff, ↓reduceIte, reduceCtorEq, reduceEqDiff, reduceToNat, Int.reduceLT, reduceLE, reduceEq, nil_ptrO, hbx, hmx, zeros_len, a2]
    refine .inl ⟨by kernel_rfl, ?_⟩
    try simp only [go_sem, reduceAdd, reduceSub, reduceMul, reduceLT, reduceLeDiff, ↓reduceIte, reduceCtorEq, reduceEqDiff, reduceToNat, Int.reduceLT, reduceLE, reduceEq, nil_ptrO, hbx, hmx, zeros_len]
    refine callD_pure (slices_contains (v).act m.n (by omega)) (by first | rfl | (simp only [go_sem]; done)) (by first | (simp only [go_sem]; done) | (simp [pureL, pureD]; done)) ?_
    cases a7 : decide (m.n ∈ (v).act) with
    | true =>
      have e : forwardV v m d = (v, []) := by rw [forwardV, if_neg hns, eT, eV, if_neg (by simp), if_pos (of_decide_eq_true a7)]
      simp only [go_sem, reduceAdd, reduceSub, reduceMul, reduceLT, reduceLeDiff, ↓reduceIte, reduceCtorEq, reduceEqDiff, reduceToNat, Int.reduceLT, reduceLE, reduceEq, Bool.not_true]
      rw [e]
      exact step_none hbx hu hfx
    | false =>
      have e : forwardV v m d = ((addV (v) m.n d).1, goneM (v) m.n d ++ [⟨9, (addV (v) m.n d).1.self, m.n, true, 0, 0, []⟩]) := by rw [forwardV, if_neg hns, eT, eV, if_neg (by simp), if_neg (of_decide_eq_false a7)]
      simp only [go_sem, reduceAdd, reduceSub, reduceMul, reduceLT, reduceLeDiff, ↓reduceIte, reduceCtorEq, reduceEqDiff, reduceToNat, Int.reduceLT, reduceLE, reduceEq, nil_ptrO, hbx, hmx, zeros_len, Bool.not_false]
      refine callK_a (walk_have (v) d L u m.n _ tk tk2 b hbx hu (by omega) (by omega) (by omega)) ?_
      rintro r h' ⟨bs1, tk3, u1, rfl, h2, h3, h4⟩
      have hm : bs1[bs.length]? = some (msgSh, rawM .no .no m) := (h4.2 bs.length (by omega) (by have := (List.getElem?_eq_some_iff.1 hmx).1; exact this)).trans hmx
      have hgl := gone_len (v) m.n d
      simp only [go_sem, reduceAdd, reduceSub, reduceMul, reduceLT, reduceLeDiff, ↓reduceIte, reduceCtorEq, reduceEqDiff, reduceToNat, Int.reduceLT, reduceLE, reduceEq, hm, zeros_len]
      refine callK_a (walk_send (addV (v) m.n d).1 d _ u1 ⟨9, 0, m.n, true, 0, 0, []⟩ .full _ tk tk3 b h2 h3 (by rw [List.length_append, List.length_map]; omega) (by simp only [go_sem, reduceAdd, reduceSub, reduceMul, reduceLT, reduceLeDiff, ↓reduceIte, reduceCtorEq, reduceEqDiff, reduceToNat, Int.reduceLT, reduceLE, reduceEq])) ?_
      rintro r h' ⟨bs2, tk4, u2, rfl, q2, q3, q4⟩
      simp only [go_sem, reduceAdd, reduceSub, reduceMul, reduceLT, reduceLeDiff, ↓reduceIte, reduceCtorEq, reduceEqDiff, reduceToNat, Int.reduceLT, reduceLE, reduceEq]
      rw [e]
      exact ⟨bs2, tk4, u2, _, rfl, by rw [q2, List.append_assoc], q3, fr_trans (fr_trans hfx h4) q4, by rw [deepL_cat, deep_raws, List.map_append]; exact congrArg _ (deep_raws .full .full [_])⟩
end
end Go.Ab
