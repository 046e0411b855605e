/- Who is whose neighbour, in plain words: what a message leads to weighs less than it. Conditions: none. -/
import Derived.Test.YtjafmlbcjhoflaaGreatOvW
import Derived.Test.YtjafmlbcjhoflaaGreatAbFr
open Nat (reduceAdd reduceSub reduceMul reduceLT reduceLeDiff reduceEqDiff)
open Int (reduceToNat reduceLE reduceEq)
set_option linter.unusedSimpArgs false
namespace Go.Ab
open Go.Proofs

/-- How many messages one leads to, itself counted. -/
def wM (m : MsgM) : Nat := if m.kind = 7 then 38 else if m.kind = 8 then 6 + m.of_.toNat else if m.kind = 9 then 4 else if m.kind = 10 then 2 else if m.kind = 12 then 2 + m.of_.toNat else 1
def sumW (l : List MsgM) : Nat := (l.map wM).sum
theorem sumW_nil : sumW [] = 0 := rfl
theorem sumW_cons (m : MsgM) (l : List MsgM) : sumW (m :: l) = wM m + sumW l := by simp [sumW]
theorem sumW_cat (a b : List MsgM) : sumW (a ++ b) = sumW a + sumW b := by simp [sumW]
theorem wM_pos (m : MsgM) : 1 ≤ wM m := by unfold wM; repeat' split
                                           all_goals omega
theorem gone_w (v : ViewR) (p d : Int) : sumW (goneM v p d) ≤ 1 := by
  unfold goneM; split
  · simp [sumW]
  · simp [sumW, wM]
theorem cool_self (v : ViewR) (p d : Int) : (coolV v p d).self = v.self := by
  unfold coolV; split
  · unfold cooledV knownV; split <;> rfl
  · rfl
theorem usedM_gOf {m : MsgM} (h : okG (gOf m) = true) : usedM (gOf m) = m := by
  have h2 := gOf_used h
  obtain ⟨k, f, t, fl, n, o, ps⟩ := m
  simp only [gOf] at h2
  injection h2 with e1 e2 e3 _ _ _ e7 _ e9 e10 _ _ _ e14
  show usedM (gOf _) = _
  rw [show usedM (gOf ⟨k, f, t, fl, n, o, ps⟩) = ⟨k, f, t, (usedM (gOf ⟨k, f, t, fl, n, o, ps⟩)).flag, (usedM (gOf ⟨k, f, t, fl, n, o, ps⟩)).n, (usedM (gOf ⟨k, f, t, fl, n, o, ps⟩)).of_, (usedM (gOf ⟨k, f, t, fl, n, o, ps⟩)).peers⟩ from rfl]
  simp only [gOf] at e7 e9 e10 e14 ⊢
  rw [← e7, ← e9, ← e10, ← e14]
theorem meet_self (v : ViewR) (p d : Int) : (meetV v p d).1.self = v.self := by
  unfold meetV
  split
  · exact add_self v p d
  · rfl
end Go.Ab
set_option linter.unusedSimpArgs false
namespace Go.Ab
open Go.Proofs

theorem tokC_same (n : Nat) (t : Tok) : tokC n n t = t := by simp [tokC]
section
variable {P : Program} {C : Tab}
theorem appK_any {K : St → Prop} {dst : Option Tmp} {ts : List D} {mu : Bool} (e : TypeId) (l m : List D) (t t' : Tok) (bs : List (Sh × D)) (tk : List Bool) (ha : live t tk) (hb : 0 < C.bytes e) (hl : (l.length + m.length) * C.bytes e ≤ 140737488355328)
    (hk : ∀ u tk', live u tk' → K (St.put ⟨ts, ⟨bs, tk'⟩⟩ dst (.lst e (l ++ m) u))) : appK C mu K dst ts bs tk (.slice e) (.lst e l t) (.lst e m t') := by
  by_cases hm : m = []
  · subst hm
    refine .inl ⟨e, rfl, _, _, ⟨l, [], t, t', rfl, rfl, hb, hl, ?_, .inr ⟨rfl, rfl, rfl⟩⟩, by have := hk t tk ha; rw [List.append_nil] at this; exact this⟩
    cases t with
    | no => exact ha.elim
    | full => trivial
    | own id => exact ha
  · exact appK_live _ _ _ e l m t t' bs tk ha hm hb hl hk
theorem FSpec.call_made {f : FuncId} {args args' : List D} {R : D → TypeId → List D → Prop} (hs : FSpec P C f args' R) (bs : List (Sh × D)) (tk : List Bool) (ha : args.map erase = args') (hp : pureL args') :
    ASpec P C f args ⟨bs, tk⟩ fun r h' => ∃ a u L t z, r = .tup [a, .lst u L t] ∧ h' = ⟨bs, tk ++ z⟩ ∧ live t (tk ++ z) ∧ R a u L :=
  (hs.call bs tk ha hp).mono fun r h' ⟨a, u, L, t, z, h1, h2, h3, h4⟩ => ⟨a, u, L, t, z, h1, h2, h3.1, h4⟩
end
/-- A made message on its way. -/
def WOk (m : MsgM) : Prop := okG (gOf m) = true ∧ (7 ≤ m.kind ∧ m.kind ≤ 13) ∧ m.peers.length ≤ 40
theorem check_way {m : MsgM} (h : WOk m) : PSpec Tryz.prog CT 23 [rawM .no .no m] (· = .bool true) := by
  obtain ⟨h1, ⟨h2, h3⟩, h5⟩ := h
  have := ref26_checkG (gOf m) (gok_gOf h5) (by show m.peers.length < 4000000000; omega) h2 h3
  rw [raw_gOf, h1] at this
  exact this
theorem pure_made (m : MsgM) : pureD (rawM .no .no m) := by
  have := pure_rawG (gOf m)
  rw [raw_gOf] at this
  exact this.1
/-- Everybody's views. -/
structure VsOk (vs : List ViewR) : Prop where
  len : vs.length = 12
  ok : ∀ (i : Nat) (v : ViewR), vs[i]? = some v → VOk v ∧ v.self = (i : Int) + 1
theorem VsOk.set {vs : List ViewR} (h : VsOk vs) {i : Nat} {v x : ViewR} (hv : vs[i]? = some v) (hx : VOk x) (hs : x.self = v.self) : VsOk (vs.set i x) := by
  refine ⟨by rw [List.length_set]; exact h.len, fun j y hy => ?_⟩
  rw [List.getElem?_set] at hy
  split at hy
  · rename_i hij
    subst hij
    split at hy
    · cases hy; exact ⟨hx, hs.trans (h.ok i v hv).2⟩
    · cases hy
  · exact h.ok j y hy
def vsL (l : List ViewR) (j : Nat) : List D := CT.zero 24 :: ((l.take j).map viewD ++ List.replicate (12 - j) (CT.zero 24))
theorem vsL_len (l : List ViewR) (j : Nat) (hj : j ≤ 12) (hl : 12 ≤ l.length) : (vsL l j).length = 13 := by
  simp [vsL]; omega
theorem vsL_end {l : List ViewR} (hl : 12 ≤ l.length) : vsL l 12 = CT.zero 24 :: (l.take 12).map viewD := by simp [vsL]
end Go.Ab
