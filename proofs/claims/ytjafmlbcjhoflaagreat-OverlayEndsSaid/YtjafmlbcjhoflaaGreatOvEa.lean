/- Who is whose neighbour, in plain words: what a message leads to weighs less than it. Conditions: none. -/
import Derived.Test.YtjafmlbcjhoflaaGreatOvW
set_option linter.unusedSimpArgs false
namespace Go.Ab
open Go.Proofs

/-- How many messages one leads to, itself counted. -/
def wM (m : MsgM) : Nat := if m.kind = 7 then 38 else if m.kind = 8 then 6 + m.of_.toNat else if m.kind = 9 then 4 else if m.kind = 10 then 2 else if m.kind = 12 then 2 + m.of_.toNat else 1
def sumW (l : List MsgM) : Nat := (l.map wM).sum
theorem sumW_nil : sumW [] = 0 := rfl
theorem sumW_cons (m : MsgM) (l : List MsgM) : sumW (m :: l) = wM m + sumW l := by simp [sumW]
theorem sumW_cat (a b : List MsgM) : sumW (a ++ b) = sumW a + sumW b := by simp [sumW]
theorem wM_pos (m : MsgM) : 1 ≤ wM m := by unfold wM; repeat' split
                                           all_goals omega
theorem gone_w (v : ViewR) (p d : Int) : sumW (goneM v p d) ≤ 1 := by
  unfold goneM; split
  · simp [sumW]
  · simp [sumW, wM]
theorem tell_w (self p : Int) (l : List Int) : sumW (tellM self p l) ≤ 9 * l.length := by
  have h : ∀ l : List Int, sumW (l.map fun q => (⟨8, self, q, false, p, 3, []⟩ : MsgM)) = 9 * l.length := by
    intro l
    induction l with
    | nil => rfl
    | cons x r ih => rw [List.map_cons, sumW_cons, ih, List.length_cons]; simp only [wM]; simp; omega
  unfold tellM
  rw [h]
  have := List.length_filter_le (fun q => !decide (q = p)) l
  omega
theorem join_w {v : ViewR} {m : MsgM} (d : Int) (h : VOk v) : sumW (joinV v m d).2 + 1 ≤ 38 := by
  have h1 := gone_w v m.from_ d
  have h2 := tell_w (addV v m.from_ d).1.self m.from_ (addV v m.from_ d).1.act
  have h3 := (addV_ok m.from_ d h).la
  show sumW (goneM v m.from_ d ++ tellM (addV v m.from_ d).1.self m.from_ (addV v m.from_ d).1.act) + 1 ≤ 38
  rw [sumW_cat]; omega
theorem forward_w (v : ViewR) (m : MsgM) (d : Int) : sumW (forwardV v m d).2 + 1 ≤ 6 + m.of_.toNat := by
  unfold forwardV
  split
  · simp [sumW]; omega
  split
  · rename_i ht
    have hc : fwdC v m = true := by
      cases hc : fwdC v m with
      | true => rfl
      | false => exact absurd (by simp [fwdT, hc]) ht
    have ho : 0 < m.of_ := by simp only [fwdC, Bool.and_eq_true, decide_eq_true_eq] at hc; exact hc.1
    rw [sumW_cons, sumW_nil]
    simp only [wM]
    simp
    omega
  · split
    · simp [sumW]; omega
    · rw [sumW_cat, sumW_cons, sumW_nil]
      have := gone_w (fwdV v m d) m.n d
      simp only [wM]
      simp
      omega
theorem neighbor_w (v : ViewR) (m : MsgM) (d : Int) : sumW (neighborV v m d).2 + 1 ≤ 4 := by
  unfold neighborV
  split
  · rw [sumW_cat, sumW_cons, sumW_nil]
    have := gone_w v m.from_ d
    simp only [wM]
    simp
    omega
  · rw [sumW_cons, sumW_nil]
    simp [wM]
theorem reply_w (v : ViewR) (m : MsgM) (d : Int) : sumW (replyV v m d).2 + 1 ≤ 2 := by
  unfold replyV
  split
  · have := gone_w v m.from_ d; simp only; omega
  · simp [sumW]
theorem shuffle_w (v : ViewR) (m : MsgM) (d : Int) : sumW (shuffleV v m d).2 + 1 ≤ 2 + m.of_.toNat := by
  unfold shuffleV
  split
  · rename_i ht
    have ho : 0 < m.of_ := by
      by_cases ho : 0 < m.of_
      · exact ho
      · exact absurd (by rw [shufT, if_neg ho]) ht
    rw [sumW_cons, sumW_nil]
    simp only [wM]
    simp
    omega
  · split
    · simp [sumW]; omega
    · rw [sumW_cons, sumW_nil]
      simp only [wM]
      simp
theorem step_w {v : ViewR} (m : MsgM) (d : Int) (h : VOk v) : sumW (stepOf v m d).2 + 1 ≤ wM m := by
  unfold stepOf wM
  by_cases h7 : m.kind = 7
  · rw [if_pos h7, if_pos h7]; exact join_w d h
  rw [if_neg h7, if_neg h7]
  by_cases h8 : m.kind = 8
  · rw [if_pos h8, if_pos h8]; exact forward_w v m d
  rw [if_neg h8, if_neg h8]
  by_cases h9 : m.kind = 9
  · rw [if_pos h9, if_pos h9]; exact neighbor_w v m d
  rw [if_neg h9, if_neg h9]
  by_cases h10 : m.kind = 10
  · rw [if_pos h10, if_pos h10]; exact reply_w v m d
  rw [if_neg h10, if_neg h10]
  by_cases h12 : m.kind = 12
  · rw [if_neg (by omega : ¬ m.kind = 11), if_pos h12, if_pos h12]; exact shuffle_w v m d
  rw [if_neg h12, if_neg h12]
  by_cases h11 : m.kind = 11
  · rw [if_pos h11]; simp [leaveV, sumW]
  rw [if_neg h11]
  split
  · simp [backV, sumW]
  · simp [sumW]
theorem cool_self (v : ViewR) (p d : Int) : (coolV v p d).self = v.self := by
  unfold coolV; split
  · unfold cooledV knownV; split <;> rfl
  · rfl
theorem step_self (v : ViewR) (m : MsgM) (d : Int) : (stepOf v m d).1.self = v.self := by
  unfold stepOf
  split
  · exact add_self v m.from_ d
  split
  · have hself : (fwdV v m d).self = v.self := by
      unfold fwdV; split
      · exact (know_len v m.n d).2.2
      · rfl
    unfold forwardV
    split
    · rfl
    split
    · exact hself
    split
    · exact hself
    · exact (add_self _ _ _).trans hself
  split
  · unfold neighborV; split
    · exact add_self v m.from_ d
    · rfl
  split
  · unfold replyV; split
    · exact add_self v m.from_ d
    · rfl
  split
  · exact cool_self v m.from_ d
  split
  · unfold shuffleV; split
    · rfl
    split
    · exact (knownL_len d m.peers v).2.2
    · exact (knownL_len d m.peers v).2.2
  split
  · exact (knownL_len d m.peers v).2.2
  · rfl
theorem usedM_gOf {m : MsgM} (h : okG (gOf m) = true) : usedM (gOf m) = m := by
  have h2 := gOf_used h
  obtain ⟨k, f, t, fl, n, o, ps⟩ := m
  simp only [gOf] at h2
  injection h2 with e1 e2 e3 _ _ _ e7 _ e9 e10 _ _ _ e14
  show usedM (gOf _) = _
  rw [show usedM (gOf ⟨k, f, t, fl, n, o, ps⟩) = ⟨k, f, t, (usedM (gOf ⟨k, f, t, fl, n, o, ps⟩)).flag, (usedM (gOf ⟨k, f, t, fl, n, o, ps⟩)).n, (usedM (gOf ⟨k, f, t, fl, n, o, ps⟩)).of_, (usedM (gOf ⟨k, f, t, fl, n, o, ps⟩)).peers⟩ from rfl]
  simp only [gOf] at e7 e9 e10 e14 ⊢
  rw [← e7, ← e9, ← e10, ← e14]
/-- A message on its way is taken. -/
theorem take_w {v : ViewR} {m : MsgM} (d : Int) (h : VOk v) : sumW (takeV v (gOf m) d).2 + 1 ≤ wM m := by
  unfold takeV
  split
  · rename_i hc
    simp only [Bool.and_eq_true, decide_eq_true_eq] at hc
    rw [usedM_gOf hc.2.2]
    exact step_w m d h
  · have := wM_pos m; simp [sumW]; omega
theorem take_self (v : ViewR) (y : GMsg) (d : Int) : (takeV v y d).1.self = v.self := by
  unfold takeV
  split
  · exact step_self v _ d
  · rfl
theorem meet_self (v : ViewR) (p d : Int) : (meetV v p d).1.self = v.self := by
  unfold meetV
  split
  · exact add_self v p d
  · rfl
theorem meet_w (v : ViewR) (p d : Int) : sumW (meetV v p d).2 ≤ 39 := by
  unfold meetV
  split
  · rw [sumW_cat, sumW_cons, sumW_nil]
    have := gone_w v p d
    simp only [wM]
    simp
    omega
  · simp [sumW]
end Go.Ab
