/- Views, in plain words. Conditions: none. -/
import Derived.Test.YtgliaanopmlmfaaRoD
set_option linter.unusedSimpArgs false
namespace Go.Ab
open Go.Proofs

structure ViewR where
  self : Int
  act : List Int
  pas : List Int
def hasI (l : List Int) (n : Int) : Bool := decide (n ∈ l)
def dropL (l : List Int) (n : Int) : List Int := l.filter fun x => !decide (x = n)
def outL (l n : List Int) : List Int := l.filter fun x => !decide (x ∈ n)
def pickI (l n : List Int) (d : Int) : Int := if (outL l n).length = 0 then 0 else (outL l n).getD ((max d 0).toNat % (outL l n).length) 0
def checkV (v : ViewR) : Bool := vpeer v.self && rosterOk v.act && rosterOk v.pas && decide (v.act.length ≤ 4) && decide (v.pas.length ≤ 8) && !decide (v.self ∈ v.act) && !decide (v.self ∈ v.pas) && v.act.all fun p => !decide (p ∈ v.pas)
def otherV (v : ViewR) (p : Int) : Bool := vpeer p && !decide (p = v.self)
def knownV (v : ViewR) (p d : Int) : ViewR :=
  if p ∈ v.act ∨ p ∈ v.pas then v else { v with pas := withL (if 8 ≤ v.pas.length then dropL v.pas (pickI v.pas [] d) else v.pas) p }
def knowV (v : ViewR) (p d : Int) : ViewR := if otherV v p && checkV v then knownV v p d else v
def cooledV (v : ViewR) (p d : Int) : ViewR := knownV { v with act := dropL v.act p } p d
def coolV (v : ViewR) (p d : Int) : ViewR := if decide (p ∈ v.act) && checkV v then cooledV v p d else v
def roomV (v : ViewR) (d : Int) : ViewR × Int := if 4 ≤ v.act.length then (cooledV v (pickI v.act [] d) d, pickI v.act [] d) else (v, 0)
def addV (v : ViewR) (p d : Int) : ViewR × Int :=
  if otherV v p && !decide (p ∈ v.act) && checkV v then ({ (roomV v d).1 with act := withL (roomV v d).1.act p, pas := dropL (roomV v d).1.pas p }, (roomV v d).2) else (v, 0)
def forgetV (v : ViewR) (p : Int) : ViewR := if checkV v then { v with act := dropL v.act p, pas := dropL v.pas p } else v

structure VOk (v : ViewR) : Prop where
  self : vpeer v.self = true
  a1 : v.act.Pairwise (· < ·)
  a2 : ∀ n ∈ v.act, vpeer n = true
  p1 : v.pas.Pairwise (· < ·)
  p2 : ∀ n ∈ v.pas, vpeer n = true
  la : v.act.length ≤ 4
  lp : v.pas.length ≤ 8
  sa : v.self ∉ v.act
  sp : v.self ∉ v.pas
  dj : ∀ n ∈ v.act, n ∉ v.pas
theorem checkV_iff (v : ViewR) : checkV v = true ↔ VOk v := by
  simp only [checkV, Bool.and_eq_true, decide_eq_true_eq, Bool.not_eq_true', decide_eq_false_iff_not, List.all_eq_true, rosterOk_strict]
  constructor
  · rintro ⟨⟨⟨⟨⟨⟨⟨h1, h2, h3⟩, h4, h5⟩, h6⟩, h7⟩, h8⟩, h9⟩, h10⟩
    exact ⟨h1, h2, h3, h4, h5, h6, h7, h8, h9, h10⟩
  · rintro ⟨h1, h2, h3, h4, h5, h6, h7, h8, h9, h10⟩
    exact ⟨⟨⟨⟨⟨⟨⟨h1, h2, h3⟩, h4, h5⟩, h6⟩, h7⟩, h8⟩, h9⟩, h10⟩

theorem mem_dropL {l : List Int} {n m : Int} : m ∈ dropL l n ↔ m ∈ l ∧ m ≠ n := by simp [dropL]
theorem dropL_strict {l : List Int} (h : l.Pairwise (· < ·)) (n : Int) : (dropL l n).Pairwise (· < ·) := h.filter _
theorem dropL_len (l : List Int) (n : Int) : (dropL l n).length ≤ l.length := List.length_filter_le ..
theorem dropL_lt {l : List Int} {n : Int} (h : n ∈ l) : (dropL l n).length < l.length := by
  unfold dropL
  induction l with
  | nil => cases h
  | cons x l ih =>
    have := dropL_len l n
    unfold dropL at this
    rw [List.filter_cons]
    by_cases hx : x = n
    · simp only [hx, decide_true, Bool.not_true, Bool.false_eq_true, if_false, List.length_cons]; omega
    · rcases List.mem_cons.1 h with e | e
      · exact absurd e.symm hx
      · have := ih e
        simp only [decide_eq_false hx, Bool.not_false, if_true, List.length_cons]; omega
theorem outL_nil (l : List Int) : outL l [] = l := by simp [outL]
theorem mem_outL {l n : List Int} {x : Int} : x ∈ outL l n ↔ x ∈ l ∧ x ∉ n := by simp [outL]
theorem pickI_mem {l n : List Int} (d : Int) (h : (outL l n).length ≠ 0) : pickI l n d ∈ outL l n := by
  unfold pickI
  rw [if_neg h, List.getD_eq_getElem?_getD, List.getElem?_eq_getElem (Nat.mod_lt _ (by omega))]
  exact List.getElem_mem _
theorem pick_mem {l : List Int} (d : Int) (h : l.length ≠ 0) : pickI l [] d ∈ l := by
  have := pickI_mem (l := l) (n := []) d (by rw [outL_nil]; exact h)
  rwa [outL_nil] at this

theorem knownV_ok {v : ViewR} {p : Int} (d : Int) (h : VOk v) (ho : vpeer p = true) (hs : p ≠ v.self) : VOk (knownV v p d) := by
  unfold knownV
  split
  · exact h
  · rename_i hn
    simp only [not_or] at hn
    have hq : ∃ q, q = (if 8 ≤ v.pas.length then dropL v.pas (pickI v.pas [] d) else v.pas) ∧ q.Pairwise (· < ·) ∧ (∀ n ∈ q, n ∈ v.pas) ∧ q.length ≤ 7 := by
      refine ⟨_, rfl, ?_, ?_, ?_⟩
      · split
        · exact dropL_strict h.p1 _
        · exact h.p1
      · split
        · intro n hn; exact (mem_dropL.1 hn).1
        · intro n hn; exact hn
      · split
        · have := dropL_lt (pick_mem (l := v.pas) d (by omega)); have := h.lp; omega
        · omega
    obtain ⟨q, e, q1, q2, q3⟩ := hq
    rw [← e]
    refine ⟨h.self, h.a1, h.a2, withL_strict q1, fun n hn' => ?_, h.la, ?_, h.sa, fun hx => ?_, fun n hn' hx => ?_⟩
    · rcases mem_withL.1 hn' with rfl | hx
      · exact ho
      · exact h.p2 n (q2 n hx)
    · have := withL_len q p; simp only; omega
    · rcases mem_withL.1 hx with e | e
      · exact hs e.symm
      · exact h.sp (q2 _ e)
    · rcases mem_withL.1 hx with e | e
      · subst e; exact hn.1 hn'
      · exact h.dj n hn' (q2 _ e)
theorem dropV_ok {v : ViewR} (p : Int) (h : VOk v) : VOk { v with act := dropL v.act p } :=
  ⟨h.self, dropL_strict h.a1 p, fun n hn => h.a2 n (mem_dropL.1 hn).1, h.p1, h.p2, Nat.le_trans (dropL_len _ _) h.la, h.lp, fun hx => h.sa (mem_dropL.1 hx).1, h.sp, fun n hn => h.dj n (mem_dropL.1 hn).1⟩
theorem cooledV_ok {v : ViewR} {p : Int} (d : Int) (h : VOk v) (hp : p ∈ v.act) : VOk (cooledV v p d) :=
  knownV_ok d (dropV_ok p h) (h.a2 p hp) fun e => h.sa (e ▸ hp)
theorem knownV_act (v : ViewR) (p d : Int) : (knownV v p d).act = v.act ∧ (knownV v p d).self = v.self := by
  unfold knownV; split <;> exact ⟨rfl, rfl⟩
theorem knownV_has {v : ViewR} {p : Int} (d : Int) (hp : p ∉ v.act) : p ∈ (knownV v p d).pas := by
  unfold knownV
  split
  · rename_i h; exact h.resolve_left hp
  · exact mem_withL.2 (.inl rfl)
theorem roomV_ok {v : ViewR} (d : Int) (h : VOk v) : VOk (roomV v d).1 ∧ (roomV v d).1.act.length ≤ 3 ∧ (roomV v d).1.self = v.self ∧ (∀ n ∈ (roomV v d).1.act, n ∈ v.act) := by
  unfold roomV
  split
  · have hm := pick_mem (l := v.act) d (by omega)
    refine ⟨cooledV_ok d h hm, ?_, (knownV_act _ _ _).2, ?_⟩
    · simp only [cooledV, (knownV_act _ _ _).1]
      have := dropL_lt hm; have := h.la; omega
    · intro n hn
      simp only [cooledV, (knownV_act _ _ _).1] at hn
      exact (mem_dropL.1 hn).1
  · exact ⟨h, by simp only; omega, rfl, fun n hn => hn⟩
theorem addV_ok {v : ViewR} (p d : Int) (h : VOk v) : VOk (addV v p d).1 := by
  unfold addV
  split
  · rename_i hc
    simp only [Bool.and_eq_true, otherV, Bool.not_eq_true', decide_eq_false_iff_not] at hc
    obtain ⟨⟨⟨ho, hs⟩, hn⟩, _⟩ := hc
    obtain ⟨r, r1, r2, r3⟩ := roomV_ok d h
    refine ⟨r.self, withL_strict r.a1, fun n hn' => ?_, dropL_strict r.p1 _, fun n hn' => r.p2 n (mem_dropL.1 hn').1, ?_, Nat.le_trans (dropL_len _ _) r.lp, fun hx => ?_, fun hx => r.sp (mem_dropL.1 hx).1, fun n hn' hx => ?_⟩
    · rcases mem_withL.1 hn' with rfl | hx
      · exact ho
      · exact r.a2 n hx
    · have := withL_len (roomV v d).1.act p; simp only; omega
    · rcases mem_withL.1 hx with e | e
      · simp only [r2] at e; exact hs e.symm
      · exact r.sa e
    · rcases mem_withL.1 hn' with e | e
      · subst e; exact (mem_dropL.1 hx).2 rfl
      · exact r.dj n e (mem_dropL.1 hx).1
  · exact h
theorem forgetV_ok {v : ViewR} (p : Int) (h : VOk v) : VOk (forgetV v p) := by
  unfold forgetV
  split
  · exact ⟨h.self, dropL_strict h.a1 p, fun n hn => h.a2 n (mem_dropL.1 hn).1, dropL_strict h.p1 p, fun n hn => h.p2 n (mem_dropL.1 hn).1, Nat.le_trans (dropL_len _ _) h.la, Nat.le_trans (dropL_len _ _) h.lp, fun hx => h.sa (mem_dropL.1 hx).1,
      fun hx => h.sp (mem_dropL.1 hx).1, fun n hn hx => h.dj n (mem_dropL.1 hn).1 (mem_dropL.1 hx).1⟩
  · exact h
end Go.Ab
