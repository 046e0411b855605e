/- Views, in plain words. Conditions: none. -/
import Derived.Test.YtjafmlbcjhoflaaGreatRoC
open Nat (reduceAdd reduceSub reduceMul reduceLT reduceLeDiff reduceEqDiff)
open Int (reduceToNat reduceLE reduceEq)
set_option linter.unusedSimpArgs false
namespace Go.Ab
open Go.Proofs

structure ViewR where
  self : Int
  act : List Int
  pas : List Int
def hasI (l : List Int) (n : Int) : Bool := decide (n ∈ l)
def dropL (l : List Int) (n : Int) : List Int := l.filter fun x => !decide (x = n)
def outL (l n : List Int) : List Int := l.filter fun x => !decide (x ∈ n)
def pickI (l n : List Int) (d : Int) : Int := if (outL l n).length = 0 then 0 else (outL l n).getD ((max d 0).toNat % (outL l n).length) 0
def checkV (v : ViewR) : Bool := vpeer v.self && rosterOk v.act && rosterOk v.pas && decide (v.act.length ≤ 4) && decide (v.pas.length ≤ 8) && !decide (v.self ∈ v.act) && !decide (v.self ∈ v.pas) && v.act.all fun p => !decide (p ∈ v.pas)
def otherV (v : ViewR) (p : Int) : Bool := vpeer p && !decide (p = v.self)
def knownV (v : ViewR) (p d : Int) : ViewR :=
  if p ∈ v.act ∨ p ∈ v.pas then v else { v with pas := withL (if 8 ≤ v.pas.length then dropL v.pas (pickI v.pas [] d) else v.pas) p }
def knowV (v : ViewR) (p d : Int) : ViewR := if otherV v p && checkV v then knownV v p d else v
def cooledV (v : ViewR) (p d : Int) : ViewR := knownV { v with act := dropL v.act p } p d
def coolV (v : ViewR) (p d : Int) : ViewR := if decide (p ∈ v.act) && checkV v then cooledV v p d else v
def roomV (v : ViewR) (d : Int) : ViewR × Int := if 4 ≤ v.act.length then (cooledV v (pickI v.act [] d) d, pickI v.act [] d) else (v, 0)
def addV (v : ViewR) (p d : Int) : ViewR × Int :=
  if otherV v p && !decide (p ∈ v.act) && checkV v then ({ (roomV v d).1 with act := withL (roomV v d).1.act p, pas := dropL (roomV v d).1.pas p }, (roomV v d).2) else (v, 0)
def forgetV (v : ViewR) (p : Int) : ViewR := if checkV v then { v with act := dropL v.act p, pas := dropL v.pas p } else v

structure VOk (v : ViewR) : Prop where
  self : vpeer v.self = true
  a1 : v.act.Pairwise (· < ·)
  a2 : ∀ n ∈ v.act, vpeer n = true
  p1 : v.pas.Pairwise (· < ·)
  p2 : ∀ n ∈ v.pas, vpeer n = true
  la : v.act.length ≤ 4
  lp : v.pas.length ≤ 8
  sa : v.self ∉ v.act
  sp : v.self ∉ v.pas
  dj : ∀ n ∈ v.act, n ∉ v.pas
theorem checkV_iff (v : ViewR) : checkV v = true ↔ VOk v := by
  simp only [checkV, Bool.and_eq_true, decide_eq_true_eq, Bool.not_eq_true', decide_eq_false_iff_not, List.all_eq_true, rosterOk_strict]
  constructor
  · rintro ⟨⟨⟨⟨⟨⟨⟨h1, h2, h3⟩, h4, h5⟩, h6⟩, h7⟩, h8⟩, h9⟩, h10⟩
    exact ⟨h1, h2, h3, h4, h5, h6, h7, h8, h9, h10⟩
  · rintro ⟨h1, h2, h3, h4, h5, h6, h7, h8, h9, h10⟩
    exact ⟨⟨⟨⟨⟨⟨⟨h1, h2, h3⟩, h4, h5⟩, h6⟩, h7⟩, h8⟩, h9⟩, h10⟩

theorem mem_dropL {l : List Int} {n m : Int} : m ∈ dropL l n ↔ m ∈ l ∧ m ≠ n := by simp [dropL]
theorem dropL_strict {l : List Int} (h : l.Pairwise (· < ·)) (n : Int) : (dropL l n).Pairwise (· < ·) := h.filter _
theorem dropL_len (l : List Int) (n : Int) : (dropL l n).length ≤ l.length := List.length_filter_le ..
theorem dropL_lt {l : List Int} {n : Int} (h : n ∈ l) : (dropL l n).length < l.length := by
  unfold dropL
  induction l with
  | nil => cases h
  | cons x l ih =>
    have := dropL_len l n
    unfold dropL at this
    rw [List.filter_cons]
    by_cases hx : x = n
    · simp only [hx, decide_true, Bool.not_true, Bool.false_eq_true, if_false, List.length_cons]; omega
    · rcases List.mem_cons.1 h with e | e
      · exact absurd e.symm hx
      · have := ih e
        simp only [decide_eq_false hx, Bool.not_false, if_true, List.length_cons]; omega
theorem outL_nil (l : List Int) : outL l [] = l := by simp [outL]
theorem mem_outL {l n : List Int} {x : Int} : x ∈ outL l n ↔ x ∈ l ∧ x ∉ n := by simp [outL]
theorem pickI_mem {l n : List Int} (d : Int) (h : (outL l n).length ≠ 0) : pickI l n d ∈ outL l n := by
  unfold pickI
  rw [if_neg h, List.getD_eq_getElem?_getD, List.getElem?_eq_getElem (Nat.mod_lt _ (by omega))]
  exact List.getElem_mem _
theorem pick_mem {l : List Int} (d : Int) (h : l.length ≠ 0) : pickI l [] d ∈ l := by
  have := pickI_mem (l := l) (n := []) d (by rw [outL_nil]; exact h)
  rwa [outL_nil] at this

theorem knownV_ok {v : ViewR} {p : Int} (d : Int) (h : VOk v) (ho : vpeer p = true) (hs : p ≠ v.self) : VOk (knownV v p d) := by
  unfold knownV
  split
  · exact h
  · rename_i hn
    simp only [not_or] at hn
    have hq : ∃ q, q = (if 8 ≤ v.pas.length then dropL v.pas (pickI v.pas [] d) else v.pas) ∧ q.Pairwise (· < ·) ∧ (∀ n ∈ q, n ∈ v.pas) ∧ q.length ≤ 7 := by
      refine ⟨_, rfl, ?_, ?_, ?_⟩
      · split
        · exact dropL_strict h.p1 _
        · exact h.p1
      · split
        · intro n hn; exact (mem_dropL.1 hn).1
        · intro n hn; exact hn
      · split
        · have := dropL_lt (pick_mem (l := v.pas) d (by omega)); have := h.lp; omega
        · omega
    obtain ⟨q, e, q1, q2, q3⟩ := hq
    rw [← e]
    refine ⟨h.self, h.a1, h.a2, withL_strict q1, fun n hn' => ?_, h.la, ?_, h.sa, fun hx => ?_, fun n hn' hx => ?_⟩
    · rcases mem_withL.1 hn' with rfl | hx
      · exact ho
      · exact h.p2 n (q2 n hx)
    · have := withL_len q p; simp only; omega
    · rcases mem_withL.1 hx with e | e
      · exact hs e.symm
      · exact h.sp (q2 _ e)
    · rcases mem_withL.1 hx with e | e
      · subst e; exact hn.1 hn'
      · exact h.dj n hn' (q2 _ e)
theorem dropV_ok {v : ViewR} (p : Int) (h : VOk v) : VOk { v with act := dropL v.act p } :=
  ⟨h.self, dropL_strict h.a1 p, fun n hn => h.a2 n (mem_dropL.1 hn).1, h.p1, h.p2, Nat.le_trans (dropL_len _ _) h.la, h.lp, fun hx => h.sa (mem_dropL.1 hx).1, h.sp, fun n hn => h.dj n (mem_dropL.1 hn).1⟩
theorem cooledV_ok {v : ViewR} {p : Int} (d : Int) (h : VOk v) (hp : p ∈ v.act) : VOk (cooledV v p d) :=
  knownV_ok d (dropV_ok p h) (h.a2 p hp) fun e => h.sa (e ▸ hp)
theorem knownV_act (v : ViewR) (p d : Int) : (knownV v p d).act = v.act ∧ (knownV v p d).self = v.self := by
  unfold knownV; split <;> exact ⟨rfl, rfl⟩
theorem knownV_has {v : ViewR} {p : Int} (d : Int) (hp : p ∉ v.act) : p ∈ (knownV v p d).pas := by
  unfold knownV
  split
  · rename_i h; exact h.resolve_left hp
  · exact mem_withL.2 (.inl rfl)
theorem roomV_ok {v : ViewR} (d : Int) (h : VOk v) : VOk (roomV v d).1 ∧ (roomV v d).1.act.length ≤ 3 ∧ (roomV v d).1.self = v.self ∧ (∀ n ∈ (roomV v d).1.act, n ∈ v.act) := by
  unfold roomV
  split
  · have hm := pick_mem (l := v.act) d (by omega)
    refine ⟨cooledV_ok d h hm, ?_, (knownV_act _ _ _).2, ?_⟩
    · simp only [cooledV, (knownV_act _ _ _).1]
      have := dropL_lt hm; have := h.la; omega
    · intro n hn
      simp only [cooledV, (knownV_act _ _ _).1] at hn
      exact (mem_dropL.1 hn).1
  · exact ⟨h, by simp only; omega, rfl, fun n hn => hn⟩
theorem addV_ok {v : ViewR} (p d : Int) (h : VOk v) : VOk (addV v p d).1 := by
  unfold addV
  split
  · rename_i hc
    simp only [Bool.and_eq_true, otherV, Bool.not_eq_true', decide_eq_false_iff_not] at hc
    obtain ⟨⟨⟨ho, hs⟩, hn⟩, _⟩ := hc
    obtain ⟨r, r1, r2, r3⟩ := roomV_ok d h
    refine ⟨r.self, withL_strict r.a1, fun n hn' => ?_, dropL_strict r.p1 _, fun n hn' => r.p2 n (mem_dropL.1 hn').1, ?_, Nat.le_trans (dropL_len _ _) r.lp, fun hx => ?_, fun hx => r.sp (mem_dropL.1 hx).1, fun n hn' hx => ?_⟩
    · rcases mem_withL.1 hn' with rfl | hx
      · exact ho
      · exact r.a2 n hx
    · have := withL_len (roomV v d).1.act p; simp only; omega
    · rcases mem_withL.1 hx with e | e
      · simp only [r2] at e; exact hs e.symm
      · exact r.sa e
    · rcases mem_withL.1 hn' with e | e
      · subst e; exact (mem_dropL.1 hx).2 rfl
      · exact r.dj n e (mem_dropL.1 hx).1
  · exact h
theorem forgetV_ok {v : ViewR} (p : Int) (h : VOk v) : VOk (forgetV v p) := by
  unfold forgetV
  split
  · exact ⟨h.self, dropL_strict h.a1 p, fun n hn => h.a2 n (mem_dropL.1 hn).1, dropL_strict h.p1 p, fun n hn => h.p2 n (mem_dropL.1 hn).1, Nat.le_trans (dropL_len _ _) h.la, Nat.le_trans (dropL_len _ _) h.lp, fun hx => h.sa (mem_dropL.1 hx).1,
      fun hx => h.sp (mem_dropL.1 hx).1, fun n hn hx => h.dj n (mem_dropL.1 hn).1 (mem_dropL.1 hx).1⟩
  · exact h
end Go.Ab
set_option linter.unusedSimpArgs false
namespace Go.Ab
open Go.Proofs

theorem cmp_less (a b : Int) : PSpec Tryz.prog CT 129 [.lit (.int .i64 a), .lit (.int .i64 b)] (· = .bool (decide (a < b))) := by
  have hn : ∀ x : Int, PSpec Tryz.prog CT 155 [.lit (.int .i64 x)] (· = .bool false) := fun x => by
    refine PSpec.of hT Tryz.func155 rfl (by kernel_rfl) rfl rfl ?_
    simp only [Tryz.f155, go_sem, reduceAdd, reduceSub, reduceMul, reduceLT, reduceLeDiff, ↓reduceIte, reduceCtorEq, reduceEqDiff, reduceToNat, Int.reduceLT, reduceLE, reduceEq]
  refine PSpec.of hT Tryz.func129 rfl (by kernel_rfl) rfl rfl ?_
  simp only [Tryz.f129, go_sem, reduceAdd, reduceSub, reduceMul, reduceLT, reduceLeDiff, ↓reduceIte, reduceCtorEq, reduceEqDiff, reduceToNat, Int.reduceLT, reduceLE, reduceEq]
  refine callK_pure (hn a) (by simp only [go_sem, ]) (by simp only [go_sem, ]) ?_; simp only [go_sem, reduceAdd, reduceSub, reduceMul, reduceLT, reduceLeDiff, ↓reduceIte, reduceCtorEq, reduceEqDiff, reduceToNat, Int.reduceLT, reduceLE, reduceEq, ]
theorem slices_isNaN (x : Int) : PSpec Tryz.prog CT 134 [.lit (.int .i64 x)] (· = .bool false) := by
  refine PSpec.of hT Tryz.func134 rfl (by kernel_rfl) rfl rfl ?_
  simp only [Tryz.f134, go_sem, reduceAdd, reduceSub, reduceMul, reduceLT, reduceLeDiff, ↓reduceIte, reduceCtorEq, reduceEqDiff, reduceToNat, Int.reduceLT, reduceLE, reduceEq]

theorem slices_index (l : List Int) (n : Int) (hl : l.length < 4000000000) : PSpec Tryz.prog CT 79 [intsL l .no, .lit (.int .i64 n)]
    (fun d => (d = .lit (.int .i64 (-1)) ∧ n ∉ l) ∨ ∃ k : Nat, d = .lit (.int .i64 k) ∧ k < l.length ∧ l.getD k 0 = n ∧ ∀ p, p < k → l.getD p 0 ≠ n) := by
  refine PSpec.of hT Tryz.func79 rfl (by kernel_rfl) rfl rfl ?_
  simp only [Tryz.f79, go_sem, reduceAdd, reduceSub, reduceMul, reduceLT, reduceLeDiff, ↓reduceIte, reduceCtorEq, reduceEqDiff, reduceToNat, Int.reduceLT, reduceLE, reduceEq]
  refine awp_loop (fun m s => ∃ (k : Nat) (g : Nat → D), s = ⟨[intsL l .no, .lit (.int .i64 n), g 2, g 3, g 4, g 5, g 6, .lit (.int .i64 l.length), .lit (.int .i64 k), g 9, g 10, g 11, g 12, g 13, g 14, g 15, g 16, g 17, g 18], ⟨[], []⟩⟩ ∧ m = l.length - k ∧ k ≤ l.length ∧ ∀ p, p < k → l.getD p 0 ≠ n) l.length ⟨0, reg_intro rfl rfl ⟨by simp, by omega, by simp⟩⟩ ?_
  rintro m s ⟨k, g, rfl, hn, hk, hp⟩
  simp only [go_sem, reduceAdd, reduceSub, reduceMul, reduceLT, reduceLeDiff, ↓reduceIte, reduceCtorEq, reduceEqDiff, reduceToNat, Int.reduceLT, reduceLE, reduceEq]
  refine condK_split (fun hc => ?_) (fun hc => ?_)
  · have hk' : k < l.length := by have := of_decide_eq_true hc; omega
    simp only [go_sem, reduceAdd, reduceSub, reduceMul, reduceLT, reduceLeDiff, ↓reduceIte, reduceCtorEq, reduceEqDiff, reduceToNat, Int.reduceLT, reduceLE, reduceEq, hk']
    refine condK_split (fun h1 => ?_) (fun h1 => ?_)
    · have h1 := of_decide_eq_true h1
      simp only [go_sem, reduceAdd, reduceSub, reduceMul, reduceLT, reduceLeDiff, ↓reduceIte, reduceCtorEq, reduceEqDiff, reduceToNat, Int.reduceLT, reduceLE, reduceEq]
      exact .inr ⟨k, rfl, hk', h1.symm, hp⟩
    · have h1 := of_decide_eq_false h1
      simp only [go_sem, reduceAdd, reduceSub, reduceMul, reduceLT, reduceLeDiff, ↓reduceIte, reduceCtorEq, reduceEqDiff, reduceToNat, Int.reduceLT, reduceLE, reduceEq, wrapNat k (by omega)]
      refine ⟨l.length - (k + 1), by omega, k + 1, reg_intro rfl rfl ⟨rfl, by omega, fun p h => ?_⟩⟩
      by_cases hpk : p = k
      · subst hpk; exact fun e => h1 e.symm
      · exact hp p (by omega)
  · have hi := of_decide_eq_false hc
    obtain rfl : k = l.length := by omega
    simp only [go_sem, reduceAdd, reduceSub, reduceMul, reduceLT, reduceLeDiff, ↓reduceIte, reduceCtorEq, reduceEqDiff, reduceToNat, Int.reduceLT, reduceLE, reduceEq]
    refine .inl fun h => ?_
    obtain ⟨i, hi, rfl⟩ := List.mem_iff_getElem.1 h
    exact absurd (by simp [List.getD_eq_getElem?_getD, hi]) (hp i hi)
theorem mem_getD {l : List Int} {k : Nat} (h : k < l.length) : l.getD k 0 ∈ l := by
  rw [List.getD_eq_getElem?_getD, List.getElem?_eq_getElem h]; exact List.getElem_mem h
theorem slices_contains (l : List Int) (n : Int) (hl : l.length < 4000000000) : PSpec Tryz.prog CT 52 [intsL l .no, .lit (.int .i64 n)] (· = .bool (decide (n ∈ l))) := by
  refine PSpec.of hT Tryz.func52 rfl (by kernel_rfl) rfl rfl ?_
  simp only [Tryz.f52, go_sem, reduceAdd, reduceSub, reduceMul, reduceLT, reduceLeDiff, ↓reduceIte, reduceCtorEq, reduceEqDiff, reduceToNat, Int.reduceLT, reduceLE, reduceEq]
  refine callK_rel (slices_index l n hl) (by simp only [go_sem, reduceAdd, reduceSub, reduceMul, reduceLT, reduceLeDiff, ↓reduceIte, reduceCtorEq, reduceEqDiff, reduceToNat, Int.reduceLT, reduceLE, reduceEq]) (by simp only [go_sem, reduceAdd, reduceSub, reduceMul, reduceLT, reduceLeDiff, ↓reduceIte, reduceCtorEq, reduceEqDiff, reduceToNat, Int.reduceLT, reduceLE, reduceEq]) ?_
  rintro c (⟨rfl, hi⟩ | ⟨k, rfl, hk, he, _⟩)
  · simp only [go_sem, reduceAdd, reduceSub, reduceMul, reduceLT, reduceLeDiff, ↓reduceIte, reduceCtorEq, reduceEqDiff, reduceToNat, Int.reduceLT, reduceLE, reduceEq, decide_eq_false hi]
    trace_state
  · have : n ∈ l := he ▸ mem_getD hk
    have h0 : (0 : Int) ≤ k := by omega
    simp only [go_sem, reduceAdd, reduceSub, reduceMul, reduceLT, reduceLeDiff, ↓reduceIte, reduceCtorEq, reduceEqDiff, reduceToNat, Int.reduceLT, reduceLE, reduceEq, decide_eq_true this, decide_eq_true h0]
theorem view_has (l : List Int) (n : Int) (hl : l.length < 4000000000) : PSpec Tryz.prog CT 88 [intsL l .no, .lit (.int .i64 n)] (· = .bool (decide (n ∈ l))) := by
  refine PSpec.of hT Tryz.func88 rfl (by kernel_rfl) rfl rfl ?_
  simp only [Tryz.f88, go_sem, reduceAdd, reduceSub, reduceMul, reduceLT, reduceLeDiff, ↓reduceIte, reduceCtorEq, reduceEqDiff, reduceToNat, Int.reduceLT, reduceLE, reduceEq]
  refine callK_pure (slices_contains l n hl) (by simp only [go_sem, ]) (by simp only [go_sem, ]) ?_; simp only [go_sem, reduceAdd, reduceSub, reduceMul, reduceLT, reduceLeDiff, ↓reduceIte, reduceCtorEq, reduceEqDiff, reduceToNat, Int.reduceLT, reduceLE, reduceEq, ]

theorem fdiv2 (n : Nat) : Int.fdiv (n : Int) (2 ^ min 1 64) = ((n / 2 : Nat) : Int) := by
  have : (2 : Int) ^ min 1 64 = 2 := by decide
  rw [this, Int.fdiv_eq_ediv_of_nonneg _ (by omega)]; omega

/-- Where a number would stand. -/
def LowAt (l : List Int) (n : Int) (i : Nat) : Prop := i ≤ l.length ∧ (∀ p, p < i → l.getD p 0 < n) ∧ ∀ p, i ≤ p → p < l.length → n ≤ l.getD p 0
theorem strict_at {l : List Int} (h : l.Pairwise (· < ·)) {p q : Nat} (hpq : p < q) (hq : q < l.length) : l.getD p 0 < l.getD q 0 := by
  rw [List.getD_eq_getElem?_getD, List.getD_eq_getElem?_getD, List.getElem?_eq_getElem hq, List.getElem?_eq_getElem (show p < l.length by omega)]
  exact List.pairwise_iff_getElem.1 h p q _ _ hpq
set_option maxRecDepth 8000 in
theorem slices_binary (l : List Int) (n : Int) (hl : l.length < 1000000000) (hs : l.Pairwise (· < ·)) : PSpec Tryz.prog CT 111 [intsL l .no, .lit (.int .i64 n)]
    (fun d => ∃ i : Nat, d = .tup [.lit (.int .i64 i), .bool (decide (n ∈ l))] ∧ LowAt l n i) := by
  refine PSpec.of hT Tryz.func111 rfl (by kernel_rfl) rfl rfl ?_
  simp only [Tryz.f111, go_sem, reduceAdd, reduceSub, reduceMul, reduceLT, reduceLeDiff, ↓reduceIte, reduceCtorEq, reduceEqDiff, reduceToNat, Int.reduceLT, reduceLE, reduceEq]
  refine awp_loop (fun m s => ∃ (i : Nat) (j : Nat) (g : Nat → D), s = ⟨[intsL l .no, .lit (.int .i64 n), g 2, g 3, g 4, g 5, .lit (.int .i64 l.length), .lit (.int .i64 i), .lit (.int .i64 j), g 9, g 10, g 11, g 12, g 13, g 14, g 15, g 16, g 17, g 18, g 19, g 20, g 21, g 22, g 23, g 24, g 25, g 26, g 27, g 28, g 29, g 30, g 31, g 32, g 33, g 34, g 35, g 36, g 37, g 38, g 39, g 40, g 41, g 42, g 43, g 44, g 45, g 46, g 47, g 48, g 49, g 50, g 51, g 52, g 53], ⟨[], []⟩⟩ ∧ m = j - i ∧ i ≤ j ∧ j ≤ l.length ∧ (∀ p, p < i → l.getD p 0 < n) ∧ ∀ p, j ≤ p → p < l.length → n ≤ l.getD p 0) l.length ⟨0, l.length, reg_intro rfl rfl ⟨by simp, by omega, by omega, by simp, fun p h1 h2 => by omega⟩⟩ ?_
  rintro m s ⟨i, j, g, rfl, hm, hij, hj, hlo, hhi⟩
  simp only [go_sem, reduceAdd, reduceSub, reduceMul, reduceLT, reduceLeDiff, ↓reduceIte, reduceCtorEq, reduceEqDiff, reduceToNat, Int.reduceLT, reduceLE, reduceEq]
  refine condK_split (fun hc => ?_) (fun hc => ?_)
  · have hij' : i < j := by have := of_decide_eq_true hc; omega
    have hh : (i + j) / 2 < l.length := by omega
    have hw : IntKind.i64.wrap ((i : Int) + (j : Int)) = ((i + j : Nat) : Int) := by rw [wrap64] <;> omega
    have hu : IntKind.u64.wrap ((i + j : Nat) : Int) = ((i + j : Nat) : Int) := wrapU64 _ (by omega) (by omega)
    have hu2 : IntKind.i64.wrap (((i + j) / 2 : Nat) : Int) = (((i + j) / 2 : Nat) : Int) := by rw [wrap64] <;> omega
    simp only [go_sem, reduceAdd, reduceSub, reduceMul, reduceLT, reduceLeDiff, ↓reduceIte, reduceCtorEq, reduceEqDiff, reduceToNat, Int.reduceLT, reduceLE, reduceEq, hw, hu, fdiv2, hu2, hh]
    refine callK_pure (cmp_less (l.getD ((i + j) / 2) 0) n) (by simp only [go_sem, hh]) (by simp only [go_sem, hh]) ?_; simp only [go_sem, reduceAdd, reduceSub, reduceMul, reduceLT, reduceLeDiff, ↓reduceIte, reduceCtorEq, reduceEqDiff, reduceToNat, Int.reduceLT, reduceLE, reduceEq, hh]
    refine condK_split (fun h1 => ?_) (fun h1 => ?_)
    · have h1 := of_decide_eq_true h1
      have hx : IntKind.i64.wrap ((((i + j) / 2 : Nat) : Int) + 1) = (((i + j) / 2 + 1 : Nat) : Int) := by rw [wrap64] <;> omega
      simp only [go_sem, reduceAdd, reduceSub, reduceMul, reduceLT, reduceLeDiff, ↓reduceIte, reduceCtorEq, reduceEqDiff, reduceToNat, Int.reduceLT, reduceLE, reduceEq, hx]
      refine ⟨j - ((i + j) / 2 + 1), by omega, (i + j) / 2 + 1, j, reg_intro rfl rfl ⟨rfl, by omega, hj, fun p hp => ?_, hhi⟩⟩
      by_cases e : p = (i + j) / 2
      · rw [e]; exact h1
      · have := strict_at hs (show p < (i + j) / 2 by omega) hh; omega
    · have h1 := of_decide_eq_false h1
      simp only [go_sem, reduceAdd, reduceSub, reduceMul, reduceLT, reduceLeDiff, ↓reduceIte, reduceCtorEq, reduceEqDiff, reduceToNat, Int.reduceLT, reduceLE, reduceEq]
      refine ⟨(i + j) / 2 - i, by omega, i, (i + j) / 2, reg_intro rfl rfl ⟨rfl, by omega, by omega, hlo, fun p h2 h3 => ?_⟩⟩
      by_cases e : p = (i + j) / 2
      · rw [e]; omega
      · have := strict_at hs (show (i + j) / 2 < p by omega) h3; omega
  · have hi := of_decide_eq_false hc
    obtain rfl : i = j := by omega
    simp only [go_sem, reduceAdd, reduceSub, reduceMul, reduceLT, reduceLeDiff, ↓reduceIte, reduceCtorEq, reduceEqDiff, reduceToNat, Int.reduceLT, reduceLE, reduceEq]
    have hmem : n ∈ l → i < l.length ∧ l.getD i 0 = n := fun h => by
      obtain ⟨q, hq, rfl⟩ := List.mem_iff_getElem.1 h
      have e : l.getD q 0 = l[q] := by simp [List.getD_eq_getElem?_getD, hq]
      have h1 : i ≤ q := by
        rcases Nat.lt_or_ge q i with h | h
        · have := hlo q h; omega
        · exact h
      refine ⟨by omega, ?_⟩
      rcases Nat.lt_or_ge i q with h2 | h2
      · have := strict_at hs h2 hq
        have := hhi i (Nat.le_refl _) (by omega)
        omega
      · obtain rfl : q = i := by omega
        exact e
    have low : LowAt l n i := ⟨hj, hlo, hhi⟩
    refine guardK_split (fun h1 => ?_) (fun h1 => ?_)
    · have hil : i < l.length := by have := of_decide_eq_true h1; omega
      simp only [go_sem, reduceAdd, reduceSub, reduceMul, reduceLT, reduceLeDiff, ↓reduceIte, reduceCtorEq, reduceEqDiff, reduceToNat, Int.reduceLT, reduceLE, reduceEq, h1, hil]
      refine guardK_split (fun h2 => ?_) (fun h2 => ?_)
      · have h2' := of_decide_eq_true h2
        have : n ∈ l := h2' ▸ mem_getD hil
        simp only [go_sem, reduceAdd, reduceSub, reduceMul, reduceLT, reduceLeDiff, ↓reduceIte, reduceCtorEq, reduceEqDiff, reduceToNat, Int.reduceLT, reduceLE, reduceEq, h1, h2, hil]
        exact ⟨i, by rw [decide_eq_true this], low⟩
      · have h2' := of_decide_eq_false h2
        have : n ∉ l := fun h => h2' (hmem h).2
        simp only [go_sem, reduceAdd, reduceSub, reduceMul, reduceLT, reduceLeDiff, ↓reduceIte, reduceCtorEq, reduceEqDiff, reduceToNat, Int.reduceLT, reduceLE, reduceEq, h1, h2, hil]
        refine callK_pure (slices_isNaN (l.getD i 0)) (by simp only [go_sem, h1, h2, hil]) (by simp only [go_sem, h1, h2, hil]) ?_; simp only [go_sem, reduceAdd, reduceSub, reduceMul, reduceLT, reduceLeDiff, ↓reduceIte, reduceCtorEq, reduceEqDiff, reduceToNat, Int.reduceLT, reduceLE, reduceEq, h1, h2, hil]
        exact ⟨i, by rw [decide_eq_false this], low⟩
    · have h1' := of_decide_eq_false h1
      have : n ∉ l := fun h => h1' (by have := (hmem h).1; omega)
      simp only [go_sem, reduceAdd, reduceSub, reduceMul, reduceLT, reduceLeDiff, ↓reduceIte, reduceCtorEq, reduceEqDiff, reduceToNat, Int.reduceLT, reduceLE, reduceEq, h1]
      exact ⟨i, by rw [decide_eq_false this], low⟩

theorem insL_low {n : Int} : ∀ {l : List Int} {i : Nat}, (∀ p, p < i → l.getD p 0 < n) → i ≤ l.length → (∀ p, i ≤ p → p < l.length → n ≤ l.getD p 0) → n ∉ l → insL n l = l.take i ++ n :: l.drop i
  | [], i, _, h, _, _ => by
    have : i = 0 := by simpa using h
    subst this; rfl
  | x :: r, 0, _, _, h, hn => by
    have h0 := h 0 (Nat.le_refl _) (by simp)
    simp only [List.getD_cons_zero] at h0
    have : n ≠ x := fun e => hn (by simp [e])
    simp only [insL, if_pos (show n < x by omega), List.take_zero, List.drop_zero, List.nil_append]
  | x :: r, i + 1, h1, h2, h3, hn => by
    have h0 := h1 0 (by omega)
    simp only [List.getD_cons_zero] at h0
    simp only [insL, if_neg (show ¬ n < x by omega), List.take_succ_cons, List.drop_succ_cons, List.cons_append]
    rw [insL_low (i := i) (fun p hp => by have := h1 (p + 1) (by omega); simpa using this) (by simpa using h2) (fun p hp hpl => by have := h3 (p + 1) (by omega) (by simpa using hpl); simpa using this) (fun h => hn (List.mem_cons_of_mem _ h))]

theorem dropL_at {l : List Int} (h : l.Pairwise (· < ·)) {k : Nat} (hk : k < l.length) : dropL l (l.getD k 0) = l.take k ++ l.drop (k + 1) := by
  have e : l = l.take k ++ l.getD k 0 :: l.drop (k + 1) := by
    have : l.getD k 0 = l[k] := by simp [List.getD_eq_getElem?_getD, hk]
    rw [this, ← List.drop_eq_getElem_cons hk, List.take_append_drop]
  generalize l.getD k 0 = x at e
  generalize l.take k = a at e ⊢
  generalize l.drop (k + 1) = b at e ⊢
  subst e
  rw [List.pairwise_append] at h
  obtain ⟨_, h2, h3⟩ := h
  rw [List.pairwise_cons] at h2
  unfold dropL
  rw [List.filter_append, List.filter_cons_of_neg (by simp)]
  congr 1
  · exact List.filter_eq_self.2 fun y hy => by have := h3 y hy x (by simp); simp; omega
  · exact List.filter_eq_self.2 fun y hy => by have := h2.1 y hy; simp; omega
theorem dropL_no {l : List Int} {n : Int} (h : n ∉ l) : dropL l n = l := List.filter_eq_self.2 fun y hy => by simp; rintro rfl; exact h hy
theorem map_take_drop {l : List Int} {f : Int → D} (k : Nat) : (l.map f).take k ++ (l.map f).drop (k + 1) = (l.take k ++ l.drop (k + 1)).map f := by simp

theorem view_without (l : List Int) (n : Int) (hl : l.length < 1000000000) (hs : l.Pairwise (· < ·)) : PSpec Tryz.prog CT 80 [intsL l .no, .lit (.int .i64 n)] (· = intsL (dropL l n) .no) := by
  refine PSpec.of hT Tryz.func80 rfl (by kernel_rfl) rfl rfl ?_
  simp only [Tryz.f80, go_sem, reduceAdd, reduceSub, reduceMul, reduceLT, reduceLeDiff, ↓reduceIte, reduceCtorEq, reduceEqDiff, reduceToNat, Int.reduceLT, reduceLE, reduceEq]
  refine callK_rel (slices_index l n (by omega)) (by simp only [go_sem, reduceAdd, reduceSub, reduceMul, reduceLT, reduceLeDiff, ↓reduceIte, reduceCtorEq, reduceEqDiff, reduceToNat, Int.reduceLT, reduceLE, reduceEq]) (by simp only [go_sem, reduceAdd, reduceSub, reduceMul, reduceLT, reduceLeDiff, ↓reduceIte, reduceCtorEq, reduceEqDiff, reduceToNat, Int.reduceLT, reduceLE, reduceEq]) ?_
  rintro c (⟨rfl, hi⟩ | ⟨k, rfl, hk, he, _⟩)
  · simp only [go_sem, reduceAdd, reduceSub, reduceMul, reduceLT, reduceLeDiff, ↓reduceIte, reduceCtorEq, reduceEqDiff, reduceToNat, Int.reduceLT, reduceLE, reduceEq, dropL_no hi]
  · have h0 : ¬ (k : Int) < 0 := by omega
    have hk2 : k ≤ l.length := by omega
    have hk3 : k + 1 ≤ l.length := by omega
    simp only [go_sem, reduceAdd, reduceSub, reduceMul, reduceLT, reduceLeDiff, ↓reduceIte, reduceCtorEq, reduceEqDiff, reduceToNat, Int.reduceLT, reduceLE, reduceEq, decide_eq_false h0, hk, hk2, hk3, wrapNat k (by omega)]
    refine .inl ⟨by kernel_rfl, ?_⟩
    refine appK_cat _ _ _ _ _ _ _ _ _ (by simp only [go_sem, reduceAdd, reduceSub, reduceMul, reduceLT, reduceLeDiff, ↓reduceIte, reduceCtorEq, reduceEqDiff, reduceToNat, Int.reduceLT, reduceLE, reduceEq]) (by simp only [go_sem, reduceAdd, reduceSub, reduceMul, reduceLT, reduceLeDiff, ↓reduceIte, reduceCtorEq, reduceEqDiff, reduceToNat, Int.reduceLT, reduceLE, reduceEq, List.length_take, List.length_drop, List.length_map]; omega) (fun u tk' hu => ?_)
    simp only [go_sem, reduceAdd, reduceSub, reduceMul, reduceLT, reduceLeDiff, ↓reduceIte, reduceCtorEq, reduceEqDiff, reduceToNat, Int.reduceLT, reduceLE, reduceEq]
    rw [map_take_drop, ← he, dropL_at hs hk]

theorem view_with (l : List Int) (n : Int) (hl : l.length < 1000000000) (hs : l.Pairwise (· < ·)) : PSpec Tryz.prog CT 77 [intsL l .no, .lit (.int .i64 n)] (· = intsL (withL l n) .no) := by
  refine PSpec.of hT Tryz.func77 rfl (by kernel_rfl) rfl rfl ?_
  simp only [Tryz.f77, go_sem, reduceAdd, reduceSub, reduceMul, reduceLT, reduceLeDiff, ↓reduceIte, reduceCtorEq, reduceEqDiff, reduceToNat, Int.reduceLT, reduceLE, reduceEq]
  refine callK_rel (slices_binary l n hl hs) (by simp only [go_sem, reduceAdd, reduceSub, reduceMul, reduceLT, reduceLeDiff, ↓reduceIte, reduceCtorEq, reduceEqDiff, reduceToNat, Int.reduceLT, reduceLE, reduceEq]) (by simp only [go_sem, reduceAdd, reduceSub, reduceMul, reduceLT, reduceLeDiff, ↓reduceIte, reduceCtorEq, reduceEqDiff, reduceToNat, Int.reduceLT, reduceLE, reduceEq]) ?_
  rintro c ⟨i, rfl, h1, h2, h3⟩
  simp only [go_sem, reduceAdd, reduceSub, reduceMul, reduceLT, reduceLeDiff, ↓reduceIte, reduceCtorEq, reduceEqDiff, reduceToNat, Int.reduceLT, reduceLE, reduceEq]
  refine condK_split (fun hc => ?_) (fun hc => ?_)
  · have hm := of_decide_eq_true hc
    simp only [go_sem, reduceAdd, reduceSub, reduceMul, reduceLT, reduceLeDiff, ↓reduceIte, reduceCtorEq, reduceEqDiff, reduceToNat, Int.reduceLT, reduceLE, reduceEq, withL, if_pos hm]
  · have hm := of_decide_eq_false hc
    have e : withL l n = l.take i ++ n :: l.drop i := by rw [withL, if_neg hm, insL_low h2 h1 h3 hm]
    simp only [go_sem, reduceAdd, reduceSub, reduceMul, reduceLT, reduceLeDiff, ↓reduceIte, reduceCtorEq, reduceEqDiff, reduceToNat, Int.reduceLT, reduceLE, reduceEq, h1]
    refine .inl ⟨by kernel_rfl, ?_⟩
    refine appK_cat _ _ _ _ _ _ _ _ _ (by simp only [go_sem, reduceAdd, reduceSub, reduceMul, reduceLT, reduceLeDiff, ↓reduceIte, reduceCtorEq, reduceEqDiff, reduceToNat, Int.reduceLT, reduceLE, reduceEq]) (by simp only [go_sem, reduceAdd, reduceSub, reduceMul, reduceLT, reduceLeDiff, ↓reduceIte, reduceCtorEq, reduceEqDiff, reduceToNat, Int.reduceLT, reduceLE, reduceEq, List.length_take, List.length_drop, List.length_map]; omega) (fun u tk' hu => ?_)
    simp only [go_sem, reduceAdd, reduceSub, reduceMul, reduceLT, reduceLeDiff, ↓reduceIte, reduceCtorEq, reduceEqDiff, reduceToNat, Int.reduceLT, reduceLE, reduceEq, h1]
    refine appK_cat _ _ _ _ _ _ _ _ _ (by simp only [go_sem, reduceAdd, reduceSub, reduceMul, reduceLT, reduceLeDiff, ↓reduceIte, reduceCtorEq, reduceEqDiff, reduceToNat, Int.reduceLT, reduceLE, reduceEq]) (by simp only [go_sem, reduceAdd, reduceSub, reduceMul, reduceLT, reduceLeDiff, ↓reduceIte, reduceCtorEq, reduceEqDiff, reduceToNat, Int.reduceLT, reduceLE, reduceEq, List.length_take, List.length_drop, List.length_map]; omega) (fun u tk' hu => ?_)
    simp only [go_sem, reduceAdd, reduceSub, reduceMul, reduceLT, reduceLeDiff, ↓reduceIte, reduceCtorEq, reduceEqDiff, reduceToNat, Int.reduceLT, reduceLE, reduceEq]
    rw [e]
    simp
end Go.Ab
