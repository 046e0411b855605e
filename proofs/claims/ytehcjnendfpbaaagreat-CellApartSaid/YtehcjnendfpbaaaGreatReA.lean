/- Calls: functions named where they are handed over, calls of a slot's value in a drawn region, a slice that is written no more. Conditions: none. -/
import Derived.Test.YtehcjnendfpbaaaGreatOpC
import Derived.Test.YtehcjnendfpbaaaGreatSoA
import Derived.Test.YtehcjnendfpbaaaGreatAbFr
import Derived.Test.YtehcjnendfpbaaaGreatPlA
set_option linter.unusedSimpArgs false
namespace Go.Ab
open Go.Proofs

/-- A function's name, as a closure that holds nothing. -/
def fnD : D → D
  | .lit (.func (.func f) ⟨[]⟩ ⟨[]⟩) => .fn (.func f) []
  | d => d
theorem vv_fnD {T : TypeId → Sh} {ρ : Env} {v : Value} {d : D} (h : VV T ρ v d) : VV T ρ v (fnD d) := by
  unfold fnD
  split
  · cases h with
    | pure h =>
      cases h with
      | lit => exact .fn (caps := []) rfl (by simp)
  · exact h
section
variable {P : Program} {C : Tab}
theorem ASpec.fnA {f : FuncId} {args : List D} {h : Heap} {R : D → Heap → Prop} (hs : ASpec P C f (args.map fnD) h R) : ASpec P C f args h R :=
  ⟨hs.1, fun ρ w vs hr hv => hs.2 ρ w vs hr ⟨by rw [hv.1, List.length_map], fun i c d hc hd => by
    rw [List.getElem?_map, Option.map_eq_some_iff] at hd
    obtain ⟨x, hx, rfl⟩ := hd
    exact vv_fnD (hv.2 i c x hc hx)⟩⟩
theorem HSpec.fnA {f : FuncId} {args args' : List D} {bs : List (Sh × D)} {R : D → List (Sh × D) → Prop} (ha : args.map fnD = args') (hs : HSpec P C f args' bs R) : HSpec P C f args bs R :=
  fun tk => ASpec.fnA (by rw [ha]; exact hs tk)

theorem ASpec.weak {f : FuncId} {args args' : List D} {h : Heap} {R : D → Heap → Prop} (hs : ASpec P C f args' h R) (hw : All2 (fun d d' => ∀ (ρ : Env) (v : Value), VV C.sh ρ v d → VV C.sh ρ v d') args args') : ASpec P C f args h R :=
  ⟨hs.1, fun ρ w vs hr hv => hs.2 ρ w vs hr ⟨by rw [hv.1, hw.1], fun i c d hc hd => by
    obtain ⟨d0, h1, h2⟩ := hw.get hd
    exact h2 ρ c (hv.2 i c d0 hc h1)⟩⟩
/-- A call of what a slot holds, in a drawn region. -/
def callTD (P : Program) (C : Tab) (d : D) (args : List D) (o : Oper) (K : St → Prop) (dst : Option Tmp) (ts : List D) (h : Heap) : Prop :=
  match d with
  | .fn (.func f) caps => callD P C f (args ++ caps) K dst ts h
  | _ => aopD P C o K ⟨ts, h⟩
theorem aopD_callt (K : St → Prop) (dst : Option Tmp) (ty : TypeId) (pos : String) (after : Array Edge) (g : Option (Nat × Bool)) (ts : List D) (h : Heap) (t : Tmp) (args : Array Operand) (at_ : Array TypeId) :
    aopD P C ⟨dst, .call { callee := .value (.tmp t), args := args, argTypes := at_ }, ty, pos, after, g⟩ K ⟨ts, h⟩ =
    callTD P C (ts.getD t (.lit undef)) (argsD C (St.ev ⟨ts, h⟩) args.toList at_.toList) ⟨dst, .call { callee := .value (.tmp t), args := args, argTypes := at_ }, ty, pos, after, g⟩ K dst ts h := by
  unfold callTD
  split
  · rename_i f caps hd
    have hc : calleeOf P C ⟨dst, .call { callee := .value (.tmp t), args := args, argTypes := at_ }, ty, pos, after, g⟩ ⟨ts, h⟩ = some (f, argsD C (St.ev ⟨ts, h⟩) args.toList at_.toList ++ caps) := by
      have he : St.ev ⟨ts, h⟩ (.tmp t) = .fn (.func f) caps := hd
      simp only [calleeOf, he]
    simp only [aopD, hc, callD]
  · rfl
theorem callTD_fn (f : FuncId) (caps : List D) (args : List D) (o : Oper) (K : St → Prop) (dst : Option Tmp) (ts : List D) (h : Heap) : callTD P C (.fn (.func f) caps) args o K dst ts h = callD P C f (args ++ caps) K dst ts h := Eq.trans rfl rfl
attribute [go_sem] aopD_callt callTD_fn

/-- A call whose result is a slice that is written no more. -/
theorem ASpec.freezeSl {f : FuncId} {args : List D} {h : Heap} {R Q : D → Heap → Prop} (hs : ASpec P C f args h R)
    (hr : ∀ r h', R r h' → Q r h' ∨ ∃ u b lo n c N s L, r = .sl u b lo n c ∧ h'.boxes[b]? = some (.arr N s, .agg L) ∧ (∀ d ∈ (L.drop lo).take n, pureD d) ∧ Q (.lst u ((L.drop lo).take n) .no) { h' with boxes := h'.boxes.set b (.obj 0, .tup []) }) : ASpec P C f args h Q := by
  refine ⟨hs.1, fun ρ w vs hreal ha => (hs.2 ρ w vs hreal ha).mono fun e w' ⟨v, r, h', ρ', h1, h2, h3, h4, h5⟩ => ?_⟩
  rcases hr r h' h5 with h6 | ⟨u, b, lo, n, c, N, s, L, rfl, h6, h7, h8⟩
  · exact ⟨v, r, h', ρ', h1, h2, h3, h4, h6⟩
  · obtain ⟨ρ2, k1, k2, k3⟩ := freeze_real h3 h4 h6 h7
    exact ⟨v, _, _, ρ2, h1, h2.trans k1, k2, k3, h8⟩
/-- A slice of the call's own that is frozen. -/
theorem ASpec.freezeM {f : FuncId} {args : List D} {base : List (Sh × D)} {tk : List Bool} {h : Heap} {e : TypeId} {l : List D} (hs : ASpec P C f args h fun r h' => ∃ ex', h' = ⟨base ++ ex', tk⟩ ∧ OutM e base.length r ex' l) (hp : pureL l) :
    ASpec P C f args h fun r h' => r = .lst e l .no ∧ ∃ ex', h' = ⟨base ++ ex', tk⟩ ∧ ∀ N s L, (Sh.arr N s, D.agg L) ∈ ex' → pureL L := by
  refine hs.freezeSl ?_
  rintro r h' ⟨ex', rfl, ho⟩
  rcases ho with ⟨rfl, rfl, rfl⟩ | ⟨j, N, L, rfl, hj, hL, hlN, hN, hlL, hpu⟩
  · exact .inl ⟨rfl, [], by simp, by simp⟩
  · refine .inr ⟨e, base.length + j, 0, l.length, N, N, _, L, rfl, by simp only [List.getElem?_append_right (Nat.le_add_right _ _), Nat.add_sub_cancel_left]; exact hj, ?_, ?_⟩
    · intro d hd
      rw [List.drop_zero, hlL] at hd
      have : ∀ {l : List D}, pureL l → d ∈ l → pureD d := by
        intro l h hd
        induction l with
        | nil => cases hd
        | cons x r ih =>
          rcases List.mem_cons.1 hd with rfl | hd
          · exact h.1
          · exact ih h.2 hd
      exact this hp hd
    · rw [List.drop_zero, hlL]
      refine ⟨rfl, ex'.set j (.obj 0, .tup []), ?_, ?_⟩
      · simp only
        rw [List.set_append_right _ _ (by omega), Nat.add_sub_cancel_left]
      · intro N s L hm
        rcases List.mem_or_eq_of_mem_set hm with h' | h'
        · exact hpu N s L h'
        · cases h'

theorem aopsN_append {ops : Array Oper} {Q : St → Prop} : ∀ (a b : List Nat) (s : St), aopsN P C ops Q (a ++ b) s = aopsN P C ops (aopsN P C ops Q b) a s
  | [], _, _ => rfl
  | i :: a, b, s => by
    have ih : aopsN P C ops Q (a ++ b) = aopsN P C ops (aopsN P C ops Q b) a := funext fun s => aopsN_append a b s
    simp only [List.cons_append, aopsN, ih]
def okLast (ops : Array Oper) (pre : List Nat) (c : Nat) : Bool :=
  downTo .any ops (fun j => j) &&
  (!Region.departs ops || (downTo .text ops (fun j => j) && (let g := Region.linearise .gc ops 0; downTo .gc ops fun j => g.idxOf j))) &&
  (pre ++ [c]).isPerm (List.range ops.size) &&
  pre.all (preOk ops) &&
  decide (pre.Pairwise fun k j => (((Region.before ops).getD j 0).testBit k || indep ops k j) = true) &&
  decide (pre.Pairwise fun k j => dstOf ops k ≠ dstOf ops j) &&
  pre.all (fun p => ((Region.before ops).getD c 0).testBit p)
/-- A region whose order is open, but that one operation comes behind all others. -/
theorem drawN_last {l : List Oper} {Q : St → Prop} {ts : List D} {h : Heap} (pre : List Nat) (c : Nat) (hok : okLast l.toArray pre c = true)
    (h1 : aopsD P C l.toArray (fun s1 => aopsN P C l.toArray Q [c] s1) (pickL l pre) ⟨ts, h⟩) : drawN P C l.toArray Q ⟨ts, h⟩ := by
  refine .inr (.inr (.inr (.inr fun mixed t => ?_)))
  simp only [okLast, Bool.and_eq_true, Bool.or_eq_true, Bool.not_eq_true', decide_eq_true_eq] at hok
  obtain ⟨⟨⟨⟨⟨⟨hany, hmodes⟩, hperm⟩, hpre⟩, hpp⟩, hdd⟩, hpc⟩ := hok
  obtain ⟨y, hy, g2, hnd, hbef⟩ := sched_facts hany hmodes mixed t
  have hperm := List.isPerm_iff.1 hperm
  have hprel : ∀ p ∈ pre, p < l.toArray.size := fun p hp => List.mem_range.1 (hperm.subset (by simp [hp]))
  have hcl : c < l.toArray.size := List.mem_range.1 (hperm.subset (by simp))
  have hyp : y.Perm (pre ++ [c]) := g2.trans hperm.symm
  have hndp : (pre ++ [c]).Nodup := hyp.nodup_iff.1 hnd
  obtain ⟨u, v, rfl⟩ := List.append_of_mem (hyp.symm.subset (show c ∈ pre ++ [c] by simp))
  have hvn : v = [] := by
    cases v with
    | nil => rfl
    | cons w v =>
      exfalso
      have hw : w ∈ pre := by
        have := hyp.subset (show w ∈ u ++ c :: w :: v by simp)
        rcases List.mem_append.1 this with h | h
        · exact h
        · rw [List.mem_singleton] at h; subst h
          have := (List.nodup_append.1 hnd).2.1
          simp at this
      have hwu := hbef w c (List.all_eq_true.1 hpc w hw) hcl u (w :: v) rfl
      exact (List.nodup_append.1 hnd).2.2 w hwu w (by simp) rfl
  subst hvn
  have hup : u.Perm (pre ++ []) := by
    rw [List.append_nil]
    exact (List.perm_append_right_iff [c]).1 hyp
  rw [hy, aopsN_append]
  rw [← pickL_eq] at h1
  obtain ⟨⟨ts1, h1h⟩, hr, hk⟩ := aopsD_run _ pre rfl hprel h1
  have hh : h1h = h := (runD_tmps pre (fun p hp => List.all_eq_true.1 hpre p hp) hr).1
  subst hh
  refine stores_sound (Good := fun g => g = h1h) (ts1 := ts1) (fun k j => ((Region.before l.toArray).getD j 0).testBit k = true) u pre [] ts h1h hup (List.nodup_append.1 hnd).1 ?_ (fun p hp => ⟨hprel p hp, List.all_eq_true.1 hpre p hp⟩) hpp hdd (by simp) (by simp) (by simp) ?_ ⟨rfl, hk⟩
  · intro k j hb x z e hkz
    have hjl : j < l.toArray.size := List.mem_range.1 (g2.subset (by rw [e]; simp))
    have hkx := hbef k j hb hjl x (z ++ [c]) (by rw [e]; simp)
    have := (List.nodup_append.1 hnd).1
    rw [e] at this
    exact (List.nodup_append.1 this).2.2 k hkx k (by simp [hkz]) rfl
  · rintro g rfl
    exact hr
end
end Go.Ab
set_option linter.unusedSimpArgs false
namespace Go.Ab
open Go.Proofs

abbrev intsL (l : List Int) (t : Tok) : D := .lst 3 (l.map fun n => .lit (.int .i64 n)) t

def rosterAt (l : List Int) (i : Nat) : Bool := vpeer (l.getD i 0) && (decide (i = 0) || decide (l.getD (i - 1) 0 < l.getD i 0))
def rosterOk (l : List Int) : Bool := (List.range l.length).all fun i => rosterAt l i

end Go.Ab
set_option linter.unusedSimpArgs false
namespace Go.Ab
open Go.Proofs

/-- Put ahead of the first that is greater. -/
def insL (n : Int) : List Int → List Int
  | [] => [n]
  | x :: r => if n < x then n :: x :: r else x :: insL n r
def withL (l : List Int) (n : Int) : List Int := if n ∈ l then l else insL n l


/-- Those that are not among others. -/
def liveL (j l : List Int) : List Int := if rosterOk j && rosterOk l then j.filter fun n => !decide (n ∈ l) else []
end Go.Ab
open Nat (reduceAdd reduceSub reduceMul reduceLT reduceLeDiff reduceEqDiff)
open Int (reduceToNat reduceLE reduceEq)
set_option linter.unusedSimpArgs false
namespace Go.Ab
open Go.Proofs

theorem ref_less (a b : MarkR) : PSpec Tryz.prog CT 56 [a.d, b.d] (· = .bool (markLt a b)) := by
  refine PSpec.of hT Tryz.func56 rfl (by kernel_rfl) rfl rfl ?_
  simp only [Tryz.f56, go_sem, reduceAdd, reduceSub, reduceMul, reduceLT, reduceLeDiff, ↓reduceIte, reduceCtorEq, reduceEqDiff, reduceToNat, Int.reduceLT, reduceLE, reduceEq]
  (repeat' (first | ((refine guardK_split (fun hg => ?_) (fun hg => ?_)) <;> (try simp only [go_sem, reduceAdd, reduceSub, reduceMul, reduceLT, reduceLeDiff, ↓reduceIte, reduceCtorEq, reduceEqDiff, reduceToNat, Int.reduceLT, reduceLE, reduceEq, hg])) | ((refine condK_split (fun hg => ?_) (fun hg => ?_)) <;> (try simp only [go_sem, reduceAdd, reduceSub, reduceMul, reduceLT, reduceLeDiff, ↓reduceIte, reduceCtorEq, reduceEqDiff, reduceToNat, Int.reduceLT, reduceLE, reduceEq, hg])) | ((refine Or.inl ⟨by kernel_rfl, ?_⟩) <;> (try simp only [go_sem, reduceAdd, reduceSub, reduceMul, reduceLT, reduceLeDiff, ↓reduceIte, reduceCtorEq, reduceEqDiff, reduceToNat, Int.reduceLT, reduceLE, reduceEq])))) <;> (first | done | (simp_all [markLt]; done) | (simp_all [markLt]; omega) | (simp_all [markLt]; intros; omega) | (simp_all [markLt]; grind))

def cmpI (a b : Int) : Int := if a < b then -1 else if b < a then 1 else 0
theorem cmp_isNaN (x : Int) : PSpec Tryz.prog CT 122 [.lit (.int .i64 x)] (· = .bool false) := by
  refine PSpec.of hT Tryz.func122 rfl (by kernel_rfl) rfl rfl ?_
  simp only [Tryz.f122, go_sem, reduceAdd, reduceSub, reduceMul, reduceLT, reduceLeDiff, ↓reduceIte, reduceCtorEq, reduceEqDiff, reduceToNat, Int.reduceLT, reduceLE, reduceEq, decide_true, Bool.not_true]
theorem cmp_compare (a b : Int) : PSpec Tryz.prog CT 120 [.lit (.int .i64 a), .lit (.int .i64 b)] (· = .lit (.int .i64 (cmpI a b))) := by
  refine PSpec.of hT Tryz.func120 rfl (by kernel_rfl) rfl rfl ?_
  simp only [Tryz.f120, go_sem, reduceAdd, reduceSub, reduceMul, reduceLT, reduceLeDiff, ↓reduceIte, reduceCtorEq, reduceEqDiff, reduceToNat, Int.reduceLT, reduceLE, reduceEq]
  (repeat' (first | ((refine guardK_split (fun hg => ?_) (fun hg => ?_)) <;> (try simp only [go_sem, reduceAdd, reduceSub, reduceMul, reduceLT, reduceLeDiff, ↓reduceIte, reduceCtorEq, reduceEqDiff, reduceToNat, Int.reduceLT, reduceLE, reduceEq, hg])) | ((refine condK_split (fun hg => ?_) (fun hg => ?_)) <;> (try simp only [go_sem, reduceAdd, reduceSub, reduceMul, reduceLT, reduceLeDiff, ↓reduceIte, reduceCtorEq, reduceEqDiff, reduceToNat, Int.reduceLT, reduceLE, reduceEq, hg])) | ((first | apply callK_pure (cmp_isNaN _) | apply callD_pure (cmp_isNaN _)); (iterate 2 (focus (first | rfl | (simp only [go_sem]; done)))); try simp only [go_sem, reduceAdd, reduceSub, reduceMul, reduceLT, reduceLeDiff, ↓reduceIte, reduceCtorEq, reduceEqDiff, reduceToNat, Int.reduceLT, reduceLE, reduceEq]) | ((refine Or.inl ⟨by kernel_rfl, ?_⟩) <;> (try simp only [go_sem, reduceAdd, reduceSub, reduceMul, reduceLT, reduceLeDiff, ↓reduceIte, reduceCtorEq, reduceEqDiff, reduceToNat, Int.reduceLT, reduceLE, reduceEq])))) <;> (first | done | (simp_all [cmpI]; done) | (simp_all [cmpI]; omega) | (simp_all [cmpI]; intros; omega) | (simp_all [cmpI]; grind))

def orI (l : List Int) : Int := (l.find? fun x => !decide (x = 0)).getD 0
theorem orI_at {l : List Int} {k : Nat} (hk : k < l.length) (h0 : ∀ p, p < k → l.getD p 0 = 0) (h : l.getD k 0 ≠ 0) : orI l = l.getD k 0 := by
  induction l generalizing k with
  | nil => simp at hk
  | cons x r ih =>
    cases k with
    | zero =>
      have hx : x ≠ 0 := by simpa using h
      simp [orI, hx]
    | succ k =>
      have hx : x = 0 := by simpa using h0 0 (by omega)
      have := ih (k := k) (by simpa using hk) (fun p hp => by simpa using h0 (p + 1) (by omega)) (by simpa using h)
      simp only [orI] at this ⊢
      simp [hx, this]
theorem orI_none {l : List Int} (h0 : ∀ p, p < l.length → l.getD p 0 = 0) : orI l = 0 := by
  have : (l.find? fun x => !decide (x = 0)) = none := by
    rw [List.find?_eq_none]
    intro x hx
    obtain ⟨i, hi, rfl⟩ := List.getElem_of_mem hx
    have := h0 i hi
    simp only [List.getD_eq_getElem?_getD, List.getElem?_eq_getElem hi, Option.getD_some] at this
    simp [this]
  simp [orI, this]
theorem cmp_or (l : List Int) (hl : l.length < 4000000000) : PSpec Tryz.prog CT 119 [intsL l .no] (· = .lit (.int .i64 (orI l))) := by
  refine PSpec.of hT Tryz.func119 rfl (by kernel_rfl) rfl rfl ?_
  simp only [Tryz.f119, go_sem, reduceAdd, reduceSub, reduceMul, reduceLT, reduceLeDiff, ↓reduceIte, reduceCtorEq, reduceEqDiff, reduceToNat, Int.reduceLT, reduceLE, reduceEq, intsL]
  refine awp_loop (fun n s => ∃ (k : Nat) (g : Nat → D), s = ⟨[g 0, g 1, g 2, .lit (.int .i64 0), g 4, g 5, intsL l .no, .lit (.int .i64 l.length), .lit (.int .i64 k), g 9, g 10, g 11, g 12, g 13, g 14, g 15, g 16, g 17], ⟨[], []⟩⟩ ∧ n = l.length - k ∧ k ≤ l.length ∧ ∀ p, p < k → l.getD p 0 = 0) l.length ⟨0, reg_intro rfl rfl ⟨by simp, by omega, by simp⟩⟩ ?_
  rintro n s ⟨k, g, rfl, hn, hk, hp⟩
  simp only [go_sem, reduceAdd, reduceSub, reduceMul, reduceLT, reduceLeDiff, ↓reduceIte, reduceCtorEq, reduceEqDiff, reduceToNat, Int.reduceLT, reduceLE, reduceEq, intsL]
  refine condK_split (fun hc => ?_) (fun hc => ?_)
  · have hk' : k < l.length := by have := of_decide_eq_true hc; omega
    simp only [go_sem, reduceAdd, reduceSub, reduceMul, reduceLT, reduceLeDiff, ↓reduceIte, reduceCtorEq, reduceEqDiff, reduceToNat, Int.reduceLT, reduceLE, reduceEq, hk', get_ints]
    refine condK_split (fun h1 => ?_) (fun h1 => ?_)
    · simp only [go_sem, reduceAdd, reduceSub, reduceMul, reduceLT, reduceLeDiff, ↓reduceIte, reduceCtorEq, reduceEqDiff, reduceToNat, Int.reduceLT, reduceLE, reduceEq]
      rw [orI_at hk' hp (by simpa using h1)]
    · simp only [go_sem, reduceAdd, reduceSub, reduceMul, reduceLT, reduceLeDiff, ↓reduceIte, reduceCtorEq, reduceEqDiff, reduceToNat, Int.reduceLT, reduceLE, reduceEq, wrapNat k (by omega)]
      refine ⟨l.length - (k + 1), by omega, k + 1, reg_intro rfl rfl ⟨rfl, by omega, fun p hpk => ?_⟩⟩
      by_cases e : p = k
      · subst e; simpa using h1
      · exact hp p (by omega)
  · have hi := of_decide_eq_false hc
    obtain rfl : k = l.length := by omega
    simp only [go_sem, reduceAdd, reduceSub, reduceMul, reduceLT, reduceLeDiff, ↓reduceIte, reduceCtorEq, reduceEqDiff, reduceToNat, Int.reduceLT, reduceLE, reduceEq, orI_none hp]

theorem markLt_cmp (a b : MarkR) : decide (orI [cmpI a.p b.p, cmpI a.s b.s, cmpI a.i b.i] < 0) = markLt a b := by
  have h3 : ∀ x y z : Int, orI [x, y, z] = if x ≠ 0 then x else if y ≠ 0 then y else z := by
    intro x y z
    by_cases hx : x = 0 <;> by_cases hy : y = 0 <;> by_cases hz : z = 0 <;> simp [orI, hx, hy, hz]
  rw [h3, Bool.eq_iff_iff]
  simp only [markLt, cmpI, Bool.or_eq_true, Bool.and_eq_true, decide_eq_true_eq]
  grind
set_option maxRecDepth 8000 in
theorem ops_less (a b : MarkR) : PSpec Tryz.prog CT 115 [a.d, b.d] (· = .bool (markLt a b)) := by
  refine PSpec.of hT Tryz.func115 rfl (by kernel_rfl) rfl rfl ?_
  simp only [Tryz.f115, go_sem, reduceAdd, reduceSub, reduceMul, reduceLT, reduceLeDiff, ↓reduceIte, reduceCtorEq, reduceEqDiff, reduceToNat, Int.reduceLT, reduceLE, reduceEq]
  rw [← markLt_cmp]
  refine .inl ⟨by kernel_rfl, ?_⟩
  refine callD_pure (cmp_compare _ _) rfl (by simp only [go_sem, reduceAdd, reduceSub, reduceMul, reduceLT, reduceLeDiff, ↓reduceIte, reduceCtorEq, reduceEqDiff, reduceToNat, Int.reduceLT, reduceLE, reduceEq]) ?_
  simp only [go_sem, reduceAdd, reduceSub, reduceMul, reduceLT, reduceLeDiff, ↓reduceIte, reduceCtorEq, reduceEqDiff, reduceToNat, Int.reduceLT, reduceLE, reduceEq]
  refine callD_pure (cmp_compare _ _) rfl (by simp only [go_sem, reduceAdd, reduceSub, reduceMul, reduceLT, reduceLeDiff, ↓reduceIte, reduceCtorEq, reduceEqDiff, reduceToNat, Int.reduceLT, reduceLE, reduceEq]) ?_
  simp only [go_sem, reduceAdd, reduceSub, reduceMul, reduceLT, reduceLeDiff, ↓reduceIte, reduceCtorEq, reduceEqDiff, reduceToNat, Int.reduceLT, reduceLE, reduceEq]
  refine callD_pure (cmp_compare _ _) rfl (by simp only [go_sem, reduceAdd, reduceSub, reduceMul, reduceLT, reduceLeDiff, ↓reduceIte, reduceCtorEq, reduceEqDiff, reduceToNat, Int.reduceLT, reduceLE, reduceEq]) ?_
  simp only [go_sem, reduceAdd, reduceSub, reduceMul, reduceLT, reduceLeDiff, ↓reduceIte, reduceCtorEq, reduceEqDiff, reduceToNat, Int.reduceLT, reduceLE, reduceEq]
  refine callD_pure (cmp_or [cmpI a.p b.p, cmpI a.s b.s, cmpI a.i b.i] (by simp)) (by simp only [go_sem, reduceAdd, reduceSub, reduceMul, reduceLT, reduceLeDiff, ↓reduceIte, reduceCtorEq, reduceEqDiff, reduceToNat, Int.reduceLT, reduceLE, reduceEq, intsL, List.map_cons, List.map_nil]) (by simp only [go_sem, reduceAdd, reduceSub, reduceMul, reduceLT, reduceLeDiff, ↓reduceIte, reduceCtorEq, reduceEqDiff, reduceToNat, Int.reduceLT, reduceLE, reduceEq]) ?_
  simp only [go_sem, reduceAdd, reduceSub, reduceMul, reduceLT, reduceLeDiff, ↓reduceIte, reduceCtorEq, reduceEqDiff, reduceToNat, Int.reduceLT, reduceLE, reduceEq]
end Go.Ab
