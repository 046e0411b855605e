/- Views: a few of all. Conditions: none. -/
import Derived.Test.YtjafmlbcjhoflaaGreatViD
open Nat (reduceAdd reduceSub reduceMul reduceLT reduceLeDiff reduceEqDiff)
open Int (reduceToNat reduceLE reduceEq)
set_option linter.unusedSimpArgs false
namespace Go.Ab
open Go.Proofs

def stepS (all : List Int) (e : Nat) (out : List Int) (i : Nat) : List Int := withL out (all.getD ((e % all.length + i) % all.length) 0)
def sampleTo (all : List Int) (e : Nat) (self : Int) (k : Nat) : List Int := (List.range k).foldl (stepS all e) [self]
theorem sampleTo_succ (all : List Int) (e : Nat) (self : Int) (k : Nat) : sampleTo all e self (k + 1) = stepS all e (sampleTo all e self k) k := by
  simp only [sampleTo, List.range_succ, List.foldl_append, List.foldl_cons, List.foldl_nil]
theorem sampleTo_strict (all : List Int) (e : Nat) (self : Int) : ∀ k, (sampleTo all e self k).Pairwise (· < ·)
  | 0 => by simp [sampleTo]
  | k + 1 => by rw [sampleTo_succ]; exact withL_strict (sampleTo_strict all e self k)
theorem sampleTo_len (all : List Int) (e : Nat) (self : Int) : ∀ k, (sampleTo all e self k).length ≤ k + 1
  | 0 => by simp [sampleTo]
  | k + 1 => by
    rw [sampleTo_succ]
    have := withL_len (sampleTo all e self k) (all.getD ((e % all.length + k) % all.length) 0)
    have := sampleTo_len all e self k
    unfold stepS; omega
def sampleV (v : ViewR) (d : Int) : List Int := if checkV v then sampleTo (sortI (v.act ++ v.pas)) (max d 0).toNat v.self (min 3 (v.act ++ v.pas).length) else []

set_option maxRecDepth 8000 in
theorem view_sample (v : ViewR) (d : Int) (ha : v.act.length < 1000000) (hp : v.pas.length < 1000000) : PSpec Tryz.prog CT 48 [viewD v, .lit (.int .i64 d)] (· = intsL (sampleV v d) .no) := by
  refine PSpec.of hT Tryz.func48 rfl (by kernel_rfl) rfl rfl ?_
  simp only [Tryz.f48, go_sem, reduceAdd, reduceSub, reduceMul, reduceLT, reduceLeDiff, ↓reduceIte, reduceCtorEq, reduceEqDiff, reduceToNat, Int.reduceLT, reduceLE, reduceEq]
  refine callK_pure (view_check v (by omega) (by omega)) (by simp only [go_sem, ]) (by simp only [go_sem, ]) ?_; simp only [go_sem, reduceAdd, reduceSub, reduceMul, reduceLT, reduceLeDiff, ↓reduceIte, reduceCtorEq, reduceEqDiff, reduceToNat, Int.reduceLT, reduceLE, reduceEq, ]
  refine condK_split (fun h1 => ?_) (fun h1 => ?_)
  · simp only [Bool.not_eq_true'] at h1
    simp only [go_sem, reduceAdd, reduceSub, reduceMul, reduceLT, reduceLeDiff, ↓reduceIte, reduceCtorEq, reduceEqDiff, reduceToNat, Int.reduceLT, reduceLE, reduceEq, sampleV, h1, Bool.false_eq_true, if_false]; rfl
  simp only [Bool.not_eq_false'] at h1
  have ok := (checkV_iff v).1 h1
  have l1 := ok.la
  have l2 := ok.lp
  simp only [go_sem, reduceAdd, reduceSub, reduceMul, reduceLT, reduceLeDiff, ↓reduceIte, reduceCtorEq, reduceEqDiff, reduceToNat, Int.reduceLT, reduceLE, reduceEq]
  refine callK_a (slices_concat [v.act, v.pas] (by simp) (by simp; omega) _ _) ?_
  rintro r h' ⟨ex, rfl, ho⟩
  have hfl : [v.act, v.pas].flatten = v.act ++ v.pas := by simp
  rw [hfl] at ho
  have hres : sampleV v d = sampleTo (sortI (v.act ++ v.pas)) (max d 0).toNat v.self (min 3 (v.act ++ v.pas).length) := by rw [sampleV, if_pos h1]
  have hsl : (sortI (v.act ++ v.pas)).length = (v.act ++ v.pas).length := List.length_mergeSort _
  have hll : (v.act ++ v.pas).length ≤ 12 := by simp; omega
  rw [hres]
  generalize v.act ++ v.pas = l at ho hsl hll ⊢
  simp only [go_sem, reduceAdd, reduceSub, reduceMul, reduceLT, reduceLeDiff, ↓reduceIte, reduceCtorEq, reduceEqDiff, reduceToNat, Int.reduceLT, reduceLE, reduceEq, out_nrm ho]
  rcases ho with ⟨rfl, rfl, rfl⟩ | ⟨j, N, L, rfl, hj, hL, hlN, hN, htk, hpu⟩
  · refine callK_a (sort_nil .full _ _) ?_
    rintro _ _ ⟨rfl, rfl⟩
    simp only [go_sem, reduceAdd, reduceSub, reduceMul, reduceLT, reduceLeDiff, ↓reduceIte, reduceCtorEq, reduceEqDiff, reduceToNat, Int.reduceLT, reduceLE, reduceEq]
    have hm : min 3 (((0 : Nat) : Int)) = 0 := by decide
    simp only [go_sem, reduceAdd, reduceSub, reduceMul, reduceLT, reduceLeDiff, ↓reduceIte, reduceCtorEq, reduceEqDiff, reduceToNat, Int.reduceLT, reduceLE, reduceEq, hm]
    refine awp_loop (fun n s => ∃ (k : Nat) (g : Nat → D), s = ⟨[g 0, g 1, g 2, g 3, g 4, g 5, .lst 3 [.lit (.int .i64 v.self)] .full, g 7, g 8, g 9, g 10, g 11, g 12, g 13, g 14, g 15, g 16, g 17, g 18, g 19, g 20, g 21, g 22, g 23, .lit (.int .i64 0), .lit (.int .i64 0), g 26, g 27, g 28, g 29, g 30, g 31, g 32, g 33, g 34, g 35, g 36, g 37, g 38, g 39, g 40, g 41, g 42, g 43, g 44], ⟨[(viewSh, viewD v)], []⟩⟩ ∧ n = 0) 0 ⟨0, reg_intro rfl rfl (rfl)⟩ ?_
    rintro n s ⟨k, g, rfl, hn⟩
    simp only [go_sem, reduceAdd, reduceSub, reduceMul, reduceLT, reduceLeDiff, ↓reduceIte, reduceCtorEq, reduceEqDiff, reduceToNat, Int.reduceLT, reduceLE, reduceEq]
    rfl
  · have hjl : j < ex.length := (List.getElem?_eq_some_iff.1 hj).1
    have hbx : ([(viewSh, viewD v)] ++ ex)[1 + j]? = some (.arr N .leaf, .agg L) := by
      rw [Nat.add_comm]; exact hj
    have hol := overL_take (L := L) (m := (sortI l).map fun n => D.lit (.int .i64 n)) (n := 0) (by simp [hsl]; omega)
    simp only [List.length_map, Nat.zero_add, List.take_zero, List.nil_append] at hol
    have hget : ∀ i, i < l.length → (overL L 0 ((sortI l).map fun n => D.lit (.int .i64 n)))[i]? = some (.lit (.int .i64 ((sortI l).getD i 0))) := by
      intro i hi
      have h2 : ((overL L 0 ((sortI l).map fun n => D.lit (.int .i64 n))).take (sortI l).length)[i]? = some (.lit (.int .i64 ((sortI l).getD i 0))) := by
        rw [hol]; simp [hsl, hi]
      rwa [List.getElem?_take_of_lt (by omega)] at h2
    refine callK_a (R := fun r h' => r = .tup [] ∧ ∃ X L', h' = ⟨X, []⟩ ∧ X[0]? = some (viewSh, viewD v) ∧ X[1 + j]? = some (.arr N .leaf, .agg L') ∧ ∀ i, i < l.length → L'[i]? = some (.lit (.int .i64 ((sortI l).getD i 0)))) ((sort_sl l (by omega) _ hbx hlN htk).mono ?_) ?_
    · rintro _ _ ⟨rfl, rfl⟩
      refine ⟨rfl, _, _, rfl, ?_, ?_, hget⟩
      · rw [List.getElem?_set_ne (by omega)]; rfl
      · exact List.getElem?_set_self (by simp; omega)
    clear hol hget
    rintro _ _ ⟨rfl, X, L', rfl, hX0, hXb, hget⟩
    obtain ⟨e, he⟩ : ∃ e : Nat, max d 0 = (e : Int) := ⟨(max d 0).toNat, by omega⟩
    have hmin : min 3 (l.length : Int) = ((min 3 l.length : Nat) : Int) := by omega
    simp only [go_sem, reduceAdd, reduceSub, reduceMul, reduceLT, reduceLeDiff, ↓reduceIte, reduceCtorEq, reduceEqDiff, reduceToNat, Int.reduceLT, reduceLE, reduceEq, hX0, hmin]
    refine awp_loop (fun n s => ∃ (k : Nat) (o : List Int) (t : Tok) (g : Nat → D), s = ⟨[g 0, .lit (.int .i64 d), g 2, g 3, g 4, .sl 3 (1 + j) 0 l.length N, intsL o t, g 7, g 8, g 9, g 10, g 11, g 12, g 13, g 14, g 15, g 16, g 17, g 18, g 19, g 20, g 21, g 22, g 23, .lit (.int .i64 (min 3 l.length : Nat)), .lit (.int .i64 k), g 26, g 27, g 28, g 29, g 30, g 31, g 32, g 33, g 34, g 35, g 36, g 37, g 38, g 39, g 40, g 41, g 42, g 43, g 44], ⟨X, []⟩⟩ ∧ n = min 3 l.length - k ∧ k ≤ min 3 l.length ∧ o = sampleTo (sortI l) e v.self k) (min 3 l.length) ⟨0, [v.self], .full, reg_intro rfl rfl ⟨by simp, by omega, rfl⟩⟩ ?_
    rintro n s ⟨k, o, t, g, rfl, hn, hk, hso⟩
    simp only [go_sem, reduceAdd, reduceSub, reduceMul, reduceLT, reduceLeDiff, ↓reduceIte, reduceCtorEq, reduceEqDiff, reduceToNat, Int.reduceLT, reduceLE, reduceEq]
    refine condK_split (fun hc => ?_) (fun hc => ?_)
    · have hk' : k < min 3 l.length := by have := of_decide_eq_true hc; omega
      have h0 : ((l.length : Nat) : Int) ≠ 0 := by omega
      have hw : IntKind.i64.wrap (((e % l.length : Nat) : Int) + (k : Int)) = ((e % l.length + k : Nat) : Int) := by
        have := Nat.mod_lt e (show 0 < l.length by omega)
        rw [wrap64] <;> omega
      have hq := Nat.mod_lt (e % l.length + k) (show 0 < l.length by omega)
      have hqN : (e % l.length + k) % l.length < N := by omega
      have hstep := sampleTo_succ (sortI l) e v.self k
      have hst := sampleTo_strict (sortI l) e v.self k
      have hsn := sampleTo_len (sortI l) e v.self k
      rw [← hso] at hstep hst hsn
      have hstep2 : stepS (sortI l) e o k = withL o ((sortI l).getD ((e % l.length + k) % l.length) 0) := by rw [stepS, hsl]
      simp only [go_sem, reduceAdd, reduceSub, reduceMul, reduceLT, reduceLeDiff, ↓reduceIte, reduceCtorEq, reduceEqDiff, reduceToNat, Int.reduceLT, reduceLE, reduceEq, he, h0, tmodNat, hw, hq, hqN, hXb, hget _ hq, Nat.zero_add]
      refine callK_pure (view_with o ((sortI l).getD ((e % l.length + k) % l.length) 0) (by omega) hst) (by simp only [go_sem, ]) (by simp only [go_sem, ]) ?_; simp only [go_sem, reduceAdd, reduceSub, reduceMul, reduceLT, reduceLeDiff, ↓reduceIte, reduceCtorEq, reduceEqDiff, reduceToNat, Int.reduceLT, reduceLE, reduceEq, ]
      simp only [go_sem, reduceAdd, reduceSub, reduceMul, reduceLT, reduceLeDiff, ↓reduceIte, reduceCtorEq, reduceEqDiff, reduceToNat, Int.reduceLT, reduceLE, reduceEq, wrapNat k (by omega)]
      exact ⟨min 3 l.length - (k + 1), by omega, k + 1, _, _, reg_intro rfl rfl ⟨rfl, by omega, by rw [hstep, hstep2]⟩⟩
    · have hi := of_decide_eq_false hc
      obtain rfl : k = min 3 l.length := by omega
      have het : (max d 0).toNat = e := by rw [he]; rfl
      simp only [go_sem, reduceAdd, reduceSub, reduceMul, reduceLT, reduceLeDiff, ↓reduceIte, reduceCtorEq, reduceEqDiff, reduceToNat, Int.reduceLT, reduceLE, reduceEq, hso, het]

def unionL (a p : List Int) : List Int := p.foldl withL a
theorem unionL_strict (p : List Int) : ∀ {a : List Int}, a.Pairwise (· < ·) → (unionL a p).Pairwise (· < ·) := by
  induction p with
  | nil => intro a h; exact h
  | cons x r ih => intro a h; exact ih (withL_strict h)
theorem mem_unionL (p : List Int) : ∀ {a : List Int} {n : Int}, n ∈ unionL a p ↔ n ∈ a ∨ n ∈ p := by
  induction p with
  | nil => intro a n; simp [unionL]
  | cons x r ih =>
    intro a n
    show n ∈ unionL (withL a x) r ↔ _
    rw [ih, mem_withL, List.mem_cons]
    constructor
    · rintro ((h | h) | h)
      · exact .inr (.inl h)
      · exact .inl h
      · exact .inr (.inr h)
    · rintro (h | h | h)
      · exact .inl (.inr h)
      · exact .inl (.inl h)
      · exact .inr h
theorem unionL_snoc (a p : List Int) (k : Nat) (hk : k < p.length) : unionL a (p.take (k + 1)) = withL (unionL a (p.take k)) (p.getD k 0) := by
  rw [take_snoc p k hk, unionL, List.foldl_append]; rfl
theorem unionL_len (p : List Int) : ∀ a : List Int, (unionL a p).length ≤ a.length + p.length := by
  induction p with
  | nil => intro a; simp [unionL]
  | cons x r ih =>
    intro a
    have h1 := ih (withL a x)
    have h2 := withL_len a x
    have e : unionL a (x :: r) = unionL (withL a x) r := rfl
    rw [e, List.length_cons]; omega
theorem strict_nodup {l : List Int} (h : l.Pairwise (· < ·)) : l.Nodup := h.imp fun h => by omega
theorem all_eq {v : ViewR} (h : VOk v) : sortI (v.act ++ v.pas) = unionL v.act v.pas :=
  sortI_eq (List.nodup_append.2 ⟨strict_nodup h.a1, strict_nodup h.p1, fun a ha b hb e => h.dj a ha (e ▸ hb)⟩) (unionL_strict _ h.a1) fun n => by rw [mem_unionL, List.mem_append]

theorem inv_view {d : D} (h : HasTy CT 24 d) : ∃ v : ViewR, d = viewD v ∧ v.act.length ≤ maxLen ∧ v.pas.length ≤ maxLen := by
  obtain ⟨l, rfl, hl⟩ := h.inv_struct ty24
  match l, hl with
  | [x, y, z], hl =>
    obtain ⟨h1, hl⟩ := hl.head
    obtain ⟨h2, hl⟩ := hl.head
    obtain ⟨h3, _⟩ := hl.head
    obtain ⟨s, rfl, _⟩ := h1.inv_i64 ty3
    obtain ⟨a, rfl, ha, _⟩ := h2.inv_intList ty22 ty3
    obtain ⟨p, rfl, hp, _⟩ := h3.inv_intList ty22 ty3
    exact ⟨⟨s, a, p⟩, rfl, ha, hp⟩
  | [], hl => exact absurd hl.1 (by simp)
  | [_], hl => exact absurd hl.1 (by simp)
  | [_, _], hl => exact absurd hl.1 (by simp)
  | _ :: _ :: _ :: _ :: _, hl => exact absurd hl.1 (by simp)
end Go.Ab
