/- Trees: the document's checks end, whatever tree it is. Conditions: none. -/
import Derived.Test.YtjafmlbcjhoflaaGreatOvP
import Derived.Test.YtjafmlbcjhoflaaGreatAbFr
open Nat (reduceAdd reduceSub reduceMul reduceLT reduceLeDiff reduceEqDiff)
open Int (reduceToNat reduceLE reduceEq)
set_option linter.unusedSimpArgs false
namespace Go.Ab
open Go.Proofs

mutual
def sameT : TreeM → TreeM → Bool
  | .nd n ks, b => decide (n = b.num) && decide (ks.length = b.kids.length) && sameTs ks b.kids
def sameTs : List TreeM → List TreeM → Bool
  | [], _ => true
  | k :: ks, js => match js with | [] => true | j :: js => sameT k j && sameTs ks js
end
theorem sameT_eq (a b : TreeM) : sameT a b = (decide (a.num = b.num) && decide (a.kids.length = b.kids.length) && sameTs a.kids b.kids) := by
  cases a with
  | nd n ks => rw [sameT]; rfl
theorem sameTs_cons (k j : TreeM) (ks js : List TreeM) : sameTs (k :: ks) (j :: js) = (sameT k j && sameTs ks js) := by rw [sameTs]
theorem sameTs_nil (js : List TreeM) : sameTs [] js = true := by rw [sameTs]
theorem sameTs_drop {ks js : List TreeM} {i : Nat} {x y : TreeM} (hx : ks[i]? = some x) (hy : js[i]? = some y) : sameTs (ks.drop i) (js.drop i) = (sameT x y && sameTs (ks.drop (i + 1)) (js.drop (i + 1))) := by
  obtain ⟨h1, h2⟩ := List.getElem?_eq_some_iff.1 hx
  obtain ⟨g1, g2⟩ := List.getElem?_eq_some_iff.1 hy
  rw [List.drop_eq_getElem_cons h1, List.drop_eq_getElem_cons g1, h2, g2, sameTs_cons]
theorem kids_lt {t x : TreeM} (h : x ∈ t.kids) : SizeOf.sizeOf x < SizeOf.sizeOf t := by
  cases t with
  | nd n ks => have := List.sizeOf_lt_of_mem h; simp only [TreeM.kids] at this; simp; omega
set_option maxRecDepth 8000 in
set_option maxHeartbeats 2000000 in
theorem same_any : ∀ (q : Nat) (a b : TreeM), SizeOf.sizeOf a < q → treeOk a → PSpec Tryz.prog CT 107 [treeD a, treeD b] (· = .bool (sameT a b))
  | 0, _, _, h, _ => absurd h (Nat.not_lt_zero _)
  | q + 1, a, b, hq, hok => by
    obtain ⟨hkl, hko⟩ := treeOk_kids hok
    have hml : maxLen ≤ 9223372036854775807 := by decide +kernel
    have hkids : ∀ (j : Nat) (x : TreeM), a.kids[j]? = some x → SizeOf.sizeOf x < q := fun j x hx => by
      have := kids_lt (List.mem_of_getElem? hx); omega
    have hse := sameT_eq a b
    refine PSpec.of hT Tryz.func107 rfl (by kernel_rfl) rfl rfl ?_
    rw [treeD_eq, treeD_eq]
    simp only [Tryz.f107, go_sem, reduceAdd, reduceSub, reduceMul, reduceLT, reduceLeDiff, ↓reduceIte, reduceCtorEq, reduceEqDiff, reduceToNat, Int.reduceLT, reduceLE, reduceEq, List.length_map]
    refine guardK_split (fun c0 => ?_) (fun c0 => ?_)
    · have : a.num ≠ b.num := by simpa using c0
      simp only [go_sem, reduceAdd, reduceSub, reduceMul, reduceLT, reduceLeDiff, ↓reduceIte, reduceCtorEq, reduceEqDiff, reduceToNat, Int.reduceLT, reduceLE, reduceEq, c0]
      rw [hse, decide_eq_false this]; simp only [Bool.false_and]
    have e0 : a.num = b.num := by simpa using c0
    simp only [go_sem, reduceAdd, reduceSub, reduceMul, reduceLT, reduceLeDiff, ↓reduceIte, reduceCtorEq, reduceEqDiff, reduceToNat, Int.reduceLT, reduceLE, reduceEq, c0, List.length_map]
    refine condK_split (fun c1 => ?_) (fun c1 => ?_)
    · have : a.kids.length ≠ b.kids.length := by intro e; rw [e] at c1; simp at c1
      simp only [go_sem, reduceAdd, reduceSub, reduceMul, reduceLT, reduceLeDiff, ↓reduceIte, reduceCtorEq, reduceEqDiff, reduceToNat, Int.reduceLT, reduceLE, reduceEq]
      rw [hse, decide_eq_false this]; simp only [Bool.and_false, Bool.false_and]
    have e1 : a.kids.length = b.kids.length := by
      have h : ((a.kids.length : Nat) : Int) = (b.kids.length : Nat) := by simpa using c1
      omega
    rw [decide_eq_true e0, decide_eq_true e1, Bool.true_and, Bool.true_and] at hse
    simp only [go_sem, reduceAdd, reduceSub, reduceMul, reduceLT, reduceLeDiff, ↓reduceIte, reduceCtorEq, reduceEqDiff, reduceToNat, Int.reduceLT, reduceLE, reduceEq]
    refine awp_loop (fun n s => ∃ (k : Nat) (g : Nat → D), s = ⟨[g 0, g 1, .ptr 0 [], .ptr 1 [], g 4, .lit (.int .i64 k), g 6, g 7, g 8, g 9, g 10, g 11, g 12, g 13, g 14, g 15, g 16, g 17, g 18, g 19, g 20, g 21, g 22, g 23, g 24, g 25, g 26, g 27, g 28, g 29, g 30, g 31, g 32, g 33, g 34, g 35, g 36, g 37, g 38], ⟨[((.pair .leaf (.pair .leaf .unit)), .agg [.lit (.int .i64 a.num), .lst 41 (a.kids.map treeD) .no]), ((.pair .leaf (.pair .leaf .unit)), .agg [.lit (.int .i64 b.num), .lst 41 (b.kids.map treeD) .no])], []⟩⟩ ∧ n = a.kids.length - k ∧ k ≤ a.kids.length ∧ sameT a b = sameTs (a.kids.drop k) (b.kids.drop k)) a.kids.length ⟨0, reg_intro rfl rfl ⟨by simp, by omega, by rw [hse]; rfl⟩⟩ ?_
    rintro n st ⟨k, g, rfl, hn, hk, hs⟩
    simp only [go_sem, reduceAdd, reduceSub, reduceMul, reduceLT, reduceLeDiff, ↓reduceIte, reduceCtorEq, reduceEqDiff, reduceToNat, Int.reduceLT, reduceLE, reduceEq, List.length_map]
    refine condK_split (fun c2 => ?_) (fun c2 => ?_)
    · have hk' : k < a.kids.length := by have := of_decide_eq_true c2; omega
      have hkb : k < b.kids.length := by omega
      have hx : a.kids[k]? = some a.kids[k] := List.getElem?_eq_getElem hk'
      have hy : b.kids[k]? = some b.kids[k] := List.getElem?_eq_getElem hkb
      have hxm : (a.kids.map treeD)[k]? = some (treeD a.kids[k]) := by rw [List.getElem?_map, hx]; rfl
      have hym : (b.kids.map treeD)[k]? = some (treeD b.kids[k]) := by rw [List.getElem?_map, hy]; rfl
      have hdr := sameTs_drop hx hy
      have hsz := hkids k _ hx
      have hxo := hko _ (List.mem_of_getElem? hx)
      generalize a.kids[k] = x at *
      generalize b.kids[k] = y at *
      simp only [go_sem, reduceAdd, reduceSub, reduceMul, reduceLT, reduceLeDiff, ↓reduceIte, reduceCtorEq, reduceEqDiff, reduceToNat, Int.reduceLT, reduceLE, reduceEq, List.length_map, hk', hkb, hxm, hym, nrm_tree, sh_tree, true_and]
      refine .inl ⟨by kernel_rfl, ?_⟩
      try simp only [go_sem, reduceAdd, reduceSub, reduceMul, reduceLT, reduceLeDiff, ↓reduceIte, reduceCtorEq, reduceEqDiff, reduceToNat, Int.reduceLT, reduceLE, reduceEq, List.length_map, hk', hkb, hxm, hym, nrm_tree, sh_tree, true_and]
      refine callD_pure (args' := [treeD x, treeD y]) (same_any q x y hsz hxo) (by first | rfl | (simp only [go_sem, erase_tree, pure_tree]; done)) (by first | (simp only [go_sem, erase_tree, pure_tree]; done) | (simp [pureL, pureD]; done)) ?_
      cases h3 : sameT x y with
      | false =>
        simp only [go_sem, reduceAdd, reduceSub, reduceMul, reduceLT, reduceLeDiff, ↓reduceIte, reduceCtorEq, reduceEqDiff, reduceToNat, Int.reduceLT, reduceLE, reduceEq, Bool.not_false]
        rw [hs, hdr, h3, Bool.false_and]
      | true =>
        simp only [go_sem, reduceAdd, reduceSub, reduceMul, reduceLT, reduceLeDiff, ↓reduceIte, reduceCtorEq, reduceEqDiff, reduceToNat, Int.reduceLT, reduceLE, reduceEq, Bool.not_true]
        rw [wrap64 ((k : Int) + 1) (by omega) (by omega)]
        exact ⟨a.kids.length - (k + 1), by omega, k + 1, reg_intro rfl rfl ⟨rfl, by omega, by rw [hs, hdr, h3, Bool.true_and]⟩⟩
    · have hk3 := of_decide_eq_false c2
      obtain rfl : k = a.kids.length := by omega
      simp only [go_sem, reduceAdd, reduceSub, reduceMul, reduceLT, reduceLeDiff, ↓reduceIte, reduceCtorEq, reduceEqDiff, reduceToNat, Int.reduceLT, reduceLE, reduceEq]
      rw [hs, List.drop_length, sameTs_nil]
theorem ref04_same_any (a b : TreeM) (h : treeOk a) : PSpec Tryz.prog CT 107 [treeD a, treeD b] (· = .bool (sameT a b)) := same_any _ a b (Nat.lt_succ_self _) h
end Go.Ab
set_option linter.unusedSimpArgs false
namespace Go.Ab
open Go.Proofs

theorem treeD_two (n : Int) (a b : TreeM) : treeD (.nd n [a, b]) = .agg [.lit (.int .i64 n), .lst 41 [treeD a, treeD b] .no] := by rw [treeD_eq]; rfl
theorem treeD_none (n : Int) : treeD (.nd n []) = .agg [.lit (.int .i64 n), .lst 41 [] .no] := by rw [treeD_eq]; rfl
theorem pureR_tree (t : TreeM) : pureR (treeD t) = True := by
  have := pure_tree t
  rw [treeD_eq] at this ⊢
  exact this
theorem tree_leaf (n : Int) : PSpec Tryz.prog CT 160 [.lit (.int .i64 n)] (· = treeD (.nd n [])) := by
  refine PSpec.of hT Tryz.func160 rfl (by kernel_rfl) rfl rfl ?_
  simp only [Tryz.f160, go_sem, reduceAdd, reduceSub, reduceMul, reduceLT, reduceLeDiff, ↓reduceIte, reduceCtorEq, reduceEqDiff, reduceToNat, Int.reduceLT, reduceLE, reduceEq]
  rw [treeD_none]
theorem tree_inner (n : Int) (a b : TreeM) : PSpec Tryz.prog CT 161 [.lit (.int .i64 n), treeD a, treeD b] (· = treeD (.nd n [a, b])) := by
  refine PSpec.of hT Tryz.func161 rfl (by kernel_rfl) rfl rfl ?_
  simp only [Tryz.f161, go_sem, reduceAdd, reduceSub, reduceMul, reduceLT, reduceLeDiff, ↓reduceIte, reduceCtorEq, reduceEqDiff, reduceToNat, Int.reduceLT, reduceLE, reduceEq, sh_tree, nrm_tree, true_and, pure_tree]
  rw [treeD_two]
theorem tree_isLeaf (t : TreeM) (n : Int) : PSpec Tryz.prog CT 85 [treeD t, .lit (.int .i64 n)] (· = .bool (decide (t.kids.length = 0) && decide (t.num = n))) := by
  refine PSpec.of hT Tryz.func85 rfl (by kernel_rfl) rfl rfl ?_
  rw [treeD_eq]
  simp only [Tryz.f85, go_sem, reduceAdd, reduceSub, reduceMul, reduceLT, reduceLeDiff, ↓reduceIte, reduceCtorEq, reduceEqDiff, reduceToNat, Int.reduceLT, reduceLE, reduceEq, List.length_map]
  have e : decide (((t.kids.length : Nat) : Int) = 0) = decide (t.kids.length = 0) := by
    by_cases h : t.kids.length = 0
    · rw [h]; rfl
    · rw [decide_eq_false h, decide_eq_false (by omega)]
  simp only [e]
  cases h : decide (t.kids.length = 0) with
  | false => simp only [go_sem, reduceAdd, reduceSub, reduceMul, reduceLT, reduceLeDiff, ↓reduceIte, reduceCtorEq, reduceEqDiff, reduceToNat, Int.reduceLT, reduceLE, reduceEq, Bool.false_and]
  | true => simp only [go_sem, reduceAdd, reduceSub, reduceMul, reduceLT, reduceLeDiff, ↓reduceIte, reduceCtorEq, reduceEqDiff, reduceToNat, Int.reduceLT, reduceLE, reduceEq, Bool.true_and]
def liftT (t : TreeM) (n : Int) : TreeM := .nd (IntKind.i64.wrap (t.num + n)) t.kids
theorem tree_lift (t : TreeM) (n : Int) : PSpec Tryz.prog CT 176 [treeD t, .lit (.int .i64 n)] (· = treeD (liftT t n)) := by
  refine PSpec.of hT Tryz.func176 rfl (by kernel_rfl) rfl rfl ?_
  rw [treeD_eq, treeD_eq]
  simp only [Tryz.f176, go_sem, reduceAdd, reduceSub, reduceMul, reduceLT, reduceLeDiff, ↓reduceIte, reduceCtorEq, reduceEqDiff, reduceToNat, Int.reduceLT, reduceLE, reduceEq, liftT, TreeM.num, TreeM.kids]
/-- So deep at most. -/
def roughN : Nat → TreeM → Int → Bool
  | 0, _, _ => false
  | q + 1, .nd n ks, m => match ks with
    | [] => decide (n = 0) || decide (n = 1)
    | [a, b] => decide (n = 0) && decide (0 < m) && roughN q a (IntKind.i64.wrap (m - 1)) && roughN q b (IntKind.i64.wrap (m - 1))
    | _ => false
set_option maxRecDepth 8000 in
set_option maxHeartbeats 2000000 in
theorem rough_any : ∀ (q : Nat) (t : TreeM) (m : Int), SizeOf.sizeOf t < q → PSpec Tryz.prog CT 137 [treeD t, .lit (.int .i64 m)] (· = .bool (roughN q t m))
  | 0, _, _, h => absurd h (Nat.not_lt_zero _)
  | q + 1, .nd n [], m, hq => by
    refine PSpec.of hT Tryz.func137 rfl (by kernel_rfl) rfl rfl ?_
    rw [treeD_none]
    simp only [Tryz.f137, go_sem, reduceAdd, reduceSub, reduceMul, reduceLT, reduceLeDiff, ↓reduceIte, reduceCtorEq, reduceEqDiff, reduceToNat, Int.reduceLT, reduceLE, reduceEq, List.length_nil, Int.natCast_zero, Int.cast_ofNat_Int, decide_true, roughN]
    cases h : decide (n = 0) with
    | false => simp only [go_sem, reduceAdd, reduceSub, reduceMul, reduceLT, reduceLeDiff, ↓reduceIte, reduceCtorEq, reduceEqDiff, reduceToNat, Int.reduceLT, reduceLE, reduceEq, Bool.false_or]
    | true => simp only [go_sem, reduceAdd, reduceSub, reduceMul, reduceLT, reduceLeDiff, ↓reduceIte, reduceCtorEq, reduceEqDiff, reduceToNat, Int.reduceLT, reduceLE, reduceEq, Bool.true_or]
  | q + 1, .nd n [a, b], m, hq => by
    have h1 : SizeOf.sizeOf a < q := by simp at hq; omega
    have h2 : SizeOf.sizeOf b < q := by simp at hq; omega
    refine PSpec.of hT Tryz.func137 rfl (by kernel_rfl) rfl rfl ?_
    rw [treeD_two]
    simp only [Tryz.f137, go_sem, reduceAdd, reduceSub, reduceMul, reduceLT, reduceLeDiff, ↓reduceIte, reduceCtorEq, reduceEqDiff, reduceToNat, Int.reduceLT, reduceLE, reduceEq, List.length_cons, List.length_nil, Int.natCast_zero, Int.cast_ofNat_Int, roughN]
    cases h3 : decide (n = 0) with
    | false => simp only [go_sem, reduceAdd, reduceSub, reduceMul, reduceLT, reduceLeDiff, ↓reduceIte, reduceCtorEq, reduceEqDiff, reduceToNat, Int.reduceLT, reduceLE, reduceEq, Bool.false_and]
    | true =>
    simp only [go_sem, reduceAdd, reduceSub, reduceMul, reduceLT, reduceLeDiff, ↓reduceIte, reduceCtorEq, reduceEqDiff, reduceToNat, Int.reduceLT, reduceLE, reduceEq, Bool.true_and]
    cases h4 : decide (0 < m) with
    | false => simp only [go_sem, reduceAdd, reduceSub, reduceMul, reduceLT, reduceLeDiff, ↓reduceIte, reduceCtorEq, reduceEqDiff, reduceToNat, Int.reduceLT, reduceLE, reduceEq, Bool.false_and]
    | true =>
    simp only [go_sem, reduceAdd, reduceSub, reduceMul, reduceLT, reduceLeDiff, ↓reduceIte, reduceCtorEq, reduceEqDiff, reduceToNat, Int.reduceLT, reduceLE, reduceEq, Bool.true_and, List.length_cons, List.length_nil, nrm_tree, sh_tree, true_and]
    refine callK_pure (args' := [treeD a, .lit (.int .i64 (IntKind.i64.wrap (m - 1)))]) (rough_any q a _ h1) (by first | rfl | (simp only [go_sem, erase_tree, pure_tree]; done)) (by first | (simp only [go_sem, erase_tree, pure_tree]; done) | (simp [pureL, pureD]; done)) ?_
    cases h5 : roughN q a (IntKind.i64.wrap (m - 1)) with
    | false => simp only [go_sem, reduceAdd, reduceSub, reduceMul, reduceLT, reduceLeDiff, ↓reduceIte, reduceCtorEq, reduceEqDiff, reduceToNat, Int.reduceLT, reduceLE, reduceEq, Bool.false_and]
    | true =>
    simp only [go_sem, reduceAdd, reduceSub, reduceMul, reduceLT, reduceLeDiff, ↓reduceIte, reduceCtorEq, reduceEqDiff, reduceToNat, Int.reduceLT, reduceLE, reduceEq, Bool.true_and, List.length_cons, List.length_nil, nrm_tree, sh_tree, true_and]
    refine callK_pure (args' := [treeD b, .lit (.int .i64 (IntKind.i64.wrap (m - 1)))]) (rough_any q b _ h2) (by first | rfl | (simp only [go_sem, erase_tree, pure_tree]; done)) (by first | (simp only [go_sem, erase_tree, pure_tree]; done) | (simp [pureL, pureD]; done)) ?_
    simp only [go_sem, reduceAdd, reduceSub, reduceMul, reduceLT, reduceLeDiff, ↓reduceIte, reduceCtorEq, reduceEqDiff, reduceToNat, Int.reduceLT, reduceLE, reduceEq]
  | q + 1, .nd n [a], m, hq => by
    refine PSpec.of hT Tryz.func137 rfl (by kernel_rfl) rfl rfl ?_
    rw [treeD_eq]
    simp only [Tryz.f137, go_sem, reduceAdd, reduceSub, reduceMul, reduceLT, reduceLeDiff, ↓reduceIte, reduceCtorEq, reduceEqDiff, reduceToNat, Int.reduceLT, reduceLE, reduceEq, TreeM.num, TreeM.kids, List.map_cons, List.map_nil, List.length_cons, List.length_nil, Int.natCast_zero, Int.cast_ofNat_Int, roughN]
  | q + 1, .nd n (a :: b :: c :: r), m, hq => by
    have e1 : decide (((r.length + 1 + 1 + 1 : Nat) : Int) = 0) = false := decide_eq_false (by omega)
    have e2 : decide (((r.length + 1 + 1 + 1 : Nat) : Int) = 2) = false := decide_eq_false (by omega)
    refine PSpec.of hT Tryz.func137 rfl (by kernel_rfl) rfl rfl ?_
    rw [treeD_eq]
    simp only [Tryz.f137, go_sem, reduceAdd, reduceSub, reduceMul, reduceLT, reduceLeDiff, ↓reduceIte, reduceCtorEq, reduceEqDiff, reduceToNat, Int.reduceLT, reduceLE, reduceEq, TreeM.num, TreeM.kids, List.map_cons, List.length_cons, List.length_map, roughN, e1, e2]
/-- No more and no less than two kids. -/
def twoN : Nat → TreeM → Prop
  | 0, _ => False
  | q + 1, .nd _ ks => match ks with
    | [] => True
    | [a, b] => twoN q a ∧ twoN q b
    | _ => False
theorem rough_two : ∀ (q : Nat) (t : TreeM) (m : Int), roughN q t m = true → twoN q t
  | 0, _, _, h => by simp [roughN] at h
  | q + 1, .nd n [], m, h => by simp [twoN]
  | q + 1, .nd n [a, b], m, h => by
    simp only [roughN, Bool.and_eq_true] at h
    exact ⟨rough_two q a _ h.1.2, rough_two q b _ h.2⟩
  | q + 1, .nd n [a], m, h => by simp [roughN] at h
  | q + 1, .nd n (a :: b :: c :: r), m, h => by simp [roughN] at h
def normN : Nat → TreeM → TreeM
  | 0, t => t
  | q + 1, .nd n ks => match ks with
    | [a, b] => if (decide ((normN q a).kids.length = 0) && (decide ((normN q b).kids.length = 0) && decide ((normN q b).num = (normN q a).num))) = true then normN q a else .nd 0 [normN q a, normN q b]
    | _ => .nd n []
theorem normN_ok : ∀ (q : Nat) (t : TreeM), treeOk t → treeOk (normN q t)
  | 0, _, h => h
  | q + 1, .nd n [a, b], h => by
    obtain ⟨_, hk⟩ := treeOk_kids h
    have h1 := normN_ok q a (hk a (by simp [TreeM.kids]))
    have h2 := normN_ok q b (hk b (by simp [TreeM.kids]))
    have hml : 2 ≤ maxLen := by decide +kernel
    rw [normN]
    split
    · exact h1
    · rw [treeOk]; exact ⟨by simpa using hml, by rw [treesOk, treesOk, treesOk]; exact ⟨h1, h2, trivial⟩⟩
  | q + 1, .nd n [], h => by
    show treeOk (.nd n [])
    rw [treeOk]; exact ⟨by simp, by rw [treesOk]; trivial⟩
  | q + 1, .nd n [a], h => by
    show treeOk (.nd n [])
    rw [treeOk]; exact ⟨by simp, by rw [treesOk]; trivial⟩
  | q + 1, .nd n (a :: b :: c :: r), h => by
    show treeOk (.nd n [])
    rw [treeOk]; exact ⟨by simp, by rw [treesOk]; trivial⟩
set_option maxRecDepth 8000 in
set_option maxHeartbeats 4000000 in
theorem norm_any : ∀ (q : Nat) (t : TreeM), twoN q t → PSpec Tryz.prog CT 138 [treeD t] (· = treeD (normN q t))
  | 0, _, h => absurd h (by simp [twoN])
  | q + 1, .nd n [], h => by
    refine PSpec.of hT Tryz.func138 rfl (by kernel_rfl) rfl rfl ?_
    rw [treeD_none]
    simp only [Tryz.f138, go_sem, reduceAdd, reduceSub, reduceMul, reduceLT, reduceLeDiff, ↓reduceIte, reduceCtorEq, reduceEqDiff, reduceToNat, Int.reduceLT, reduceLE, reduceEq, List.length_nil, Int.natCast_zero, Int.cast_ofNat_Int, decide_true]
    refine callK_pure (tree_leaf n) (by first | rfl | (simp only [go_sem]; done)) (by first | (simp only [go_sem]; done) | (simp [pureL, pureD]; done)) ?_
    simp only [go_sem, reduceAdd, reduceSub, reduceMul, reduceLT, reduceLeDiff, ↓reduceIte, reduceCtorEq, reduceEqDiff, reduceToNat, Int.reduceLT, reduceLE, reduceEq, nrm_tree, sh_tree, true_and, and_true, erase_tree, pure_tree, pureR_tree, normN]
  | q + 1, .nd n [a, b], h => by
    obtain ⟨h1, h2⟩ := h
    have na := norm_any q a h1
    have nb := norm_any q b h2
    refine PSpec.of hT Tryz.func138 rfl (by kernel_rfl) rfl rfl ?_
    rw [treeD_two]
    simp only [Tryz.f138, go_sem, reduceAdd, reduceSub, reduceMul, reduceLT, reduceLeDiff, ↓reduceIte, reduceCtorEq, reduceEqDiff, reduceToNat, Int.reduceLT, reduceLE, reduceEq, List.length_cons, List.length_nil, Int.natCast_zero, Int.cast_ofNat_Int]
    rw [normN]
    generalize normN q a = x at *
    generalize normN q b = y at *
    refine .inr (drawN_two [0, 1, 2, 3, 4, 5, 6, 7, 8, 9, 10, 11, 12, 13] [0, 1, 2, 3, 4, 5, 6, 7, 8, 9, 11, 10, 12, 13] (by kernel_rfl) ?_ ?_)
    all_goals
      simp only [go_sem, reduceAdd, reduceSub, reduceMul, reduceLT, reduceLeDiff, ↓reduceIte, reduceCtorEq, reduceEqDiff, reduceToNat, Int.reduceLT, reduceLE, reduceEq, List.length_cons, List.length_nil, nrm_tree, sh_tree, true_and]
      refine callD_pure (args' := [treeD a]) na (by first | rfl | (simp only [go_sem, erase_tree, pure_tree]; done)) (by first | (simp only [go_sem, erase_tree, pure_tree]; done) | (simp [pureL, pureD]; done)) ?_
      simp only [go_sem, reduceAdd, reduceSub, reduceMul, reduceLT, reduceLeDiff, ↓reduceIte, reduceCtorEq, reduceEqDiff, reduceToNat, Int.reduceLT, reduceLE, reduceEq, List.length_cons, List.length_nil, nrm_tree, sh_tree, true_and]
      refine callD_pure (args' := [treeD b]) nb (by first | rfl | (simp only [go_sem, erase_tree, pure_tree]; done)) (by first | (simp only [go_sem, erase_tree, pure_tree]; done) | (simp [pureL, pureD]; done)) ?_
      simp only [go_sem, reduceAdd, reduceSub, reduceMul, reduceLT, reduceLeDiff, ↓reduceIte, reduceCtorEq, reduceEqDiff, reduceToNat, Int.reduceLT, reduceLE, reduceEq, nrm_tree, sh_tree, true_and, treeD_eq x, treeD_eq y, List.length_map]
      have e : decide (((x.kids.length : Nat) : Int) = 0) = decide (x.kids.length = 0) := by
        by_cases h : x.kids.length = 0
        · rw [h]; rfl
        · rw [decide_eq_false h, decide_eq_false (by omega)]
      simp only [e]
      cases h3 : decide (x.kids.length = 0) with
      | false =>
        simp only [go_sem, reduceAdd, reduceSub, reduceMul, reduceLT, reduceLeDiff, ↓reduceIte, reduceCtorEq, reduceEqDiff, reduceToNat, Int.reduceLT, reduceLE, reduceEq, nrm_tree, sh_tree, true_and, Bool.false_and, Bool.false_eq_true, if_false]
        refine callK_pure (args' := [.lit (.int .i64 0), treeD x, treeD y]) (tree_inner 0 x y) (by rw [← treeD_eq x, ← treeD_eq y]; simp only [List.map_cons, List.map_nil, erase_tree, erase_lit]) (by simp only [pureL, pure_tree, pureD, and_true]) ?_
        simp only [go_sem, reduceAdd, reduceSub, reduceMul, reduceLT, reduceLeDiff, ↓reduceIte, reduceCtorEq, reduceEqDiff, reduceToNat, Int.reduceLT, reduceLE, reduceEq, nrm_tree, sh_tree, true_and, and_true, erase_tree, pureR_tree]
      | true =>
        simp only [go_sem, reduceAdd, reduceSub, reduceMul, reduceLT, reduceLeDiff, ↓reduceIte, reduceCtorEq, reduceEqDiff, reduceToNat, Int.reduceLT, reduceLE, reduceEq, nrm_tree, sh_tree, true_and, Bool.true_and]
        refine callK_pure (args' := [treeD y, .lit (.int .i64 x.num)]) (tree_isLeaf y x.num) (by rw [← treeD_eq y]; simp only [List.map_cons, List.map_nil, erase_tree, erase_lit]) (by simp only [pureL, pure_tree, pureD, and_true]) ?_
        cases h4 : (decide (y.kids.length = 0) && decide (y.num = x.num)) with
        | false =>
          simp only [go_sem, reduceAdd, reduceSub, reduceMul, reduceLT, reduceLeDiff, ↓reduceIte, reduceCtorEq, reduceEqDiff, reduceToNat, Int.reduceLT, reduceLE, reduceEq, nrm_tree, sh_tree, true_and, Bool.false_eq_true, if_false]
          refine callK_pure (args' := [.lit (.int .i64 0), treeD x, treeD y]) (tree_inner 0 x y) (by rw [← treeD_eq x, ← treeD_eq y]; simp only [List.map_cons, List.map_nil, erase_tree, erase_lit]) (by simp only [pureL, pure_tree, pureD, and_true]) ?_
          simp only [go_sem, reduceAdd, reduceSub, reduceMul, reduceLT, reduceLeDiff, ↓reduceIte, reduceCtorEq, reduceEqDiff, reduceToNat, Int.reduceLT, reduceLE, reduceEq, nrm_tree, sh_tree, true_and, and_true, erase_tree, pureR_tree]
        | true =>
          simp only [go_sem, reduceAdd, reduceSub, reduceMul, reduceLT, reduceLeDiff, ↓reduceIte, reduceCtorEq, reduceEqDiff, reduceToNat, Int.reduceLT, reduceLE, reduceEq, nrm_tree, sh_tree, true_and, if_true]
          exact (treeD_eq x).symm
  | q + 1, .nd n [a], h => by simp [twoN] at h
  | q + 1, .nd n (a :: b :: c :: r), h => by simp [twoN] at h
set_option maxRecDepth 8000 in
set_option maxHeartbeats 2000000 in
theorem ref04_check (t : TreeM) (h : treeOk t) : ∃ c : Bool, PSpec Tryz.prog CT 113 [treeD t] (· = .bool c) := by
  obtain ⟨q, hq⟩ : ∃ q, SizeOf.sizeOf t < q := ⟨_, Nat.lt_succ_self _⟩
  refine ⟨roughN q t 16 && sameT (normN q t) t, ?_⟩
  refine PSpec.of hT Tryz.func113 rfl (by kernel_rfl) rfl rfl ?_
  simp only [Tryz.f113, go_sem, reduceAdd, reduceSub, reduceMul, reduceLT, reduceLeDiff, ↓reduceIte, reduceCtorEq, reduceEqDiff, reduceToNat, Int.reduceLT, reduceLE, reduceEq, nrm_tree, sh_tree, true_and]
  refine .inl ⟨by kernel_rfl, ?_⟩
  try simp only [go_sem, reduceAdd, reduceSub, reduceMul, reduceLT, reduceLeDiff, ↓reduceIte, reduceCtorEq, reduceEqDiff, reduceToNat, Int.reduceLT, reduceLE, reduceEq, nrm_tree, sh_tree, true_and]
  refine callD_pure (args' := [treeD t, .lit (.int .i64 16)]) (rough_any q t 16 hq) (by first | rfl | (simp only [go_sem, erase_tree, pure_tree]; done)) (by first | (simp only [go_sem, erase_tree, pure_tree]; done) | (simp [pureL, pureD]; done)) ?_
  cases h1 : roughN q t 16 with
  | false => simp only [go_sem, reduceAdd, reduceSub, reduceMul, reduceLT, reduceLeDiff, ↓reduceIte, reduceCtorEq, reduceEqDiff, reduceToNat, Int.reduceLT, reduceLE, reduceEq, Bool.false_and]
  | true =>
    simp only [go_sem, reduceAdd, reduceSub, reduceMul, reduceLT, reduceLeDiff, ↓reduceIte, reduceCtorEq, reduceEqDiff, reduceToNat, Int.reduceLT, reduceLE, reduceEq, Bool.true_and, nrm_tree, sh_tree, true_and]
    refine callD_pure (args' := [treeD t]) (norm_any q t (rough_two _ _ _ h1)) (by first | rfl | (simp only [go_sem, erase_tree, pure_tree]; done)) (by first | (simp only [go_sem, erase_tree, pure_tree]; done) | (simp [pureL, pureD]; done)) ?_
    simp only [go_sem, reduceAdd, reduceSub, reduceMul, reduceLT, reduceLeDiff, ↓reduceIte, reduceCtorEq, reduceEqDiff, reduceToNat, Int.reduceLT, reduceLE, reduceEq, nrm_tree, sh_tree, true_and]
    refine callD_pure (args' := [treeD (normN q t), treeD t]) (ref04_same_any _ t (normN_ok _ t h)) (by first | rfl | (simp only [go_sem, erase_tree, pure_tree]; done)) (by first | (simp only [go_sem, erase_tree, pure_tree]; done) | (simp [pureL, pureD]; done)) ?_
    simp only [go_sem, reduceAdd, reduceSub, reduceMul, reduceLT, reduceLeDiff, ↓reduceIte, reduceCtorEq, reduceEqDiff, reduceToNat, Int.reduceLT, reduceLE, reduceEq]
end Go.Ab
set_option linter.unusedSimpArgs false
namespace Go.Ab
open Go.Proofs

def kidsE (f : TreeM → Bool) (d : Int) : List TreeM → Bool
  | [] => true
  | [a, b] => decide (0 < d) && f a && f b
  | _ => false
def roughE : Nat → TreeM → Int → Int → Bool
  | 0, _, _, _ => false
  | q + 1, .nd n ks, d, l => !(decide (n < 0) || decide (l < n)) && kidsE (fun t => roughE q t (IntKind.i64.wrap (d - 1)) (IntKind.i64.wrap (l - n))) d ks
set_option maxRecDepth 8000 in
set_option maxHeartbeats 4000000 in
theorem roughE_any : ∀ (q : Nat) (t : TreeM) (d l : Int), SizeOf.sizeOf t < q → PSpec Tryz.prog CT 139 [treeD t, .lit (.int .i64 d), .lit (.int .i64 l)] (· = .bool (roughE q t d l))
  | 0, _, _, _, h => absurd h (Nat.not_lt_zero _)
  | q + 1, .nd n ks, d, l, hq => by
    refine PSpec.of hT Tryz.func139 rfl (by kernel_rfl) rfl rfl ?_
    rw [treeD_eq]
    simp only [Tryz.f139, go_sem, reduceAdd, reduceSub, reduceMul, reduceLT, reduceLeDiff, ↓reduceIte, reduceCtorEq, reduceEqDiff, reduceToNat, Int.reduceLT, reduceLE, reduceEq, TreeM.num, TreeM.kids, List.length_map]
    rw [roughE]
    cases h1 : decide (n < 0) with
    | true => simp only [go_sem, reduceAdd, reduceSub, reduceMul, reduceLT, reduceLeDiff, ↓reduceIte, reduceCtorEq, reduceEqDiff, reduceToNat, Int.reduceLT, reduceLE, reduceEq, Bool.true_or, Bool.not_true, Bool.false_and]
    | false =>
    simp only [go_sem, reduceAdd, reduceSub, reduceMul, reduceLT, reduceLeDiff, ↓reduceIte, reduceCtorEq, reduceEqDiff, reduceToNat, Int.reduceLT, reduceLE, reduceEq, Bool.false_or]
    cases h2 : decide (l < n) with
    | true => simp only [go_sem, reduceAdd, reduceSub, reduceMul, reduceLT, reduceLeDiff, ↓reduceIte, reduceCtorEq, reduceEqDiff, reduceToNat, Int.reduceLT, reduceLE, reduceEq, Bool.not_true, Bool.false_and]
    | false =>
    simp only [go_sem, reduceAdd, reduceSub, reduceMul, reduceLT, reduceLeDiff, ↓reduceIte, reduceCtorEq, reduceEqDiff, reduceToNat, Int.reduceLT, reduceLE, reduceEq, Bool.not_false, Bool.true_and, List.length_map]
    match ks, hq with
    | [], hq => simp only [go_sem, reduceAdd, reduceSub, reduceMul, reduceLT, reduceLeDiff, ↓reduceIte, reduceCtorEq, reduceEqDiff, reduceToNat, Int.reduceLT, reduceLE, reduceEq, List.length_nil, Int.natCast_zero, Int.cast_ofNat_Int, decide_true, kidsE]
    | [a], hq =>
      simp only [go_sem, reduceAdd, reduceSub, reduceMul, reduceLT, reduceLeDiff, ↓reduceIte, reduceCtorEq, reduceEqDiff, reduceToNat, Int.reduceLT, reduceLE, reduceEq, List.map_cons, List.map_nil, List.length_cons, List.length_nil, Int.natCast_zero, Int.cast_ofNat_Int]
      refine .inl ⟨by kernel_rfl, ?_⟩
      try simp only [go_sem, reduceAdd, reduceSub, reduceMul, reduceLT, reduceLeDiff, ↓reduceIte, reduceCtorEq, reduceEqDiff, reduceToNat, Int.reduceLT, reduceLE, reduceEq, List.map_cons, List.map_nil, List.length_cons, List.length_nil, Int.natCast_zero, Int.cast_ofNat_Int, kidsE]
    | [a, b], hq =>
      have k1 : SizeOf.sizeOf a < q := by simp at hq; omega
      have k2 : SizeOf.sizeOf b < q := by simp at hq; omega
      simp only [go_sem, reduceAdd, reduceSub, reduceMul, reduceLT, reduceLeDiff, ↓reduceIte, reduceCtorEq, reduceEqDiff, reduceToNat, Int.reduceLT, reduceLE, reduceEq, List.map_cons, List.map_nil, List.length_cons, List.length_nil, Int.natCast_zero, Int.cast_ofNat_Int]
      refine .inl ⟨by kernel_rfl, ?_⟩
      try simp only [go_sem, reduceAdd, reduceSub, reduceMul, reduceLT, reduceLeDiff, ↓reduceIte, reduceCtorEq, reduceEqDiff, reduceToNat, Int.reduceLT, reduceLE, reduceEq, List.map_cons, List.map_nil, List.length_cons, List.length_nil, Int.natCast_zero, Int.cast_ofNat_Int]
      rw [kidsE]
      cases h4 : decide (0 < d) with
      | false => simp only [go_sem, reduceAdd, reduceSub, reduceMul, reduceLT, reduceLeDiff, ↓reduceIte, reduceCtorEq, reduceEqDiff, reduceToNat, Int.reduceLT, reduceLE, reduceEq, Bool.false_and]
      | true =>
      simp only [go_sem, reduceAdd, reduceSub, reduceMul, reduceLT, reduceLeDiff, ↓reduceIte, reduceCtorEq, reduceEqDiff, reduceToNat, Int.reduceLT, reduceLE, reduceEq, Bool.true_and, List.length_cons, List.length_nil, nrm_tree, sh_tree, true_and]
      refine callD_pure (args' := [treeD a, .lit (.int .i64 (IntKind.i64.wrap (d - 1))), .lit (.int .i64 (IntKind.i64.wrap (l - n)))]) (roughE_any q a _ _ k1) (by first | rfl | (simp only [go_sem, erase_tree, pure_tree]; done)) (by first | (simp only [go_sem, erase_tree, pure_tree]; done) | (simp [pureL, pureD]; done)) ?_
      cases h5 : roughE q a (IntKind.i64.wrap (d - 1)) (IntKind.i64.wrap (l - n)) with
      | false => simp only [go_sem, reduceAdd, reduceSub, reduceMul, reduceLT, reduceLeDiff, ↓reduceIte, reduceCtorEq, reduceEqDiff, reduceToNat, Int.reduceLT, reduceLE, reduceEq, Bool.false_and]
      | true =>
      simp only [go_sem, reduceAdd, reduceSub, reduceMul, reduceLT, reduceLeDiff, ↓reduceIte, reduceCtorEq, reduceEqDiff, reduceToNat, Int.reduceLT, reduceLE, reduceEq, Bool.true_and, List.length_cons, List.length_nil, nrm_tree, sh_tree, true_and]
      refine callD_pure (args' := [treeD b, .lit (.int .i64 (IntKind.i64.wrap (d - 1))), .lit (.int .i64 (IntKind.i64.wrap (l - n)))]) (roughE_any q b _ _ k2) (by first | rfl | (simp only [go_sem, erase_tree, pure_tree]; done)) (by first | (simp only [go_sem, erase_tree, pure_tree]; done) | (simp [pureL, pureD]; done)) ?_
      simp only [go_sem, reduceAdd, reduceSub, reduceMul, reduceLT, reduceLeDiff, ↓reduceIte, reduceCtorEq, reduceEqDiff, reduceToNat, Int.reduceLT, reduceLE, reduceEq]
    | a :: b :: c :: r, hq =>
      have e1 : decide (((r.length + 1 + 1 + 1 : Nat) : Int) = 0) = false := decide_eq_false (by omega)
      have e2 : decide (((r.length + 1 + 1 + 1 : Nat) : Int) = 2) = false := decide_eq_false (by omega)
      simp only [go_sem, reduceAdd, reduceSub, reduceMul, reduceLT, reduceLeDiff, ↓reduceIte, reduceCtorEq, reduceEqDiff, reduceToNat, Int.reduceLT, reduceLE, reduceEq, List.map_cons, List.length_cons, List.length_map, e1, e2]
      refine .inl ⟨by kernel_rfl, ?_⟩
      try simp only [go_sem, reduceAdd, reduceSub, reduceMul, reduceLT, reduceLeDiff, ↓reduceIte, reduceCtorEq, reduceEqDiff, reduceToNat, Int.reduceLT, reduceLE, reduceEq, List.map_cons, List.length_cons, List.length_map, e1, e2, kidsE]
theorem roughE_two : ∀ (q : Nat) (t : TreeM) (d l : Int), roughE q t d l = true → twoN q t
  | 0, _, _, _, h => by simp [roughE] at h
  | q + 1, .nd n [], _, _, h => by simp [twoN]
  | q + 1, .nd n [a, b], _, _, h => by
    simp only [roughE, kidsE, Bool.and_eq_true] at h
    exact ⟨roughE_two q a _ _ h.2.1.2, roughE_two q b _ _ h.2.2⟩
  | q + 1, .nd n [a], _, _, h => by simp [roughE, kidsE] at h
  | q + 1, .nd n (a :: b :: c :: r), _, _, h => by simp [roughE, kidsE] at h
def nodeT (n : Int) (a b : TreeM) : TreeM :=
  if (decide (a.kids.length = 0) && decide (b.kids.length = 0) && decide (a.num = b.num)) = true then .nd (IntKind.i64.wrap (n + min a.num b.num)) []
  else .nd (IntKind.i64.wrap (n + min a.num b.num)) [liftT a (IntKind.i64.wrap (0 - min a.num b.num)), liftT b (IntKind.i64.wrap (0 - min a.num b.num))]
theorem zero_len (x : TreeM) : decide (((x.kids.length : Nat) : Int) = 0) = decide (x.kids.length = 0) := by
  by_cases h : x.kids.length = 0
  · rw [h]; rfl
  · rw [decide_eq_false h, decide_eq_false (by omega)]
set_option maxRecDepth 8000 in
set_option maxHeartbeats 4000000 in
theorem tree_node (n : Int) (a b : TreeM) : PSpec Tryz.prog CT 162 [.lit (.int .i64 n), treeD a, treeD b] (· = treeD (nodeT n a b)) := by
  refine PSpec.of hT Tryz.func162 rfl (by kernel_rfl) rfl rfl ?_
  simp only [treeD_eq a, treeD_eq b]
  simp only [Tryz.f162, go_sem, reduceAdd, reduceSub, reduceMul, reduceLT, reduceLeDiff, ↓reduceIte, reduceCtorEq, reduceEqDiff, reduceToNat, Int.reduceLT, reduceLE, reduceEq, List.length_map, zero_len]
  rw [nodeT]
  cases h1 : decide (a.kids.length = 0) with
  | false =>
    simp only [Bool.false_and, Bool.false_eq_true, if_false]
    simp only [go_sem, reduceAdd, reduceSub, reduceMul, reduceLT, reduceLeDiff, ↓reduceIte, reduceCtorEq, reduceEqDiff, reduceToNat, Int.reduceLT, reduceLE, reduceEq, List.length_map, zero_len]
    refine .inl ⟨by kernel_rfl, ?_⟩
    try simp only [go_sem, reduceAdd, reduceSub, reduceMul, reduceLT, reduceLeDiff, ↓reduceIte, reduceCtorEq, reduceEqDiff, reduceToNat, Int.reduceLT, reduceLE, reduceEq, nrm_tree, sh_tree, true_and]
    refine callD_pure (args' := [treeD a, .lit (.int .i64 (IntKind.i64.wrap (0 - min a.num b.num)))]) (tree_lift a _) (by rw [← treeD_eq a]; simp only [List.map_cons, List.map_nil, erase_tree, erase_lit]) (by simp only [pureL, pure_tree, pureD, and_true]) ?_
    simp only [go_sem, reduceAdd, reduceSub, reduceMul, reduceLT, reduceLeDiff, ↓reduceIte, reduceCtorEq, reduceEqDiff, reduceToNat, Int.reduceLT, reduceLE, reduceEq, nrm_tree, sh_tree, true_and]
    refine callD_pure (args' := [treeD b, .lit (.int .i64 (IntKind.i64.wrap (0 - min a.num b.num)))]) (tree_lift b _) (by rw [← treeD_eq b]; simp only [List.map_cons, List.map_nil, erase_tree, erase_lit]) (by simp only [pureL, pure_tree, pureD, and_true]) ?_
    simp only [go_sem, reduceAdd, reduceSub, reduceMul, reduceLT, reduceLeDiff, ↓reduceIte, reduceCtorEq, reduceEqDiff, reduceToNat, Int.reduceLT, reduceLE, reduceEq, nrm_tree, sh_tree, true_and]
    refine callD_pure (args' := [.lit (.int .i64 (IntKind.i64.wrap (n + min a.num b.num))), treeD (liftT a (IntKind.i64.wrap (0 - min a.num b.num))), treeD (liftT b (IntKind.i64.wrap (0 - min a.num b.num)))]) (tree_inner _ _ _) (by first | rfl | (simp only [go_sem, erase_tree, pure_tree]; done)) (by first | (simp only [go_sem, erase_tree, pure_tree]; done) | (simp [pureL, pureD]; done)) ?_
    simp only [go_sem, reduceAdd, reduceSub, reduceMul, reduceLT, reduceLeDiff, ↓reduceIte, reduceCtorEq, reduceEqDiff, reduceToNat, Int.reduceLT, reduceLE, reduceEq, nrm_tree, sh_tree, true_and, and_true, erase_tree, pureR_tree]
  | true =>
  simp only [go_sem, reduceAdd, reduceSub, reduceMul, reduceLT, reduceLeDiff, ↓reduceIte, reduceCtorEq, reduceEqDiff, reduceToNat, Int.reduceLT, reduceLE, reduceEq, List.length_map, zero_len, Bool.true_and]
  cases h2 : decide (b.kids.length = 0) with
  | false =>
    simp only [Bool.false_and, Bool.false_eq_true, if_false]
    simp only [go_sem, reduceAdd, reduceSub, reduceMul, reduceLT, reduceLeDiff, ↓reduceIte, reduceCtorEq, reduceEqDiff, reduceToNat, Int.reduceLT, reduceLE, reduceEq, List.length_map, zero_len]
    refine .inl ⟨by kernel_rfl, ?_⟩
    try simp only [go_sem, reduceAdd, reduceSub, reduceMul, reduceLT, reduceLeDiff, ↓reduceIte, reduceCtorEq, reduceEqDiff, reduceToNat, Int.reduceLT, reduceLE, reduceEq, nrm_tree, sh_tree, true_and]
    refine callD_pure (args' := [treeD a, .lit (.int .i64 (IntKind.i64.wrap (0 - min a.num b.num)))]) (tree_lift a _) (by rw [← treeD_eq a]; simp only [List.map_cons, List.map_nil, erase_tree, erase_lit]) (by simp only [pureL, pure_tree, pureD, and_true]) ?_
    simp only [go_sem, reduceAdd, reduceSub, reduceMul, reduceLT, reduceLeDiff, ↓reduceIte, reduceCtorEq, reduceEqDiff, reduceToNat, Int.reduceLT, reduceLE, reduceEq, nrm_tree, sh_tree, true_and]
    refine callD_pure (args' := [treeD b, .lit (.int .i64 (IntKind.i64.wrap (0 - min a.num b.num)))]) (tree_lift b _) (by rw [← treeD_eq b]; simp only [List.map_cons, List.map_nil, erase_tree, erase_lit]) (by simp only [pureL, pure_tree, pureD, and_true]) ?_
    simp only [go_sem, reduceAdd, reduceSub, reduceMul, reduceLT, reduceLeDiff, ↓reduceIte, reduceCtorEq, reduceEqDiff, reduceToNat, Int.reduceLT, reduceLE, reduceEq, nrm_tree, sh_tree, true_and]
    refine callD_pure (args' := [.lit (.int .i64 (IntKind.i64.wrap (n + min a.num b.num))), treeD (liftT a (IntKind.i64.wrap (0 - min a.num b.num))), treeD (liftT b (IntKind.i64.wrap (0 - min a.num b.num)))]) (tree_inner _ _ _) (by first | rfl | (simp only [go_sem, erase_tree, pure_tree]; done)) (by first | (simp only [go_sem, erase_tree, pure_tree]; done) | (simp [pureL, pureD]; done)) ?_
    simp only [go_sem, reduceAdd, reduceSub, reduceMul, reduceLT, reduceLeDiff, ↓reduceIte, reduceCtorEq, reduceEqDiff, reduceToNat, Int.reduceLT, reduceLE, reduceEq, nrm_tree, sh_tree, true_and, and_true, erase_tree, pureR_tree]
  | true =>
  simp only [go_sem, reduceAdd, reduceSub, reduceMul, reduceLT, reduceLeDiff, ↓reduceIte, reduceCtorEq, reduceEqDiff, reduceToNat, Int.reduceLT, reduceLE, reduceEq, List.length_map, zero_len, Bool.true_and]
  cases h3 : decide (a.num = b.num) with
  | false =>
    simp only [Bool.false_and, Bool.false_eq_true, if_false]
    simp only [go_sem, reduceAdd, reduceSub, reduceMul, reduceLT, reduceLeDiff, ↓reduceIte, reduceCtorEq, reduceEqDiff, reduceToNat, Int.reduceLT, reduceLE, reduceEq, List.length_map, zero_len]
    refine .inl ⟨by kernel_rfl, ?_⟩
    try simp only [go_sem, reduceAdd, reduceSub, reduceMul, reduceLT, reduceLeDiff, ↓reduceIte, reduceCtorEq, reduceEqDiff, reduceToNat, Int.reduceLT, reduceLE, reduceEq, nrm_tree, sh_tree, true_and]
    refine callD_pure (args' := [treeD a, .lit (.int .i64 (IntKind.i64.wrap (0 - min a.num b.num)))]) (tree_lift a _) (by rw [← treeD_eq a]; simp only [List.map_cons, List.map_nil, erase_tree, erase_lit]) (by simp only [pureL, pure_tree, pureD, and_true]) ?_
    simp only [go_sem, reduceAdd, reduceSub, reduceMul, reduceLT, reduceLeDiff, ↓reduceIte, reduceCtorEq, reduceEqDiff, reduceToNat, Int.reduceLT, reduceLE, reduceEq, nrm_tree, sh_tree, true_and]
    refine callD_pure (args' := [treeD b, .lit (.int .i64 (IntKind.i64.wrap (0 - min a.num b.num)))]) (tree_lift b _) (by rw [← treeD_eq b]; simp only [List.map_cons, List.map_nil, erase_tree, erase_lit]) (by simp only [pureL, pure_tree, pureD, and_true]) ?_
    simp only [go_sem, reduceAdd, reduceSub, reduceMul, reduceLT, reduceLeDiff, ↓reduceIte, reduceCtorEq, reduceEqDiff, reduceToNat, Int.reduceLT, reduceLE, reduceEq, nrm_tree, sh_tree, true_and]
    refine callD_pure (args' := [.lit (.int .i64 (IntKind.i64.wrap (n + min a.num b.num))), treeD (liftT a (IntKind.i64.wrap (0 - min a.num b.num))), treeD (liftT b (IntKind.i64.wrap (0 - min a.num b.num)))]) (tree_inner _ _ _) (by first | rfl | (simp only [go_sem, erase_tree, pure_tree]; done)) (by first | (simp only [go_sem, erase_tree, pure_tree]; done) | (simp [pureL, pureD]; done)) ?_
    simp only [go_sem, reduceAdd, reduceSub, reduceMul, reduceLT, reduceLeDiff, ↓reduceIte, reduceCtorEq, reduceEqDiff, reduceToNat, Int.reduceLT, reduceLE, reduceEq, nrm_tree, sh_tree, true_and, and_true, erase_tree, pureR_tree]
  | true =>
    simp only [go_sem, reduceAdd, reduceSub, reduceMul, reduceLT, reduceLeDiff, ↓reduceIte, reduceCtorEq, reduceEqDiff, reduceToNat, Int.reduceLT, reduceLE, reduceEq, if_true]
    refine callK_pure (tree_leaf _) (by first | rfl | (simp only [go_sem]; done)) (by first | (simp only [go_sem]; done) | (simp [pureL, pureD]; done)) ?_
    simp only [go_sem, reduceAdd, reduceSub, reduceMul, reduceLT, reduceLeDiff, ↓reduceIte, reduceCtorEq, reduceEqDiff, reduceToNat, Int.reduceLT, reduceLE, reduceEq, nrm_tree, sh_tree, true_and, and_true, erase_tree, pureR_tree]
def normE : Nat → TreeM → TreeM
  | 0, t => t
  | q + 1, .nd n ks => match ks with
    | [a, b] => nodeT n (normE q a) (normE q b)
    | _ => .nd n []
theorem treeOk_none (n : Int) : treeOk (.nd n []) := by rw [treeOk]; exact ⟨by simp, by rw [treesOk]; trivial⟩
theorem liftT_ok {t : TreeM} (n : Int) (h : treeOk t) : treeOk (liftT t n) := by
  cases t with
  | nd m ks => rw [treeOk] at h; rw [liftT, treeOk]; exact h
theorem nodeT_ok {a b : TreeM} (n : Int) (h1 : treeOk a) (h2 : treeOk b) : treeOk (nodeT n a b) := by
  have hml : 2 ≤ maxLen := by decide +kernel
  unfold nodeT
  split
  · exact treeOk_none _
  · rw [treeOk]; exact ⟨by simpa using hml, by rw [treesOk, treesOk, treesOk]; exact ⟨liftT_ok _ h1, liftT_ok _ h2, trivial⟩⟩
theorem normE_ok : ∀ (q : Nat) (t : TreeM), treeOk t → treeOk (normE q t)
  | 0, _, h => h
  | q + 1, .nd n [a, b], h => by
    obtain ⟨_, hk⟩ := treeOk_kids h
    rw [normE]
    exact nodeT_ok n (normE_ok q a (hk a (by simp [TreeM.kids]))) (normE_ok q b (hk b (by simp [TreeM.kids])))
  | q + 1, .nd n [], h => treeOk_none n
  | q + 1, .nd n [a], h => treeOk_none n
  | q + 1, .nd n (a :: b :: c :: r), h => treeOk_none n
set_option maxRecDepth 8000 in
set_option maxHeartbeats 4000000 in
theorem normE_any : ∀ (q : Nat) (t : TreeM), twoN q t → PSpec Tryz.prog CT 140 [treeD t] (· = treeD (normE q t))
  | 0, _, h => absurd h (by simp [twoN])
  | q + 1, .nd n [], h => by
    refine PSpec.of hT Tryz.func140 rfl (by kernel_rfl) rfl rfl ?_
    rw [treeD_none]
    simp only [Tryz.f140, go_sem, reduceAdd, reduceSub, reduceMul, reduceLT, reduceLeDiff, ↓reduceIte, reduceCtorEq, reduceEqDiff, reduceToNat, Int.reduceLT, reduceLE, reduceEq, List.length_nil, Int.natCast_zero, Int.cast_ofNat_Int, decide_true]
    refine callK_pure (tree_leaf n) (by first | rfl | (simp only [go_sem]; done)) (by first | (simp only [go_sem]; done) | (simp [pureL, pureD]; done)) ?_
    simp only [go_sem, reduceAdd, reduceSub, reduceMul, reduceLT, reduceLeDiff, ↓reduceIte, reduceCtorEq, reduceEqDiff, reduceToNat, Int.reduceLT, reduceLE, reduceEq, nrm_tree, sh_tree, true_and, and_true, erase_tree, pure_tree, pureR_tree, normE]
  | q + 1, .nd n [a, b], h => by
    obtain ⟨h1, h2⟩ := h
    have na := normE_any q a h1
    have nb := normE_any q b h2
    refine PSpec.of hT Tryz.func140 rfl (by kernel_rfl) rfl rfl ?_
    rw [treeD_two]
    simp only [Tryz.f140, go_sem, reduceAdd, reduceSub, reduceMul, reduceLT, reduceLeDiff, ↓reduceIte, reduceCtorEq, reduceEqDiff, reduceToNat, Int.reduceLT, reduceLE, reduceEq, List.length_cons, List.length_nil, Int.natCast_zero, Int.cast_ofNat_Int]
    rw [normE]
    generalize normE q a = x at *
    generalize normE q b = y at *
    refine .inl ⟨by kernel_rfl, ?_⟩
    simp only [go_sem, reduceAdd, reduceSub, reduceMul, reduceLT, reduceLeDiff, ↓reduceIte, reduceCtorEq, reduceEqDiff, reduceToNat, Int.reduceLT, reduceLE, reduceEq, List.length_cons, List.length_nil, nrm_tree, sh_tree, true_and]
    refine callD_pure (args' := [treeD a]) na (by first | rfl | (simp only [go_sem, erase_tree, pure_tree]; done)) (by first | (simp only [go_sem, erase_tree, pure_tree]; done) | (simp [pureL, pureD]; done)) ?_
    simp only [go_sem, reduceAdd, reduceSub, reduceMul, reduceLT, reduceLeDiff, ↓reduceIte, reduceCtorEq, reduceEqDiff, reduceToNat, Int.reduceLT, reduceLE, reduceEq, List.length_cons, List.length_nil, nrm_tree, sh_tree, true_and]
    refine callD_pure (args' := [treeD b]) nb (by first | rfl | (simp only [go_sem, erase_tree, pure_tree]; done)) (by first | (simp only [go_sem, erase_tree, pure_tree]; done) | (simp [pureL, pureD]; done)) ?_
    simp only [go_sem, reduceAdd, reduceSub, reduceMul, reduceLT, reduceLeDiff, ↓reduceIte, reduceCtorEq, reduceEqDiff, reduceToNat, Int.reduceLT, reduceLE, reduceEq, nrm_tree, sh_tree, true_and]
    refine callD_pure (args' := [.lit (.int .i64 n), treeD x, treeD y]) (tree_node n x y) (by first | rfl | (simp only [go_sem, erase_tree, pure_tree]; done)) (by first | (simp only [go_sem, erase_tree, pure_tree]; done) | (simp [pureL, pureD]; done)) ?_
    simp only [go_sem, reduceAdd, reduceSub, reduceMul, reduceLT, reduceLeDiff, ↓reduceIte, reduceCtorEq, reduceEqDiff, reduceToNat, Int.reduceLT, reduceLE, reduceEq, nrm_tree, sh_tree, true_and, and_true, erase_tree, pureR_tree]
  | q + 1, .nd n [a], h => by simp [twoN] at h
  | q + 1, .nd n (a :: b :: c :: r), h => by simp [twoN] at h
set_option maxRecDepth 8000 in
set_option maxHeartbeats 2000000 in
theorem ref05_check (t : TreeM) (h : treeOk t) : ∃ c : Bool, PSpec Tryz.prog CT 114 [treeD t] (· = .bool c) := by
  obtain ⟨q, hq⟩ : ∃ q, SizeOf.sizeOf t < q := ⟨_, Nat.lt_succ_self _⟩
  refine ⟨roughE q t 16 1073741824 && sameT (normE q t) t, ?_⟩
  refine PSpec.of hT Tryz.func114 rfl (by kernel_rfl) rfl rfl ?_
  simp only [Tryz.f114, go_sem, reduceAdd, reduceSub, reduceMul, reduceLT, reduceLeDiff, ↓reduceIte, reduceCtorEq, reduceEqDiff, reduceToNat, Int.reduceLT, reduceLE, reduceEq, nrm_tree, sh_tree, true_and]
  refine .inl ⟨by kernel_rfl, ?_⟩
  try simp only [go_sem, reduceAdd, reduceSub, reduceMul, reduceLT, reduceLeDiff, ↓reduceIte, reduceCtorEq, reduceEqDiff, reduceToNat, Int.reduceLT, reduceLE, reduceEq, nrm_tree, sh_tree, true_and]
  refine callD_pure (args' := [treeD t, .lit (.int .i64 16), .lit (.int .i64 1073741824)]) (roughE_any q t 16 1073741824 hq) (by first | rfl | (simp only [go_sem, erase_tree, pure_tree]; done)) (by first | (simp only [go_sem, erase_tree, pure_tree]; done) | (simp [pureL, pureD]; done)) ?_
  cases h1 : roughE q t 16 1073741824 with
  | false => simp only [go_sem, reduceAdd, reduceSub, reduceMul, reduceLT, reduceLeDiff, ↓reduceIte, reduceCtorEq, reduceEqDiff, reduceToNat, Int.reduceLT, reduceLE, reduceEq, Bool.false_and]
  | true =>
    simp only [go_sem, reduceAdd, reduceSub, reduceMul, reduceLT, reduceLeDiff, ↓reduceIte, reduceCtorEq, reduceEqDiff, reduceToNat, Int.reduceLT, reduceLE, reduceEq, Bool.true_and, nrm_tree, sh_tree, true_and]
    refine callD_pure (args' := [treeD t]) (normE_any q t (roughE_two _ _ _ _ h1)) (by first | rfl | (simp only [go_sem, erase_tree, pure_tree]; done)) (by first | (simp only [go_sem, erase_tree, pure_tree]; done) | (simp [pureL, pureD]; done)) ?_
    simp only [go_sem, reduceAdd, reduceSub, reduceMul, reduceLT, reduceLeDiff, ↓reduceIte, reduceCtorEq, reduceEqDiff, reduceToNat, Int.reduceLT, reduceLE, reduceEq, nrm_tree, sh_tree, true_and]
    refine callD_pure (args' := [treeD (normE q t), treeD t]) (ref04_same_any _ t (normE_ok _ t h)) (by first | rfl | (simp only [go_sem, erase_tree, pure_tree]; done)) (by first | (simp only [go_sem, erase_tree, pure_tree]; done) | (simp [pureL, pureD]; done)) ?_
    simp only [go_sem, reduceAdd, reduceSub, reduceMul, reduceLT, reduceLeDiff, ↓reduceIte, reduceCtorEq, reduceEqDiff, reduceToNat, Int.reduceLT, reduceLE, reduceEq]
theorem ref06_check_any (a b : TreeM) (ha : treeOk a) (hb : treeOk b) : ∃ c : Bool, PSpec Tryz.prog CT 84 [.agg [treeD a, treeD b]] (· = .bool c) := by
  obtain ⟨c1, h1⟩ := ref04_check a ha
  obtain ⟨c2, h2⟩ := ref05_check b hb
  refine ⟨c1 && c2, ?_⟩
  refine PSpec.of hT Tryz.func84 rfl (by kernel_rfl) rfl rfl ?_
  simp only [Tryz.f84, go_sem, reduceAdd, reduceSub, reduceMul, reduceLT, reduceLeDiff, ↓reduceIte, reduceCtorEq, reduceEqDiff, reduceToNat, Int.reduceLT, reduceLE, reduceEq, sh_tree, nrm_tree, true_and, and_true]
  refine callK_pure (args' := [treeD a]) h1 (by first | rfl | (simp only [go_sem, erase_tree, pure_tree]; done)) (by first | (simp only [go_sem, erase_tree, pure_tree]; done) | (simp [pureL, pureD]; done)) ?_
  cases c1 with
  | false => simp only [go_sem, reduceAdd, reduceSub, reduceMul, reduceLT, reduceLeDiff, ↓reduceIte, reduceCtorEq, reduceEqDiff, reduceToNat, Int.reduceLT, reduceLE, reduceEq, Bool.false_and]
  | true =>
    simp only [go_sem, reduceAdd, reduceSub, reduceMul, reduceLT, reduceLeDiff, ↓reduceIte, reduceCtorEq, reduceEqDiff, reduceToNat, Int.reduceLT, reduceLE, reduceEq, nrm_tree, sh_tree, true_and, Bool.true_and]
    refine callK_pure (args' := [treeD b]) h2 (by first | rfl | (simp only [go_sem, erase_tree, pure_tree]; done)) (by first | (simp only [go_sem, erase_tree, pure_tree]; done) | (simp [pureL, pureD]; done)) ?_
    simp only [go_sem, reduceAdd, reduceSub, reduceMul, reduceLT, reduceLeDiff, ↓reduceIte, reduceCtorEq, reduceEqDiff, reduceToNat, Int.reduceLT, reduceLE, reduceEq]
theorem ref06_same_any (a b c d : TreeM) (ha : treeOk a) (hb : treeOk b) : PSpec Tryz.prog CT 73 [.agg [treeD a, treeD b], .agg [treeD c, treeD d]] (· = .bool (sameT a c && sameT b d)) := by
  refine PSpec.of hT Tryz.func73 rfl (by kernel_rfl) rfl rfl ?_
  simp only [Tryz.f73, go_sem, reduceAdd, reduceSub, reduceMul, reduceLT, reduceLeDiff, ↓reduceIte, reduceCtorEq, reduceEqDiff, reduceToNat, Int.reduceLT, reduceLE, reduceEq, sh_tree, nrm_tree, true_and, and_true]
  refine callK_pure (args' := [treeD a, treeD c]) (ref04_same_any a c ha) (by first | rfl | (simp only [go_sem, erase_tree, pure_tree]; done)) (by first | (simp only [go_sem, erase_tree, pure_tree]; done) | (simp [pureL, pureD]; done)) ?_
  cases h1 : sameT a c with
  | false => simp only [go_sem, reduceAdd, reduceSub, reduceMul, reduceLT, reduceLeDiff, ↓reduceIte, reduceCtorEq, reduceEqDiff, reduceToNat, Int.reduceLT, reduceLE, reduceEq, Bool.false_and]
  | true =>
    simp only [go_sem, reduceAdd, reduceSub, reduceMul, reduceLT, reduceLeDiff, ↓reduceIte, reduceCtorEq, reduceEqDiff, reduceToNat, Int.reduceLT, reduceLE, reduceEq, nrm_tree, sh_tree, true_and, Bool.true_and]
    refine callK_pure (args' := [treeD b, treeD d]) (ref04_same_any b d hb) (by first | rfl | (simp only [go_sem, erase_tree, pure_tree]; done)) (by first | (simp only [go_sem, erase_tree, pure_tree]; done) | (simp [pureL, pureD]; done)) ?_
    simp only [go_sem, reduceAdd, reduceSub, reduceMul, reduceLT, reduceLeDiff, ↓reduceIte, reduceCtorEq, reduceEqDiff, reduceToNat, Int.reduceLT, reduceLE, reduceEq]
end Go.Ab
