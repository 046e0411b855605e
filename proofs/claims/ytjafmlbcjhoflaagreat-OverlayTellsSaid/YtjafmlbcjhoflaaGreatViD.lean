/- Views: what they become. Conditions: none. -/
import Derived.Test.YtjafmlbcjhoflaaGreatViB
open Nat (reduceAdd reduceSub reduceMul reduceLT reduceLeDiff reduceEqDiff)
open Int (reduceToNat reduceLE reduceEq)
set_option linter.unusedSimpArgs false
namespace Go.Ab
open Go.Proofs

set_option maxRecDepth 8000 in
theorem view_known (v : ViewR) (p d : Int) (ha : v.act.length < 1000000) (hp : v.pas.length < 1000000) (hs : v.pas.Pairwise (· < ·)) : PSpec Tryz.prog CT 116 [viewD v, .lit (.int .i64 p), .lit (.int .i64 d)] (· = viewD (knownV v p d)) := by
  refine PSpec.of hT Tryz.func116 rfl (by kernel_rfl) rfl rfl ?_
  simp only [Tryz.f116, go_sem, reduceAdd, reduceSub, reduceMul, reduceLT, reduceLeDiff, ↓reduceIte, reduceCtorEq, reduceEqDiff, reduceToNat, Int.reduceLT, reduceLE, reduceEq]
  have q1 := dropL_strict hs (pickI v.pas [] d)
  have q2 := dropL_len v.pas (pickI v.pas [] d)
  (repeat' (first | ((refine guardK_split (fun hg => ?_) (fun hg => ?_)) <;> (try simp only [go_sem, reduceAdd, reduceSub, reduceMul, reduceLT, reduceLeDiff, ↓reduceIte, reduceCtorEq, reduceEqDiff, reduceToNat, Int.reduceLT, reduceLE, reduceEq, hg])) | ((refine condK_split (fun hg => ?_) (fun hg => ?_)) <;> (try simp only [go_sem, reduceAdd, reduceSub, reduceMul, reduceLT, reduceLeDiff, ↓reduceIte, reduceCtorEq, reduceEqDiff, reduceToNat, Int.reduceLT, reduceLE, reduceEq, hg])) | ((first | refine callK_pure (view_has v.act p (by omega)) ?_ ?_ ?_ | refine callD_pure (view_has v.act p (by omega)) ?_ ?_ ?_); (iterate 2 (focus (first | rfl | (simp only [go_sem]; done)))); try simp only [go_sem, reduceAdd, reduceSub, reduceMul, reduceLT, reduceLeDiff, ↓reduceIte, reduceCtorEq, reduceEqDiff, reduceToNat, Int.reduceLT, reduceLE, reduceEq]) | ((first | refine callK_pure (view_has v.pas p (by omega)) ?_ ?_ ?_ | refine callD_pure (view_has v.pas p (by omega)) ?_ ?_ ?_); (iterate 2 (focus (first | rfl | (simp only [go_sem]; done)))); try simp only [go_sem, reduceAdd, reduceSub, reduceMul, reduceLT, reduceLeDiff, ↓reduceIte, reduceCtorEq, reduceEqDiff, reduceToNat, Int.reduceLT, reduceLE, reduceEq]) | ((first | refine callK_pure (view_pick v.pas [] d (by omega) (by decide)) ?_ ?_ ?_ | refine callD_pure (view_pick v.pas [] d (by omega) (by decide)) ?_ ?_ ?_); (iterate 2 (focus (first | rfl | (simp only [go_sem]; done)))); try simp only [go_sem, reduceAdd, reduceSub, reduceMul, reduceLT, reduceLeDiff, ↓reduceIte, reduceCtorEq, reduceEqDiff, reduceToNat, Int.reduceLT, reduceLE, reduceEq]) | ((first | refine callK_pure (view_without v.pas (pickI v.pas [] d) (by omega) hs) ?_ ?_ ?_ | refine callD_pure (view_without v.pas (pickI v.pas [] d) (by omega) hs) ?_ ?_ ?_); (iterate 2 (focus (first | rfl | (simp only [go_sem]; done)))); try simp only [go_sem, reduceAdd, reduceSub, reduceMul, reduceLT, reduceLeDiff, ↓reduceIte, reduceCtorEq, reduceEqDiff, reduceToNat, Int.reduceLT, reduceLE, reduceEq]) | ((first | refine callK_pure (view_with (dropL v.pas (pickI v.pas [] d)) p (by omega) q1) ?_ ?_ ?_ | refine callD_pure (view_with (dropL v.pas (pickI v.pas [] d)) p (by omega) q1) ?_ ?_ ?_); (iterate 2 (focus (first | rfl | (simp only [go_sem]; done)))); try simp only [go_sem, reduceAdd, reduceSub, reduceMul, reduceLT, reduceLeDiff, ↓reduceIte, reduceCtorEq, reduceEqDiff, reduceToNat, Int.reduceLT, reduceLE, reduceEq]) | ((first | refine callK_pure (view_with v.pas p (by omega) hs) ?_ ?_ ?_ | refine callD_pure (view_with v.pas p (by omega) hs) ?_ ?_ ?_); (iterate 2 (focus (first | rfl | (simp only [go_sem]; done)))); try simp only [go_sem, reduceAdd, reduceSub, reduceMul, reduceLT, reduceLeDiff, ↓reduceIte, reduceCtorEq, reduceEqDiff, reduceToNat, Int.reduceLT, reduceLE, reduceEq]) | ((refine Or.inl ⟨by kernel_rfl, ?_⟩) <;> (try simp only [go_sem, reduceAdd, reduceSub, reduceMul, reduceLT, reduceLeDiff, ↓reduceIte, reduceCtorEq, reduceEqDiff, reduceToNat, Int.reduceLT, reduceLE, reduceEq])))) <;> (first | done | (simp_all [knownV]; done) | ((have h8 : 8 ≤ v.pas.length := by (have := of_decide_eq_true hg; omega)); clear hg; simp_all [knownV]; done) | ((have h8 : ¬ 8 ≤ v.pas.length := by (have := of_decide_eq_false hg; omega)); clear hg; simp_all [knownV]; rw [if_neg (by omega)]))

set_option maxRecDepth 8000 in
theorem view_know (v : ViewR) (p d : Int) (ha : v.act.length < 1000000) (hp : v.pas.length < 1000000) : PSpec Tryz.prog CT 93 [viewD v, .lit (.int .i64 p), .lit (.int .i64 d)] (· = viewD (knowV v p d)) := by
  refine PSpec.of hT Tryz.func93 rfl (by kernel_rfl) rfl rfl ?_
  simp only [Tryz.f93, go_sem, reduceAdd, reduceSub, reduceMul, reduceLT, reduceLeDiff, ↓reduceIte, reduceCtorEq, reduceEqDiff, reduceToNat, Int.reduceLT, reduceLE, reduceEq]
  cases hcv : checkV v with
  | false => (repeat' (first | ((refine guardK_split (fun hg => ?_) (fun hg => ?_)) <;> (try simp only [go_sem, reduceAdd, reduceSub, reduceMul, reduceLT, reduceLeDiff, ↓reduceIte, reduceCtorEq, reduceEqDiff, reduceToNat, Int.reduceLT, reduceLE, reduceEq, hg])) | ((refine condK_split (fun hg => ?_) (fun hg => ?_)) <;> (try simp only [go_sem, reduceAdd, reduceSub, reduceMul, reduceLT, reduceLeDiff, ↓reduceIte, reduceCtorEq, reduceEqDiff, reduceToNat, Int.reduceLT, reduceLE, reduceEq, hg])) | ((first | refine callK_pure (view_other v p) ?_ ?_ ?_ | refine callD_pure (view_other v p) ?_ ?_ ?_); (iterate 2 (focus (first | rfl | (simp only [go_sem]; done)))); try simp only [go_sem, reduceAdd, reduceSub, reduceMul, reduceLT, reduceLeDiff, ↓reduceIte, reduceCtorEq, reduceEqDiff, reduceToNat, Int.reduceLT, reduceLE, reduceEq]) | ((first | refine callK_pure (view_check v (by omega) (by omega)) ?_ ?_ ?_ | refine callD_pure (view_check v (by omega) (by omega)) ?_ ?_ ?_); (iterate 2 (focus (first | rfl | (simp only [go_sem]; done)))); try simp only [go_sem, reduceAdd, reduceSub, reduceMul, reduceLT, reduceLeDiff, ↓reduceIte, reduceCtorEq, reduceEqDiff, reduceToNat, Int.reduceLT, reduceLE, reduceEq]) | ((refine Or.inl ⟨by kernel_rfl, ?_⟩) <;> (try simp only [go_sem, reduceAdd, reduceSub, reduceMul, reduceLT, reduceLeDiff, ↓reduceIte, reduceCtorEq, reduceEqDiff, reduceToNat, Int.reduceLT, reduceLE, reduceEq])))) <;> (first | done | (simp_all [knowV]; done))
  | true =>
    have ok := (checkV_iff v).1 hcv
    (repeat' (first | ((refine guardK_split (fun hg => ?_) (fun hg => ?_)) <;> (try simp only [go_sem, reduceAdd, reduceSub, reduceMul, reduceLT, reduceLeDiff, ↓reduceIte, reduceCtorEq, reduceEqDiff, reduceToNat, Int.reduceLT, reduceLE, reduceEq, hg])) | ((refine condK_split (fun hg => ?_) (fun hg => ?_)) <;> (try simp only [go_sem, reduceAdd, reduceSub, reduceMul, reduceLT, reduceLeDiff, ↓reduceIte, reduceCtorEq, reduceEqDiff, reduceToNat, Int.reduceLT, reduceLE, reduceEq, hg])) | ((first | refine callK_pure (view_other v p) ?_ ?_ ?_ | refine callD_pure (view_other v p) ?_ ?_ ?_); (iterate 2 (focus (first | rfl | (simp only [go_sem]; done)))); try simp only [go_sem, reduceAdd, reduceSub, reduceMul, reduceLT, reduceLeDiff, ↓reduceIte, reduceCtorEq, reduceEqDiff, reduceToNat, Int.reduceLT, reduceLE, reduceEq]) | ((first | refine callK_pure (view_check v (by omega) (by omega)) ?_ ?_ ?_ | refine callD_pure (view_check v (by omega) (by omega)) ?_ ?_ ?_); (iterate 2 (focus (first | rfl | (simp only [go_sem]; done)))); try simp only [go_sem, reduceAdd, reduceSub, reduceMul, reduceLT, reduceLeDiff, ↓reduceIte, reduceCtorEq, reduceEqDiff, reduceToNat, Int.reduceLT, reduceLE, reduceEq]) | ((first | refine callK_pure (view_known v p d ha hp ok.p1) ?_ ?_ ?_ | refine callD_pure (view_known v p d ha hp ok.p1) ?_ ?_ ?_); (iterate 2 (focus (first | rfl | (simp only [go_sem]; done)))); try simp only [go_sem, reduceAdd, reduceSub, reduceMul, reduceLT, reduceLeDiff, ↓reduceIte, reduceCtorEq, reduceEqDiff, reduceToNat, Int.reduceLT, reduceLE, reduceEq]) | ((refine Or.inl ⟨by kernel_rfl, ?_⟩) <;> (try simp only [go_sem, reduceAdd, reduceSub, reduceMul, reduceLT, reduceLeDiff, ↓reduceIte, reduceCtorEq, reduceEqDiff, reduceToNat, Int.reduceLT, reduceLE, reduceEq])))) <;> (first | done | (simp_all [knowV]; done))

set_option maxRecDepth 8000 in
theorem view_cooled (v : ViewR) (p d : Int) (ha : v.act.length < 1000000) (hp : v.pas.length < 1000000) (hs : v.pas.Pairwise (· < ·)) (hs2 : v.act.Pairwise (· < ·)) : PSpec Tryz.prog CT 92 [viewD v, .lit (.int .i64 p), .lit (.int .i64 d)] (· = viewD (cooledV v p d)) := by
  refine PSpec.of hT Tryz.func92 rfl (by kernel_rfl) rfl rfl ?_
  simp only [Tryz.f92, go_sem, reduceAdd, reduceSub, reduceMul, reduceLT, reduceLeDiff, ↓reduceIte, reduceCtorEq, reduceEqDiff, reduceToNat, Int.reduceLT, reduceLE, reduceEq]
  have q2 := dropL_len v.act p
  (repeat' (first | ((refine guardK_split (fun hg => ?_) (fun hg => ?_)) <;> (try simp only [go_sem, reduceAdd, reduceSub, reduceMul, reduceLT, reduceLeDiff, ↓reduceIte, reduceCtorEq, reduceEqDiff, reduceToNat, Int.reduceLT, reduceLE, reduceEq, hg])) | ((refine condK_split (fun hg => ?_) (fun hg => ?_)) <;> (try simp only [go_sem, reduceAdd, reduceSub, reduceMul, reduceLT, reduceLeDiff, ↓reduceIte, reduceCtorEq, reduceEqDiff, reduceToNat, Int.reduceLT, reduceLE, reduceEq, hg])) | ((first | refine callK_pure (view_without v.act p (by omega) hs2) ?_ ?_ ?_ | refine callD_pure (view_without v.act p (by omega) hs2) ?_ ?_ ?_); (iterate 2 (focus (first | rfl | (simp only [go_sem]; done)))); try simp only [go_sem, reduceAdd, reduceSub, reduceMul, reduceLT, reduceLeDiff, ↓reduceIte, reduceCtorEq, reduceEqDiff, reduceToNat, Int.reduceLT, reduceLE, reduceEq]) | ((first | refine callK_pure (view_known ⟨v.self, dropL v.act p, v.pas⟩ p d (by simp only; omega) hp hs) ?_ ?_ ?_ | refine callD_pure (view_known ⟨v.self, dropL v.act p, v.pas⟩ p d (by simp only; omega) hp hs) ?_ ?_ ?_); (iterate 2 (focus (first | rfl | (simp only [go_sem]; done)))); try simp only [go_sem, reduceAdd, reduceSub, reduceMul, reduceLT, reduceLeDiff, ↓reduceIte, reduceCtorEq, reduceEqDiff, reduceToNat, Int.reduceLT, reduceLE, reduceEq]) | ((refine Or.inl ⟨by kernel_rfl, ?_⟩) <;> (try simp only [go_sem, reduceAdd, reduceSub, reduceMul, reduceLT, reduceLeDiff, ↓reduceIte, reduceCtorEq, reduceEqDiff, reduceToNat, Int.reduceLT, reduceLE, reduceEq])))) <;> (first | done | rfl)

set_option maxRecDepth 8000 in
theorem view_cool (v : ViewR) (p d : Int) (ha : v.act.length < 1000000) (hp : v.pas.length < 1000000) : PSpec Tryz.prog CT 94 [viewD v, .lit (.int .i64 p), .lit (.int .i64 d)] (· = viewD (coolV v p d)) := by
  refine PSpec.of hT Tryz.func94 rfl (by kernel_rfl) rfl rfl ?_
  simp only [Tryz.f94, go_sem, reduceAdd, reduceSub, reduceMul, reduceLT, reduceLeDiff, ↓reduceIte, reduceCtorEq, reduceEqDiff, reduceToNat, Int.reduceLT, reduceLE, reduceEq]
  cases hcv : checkV v with
  | false => (repeat' (first | ((refine guardK_split (fun hg => ?_) (fun hg => ?_)) <;> (try simp only [go_sem, reduceAdd, reduceSub, reduceMul, reduceLT, reduceLeDiff, ↓reduceIte, reduceCtorEq, reduceEqDiff, reduceToNat, Int.reduceLT, reduceLE, reduceEq, hg])) | ((refine condK_split (fun hg => ?_) (fun hg => ?_)) <;> (try simp only [go_sem, reduceAdd, reduceSub, reduceMul, reduceLT, reduceLeDiff, ↓reduceIte, reduceCtorEq, reduceEqDiff, reduceToNat, Int.reduceLT, reduceLE, reduceEq, hg])) | ((first | refine callK_pure (view_has v.act p (by omega)) ?_ ?_ ?_ | refine callD_pure (view_has v.act p (by omega)) ?_ ?_ ?_); (iterate 2 (focus (first | rfl | (simp only [go_sem]; done)))); try simp only [go_sem, reduceAdd, reduceSub, reduceMul, reduceLT, reduceLeDiff, ↓reduceIte, reduceCtorEq, reduceEqDiff, reduceToNat, Int.reduceLT, reduceLE, reduceEq]) | ((first | refine callK_pure (view_check v (by omega) (by omega)) ?_ ?_ ?_ | refine callD_pure (view_check v (by omega) (by omega)) ?_ ?_ ?_); (iterate 2 (focus (first | rfl | (simp only [go_sem]; done)))); try simp only [go_sem, reduceAdd, reduceSub, reduceMul, reduceLT, reduceLeDiff, ↓reduceIte, reduceCtorEq, reduceEqDiff, reduceToNat, Int.reduceLT, reduceLE, reduceEq]) | ((refine Or.inl ⟨by kernel_rfl, ?_⟩) <;> (try simp only [go_sem, reduceAdd, reduceSub, reduceMul, reduceLT, reduceLeDiff, ↓reduceIte, reduceCtorEq, reduceEqDiff, reduceToNat, Int.reduceLT, reduceLE, reduceEq])))) <;> (first | done | (simp_all [coolV]; done))
  | true =>
    have ok := (checkV_iff v).1 hcv
    (repeat' (first | ((refine guardK_split (fun hg => ?_) (fun hg => ?_)) <;> (try simp only [go_sem, reduceAdd, reduceSub, reduceMul, reduceLT, reduceLeDiff, ↓reduceIte, reduceCtorEq, reduceEqDiff, reduceToNat, Int.reduceLT, reduceLE, reduceEq, hg])) | ((refine condK_split (fun hg => ?_) (fun hg => ?_)) <;> (try simp only [go_sem, reduceAdd, reduceSub, reduceMul, reduceLT, reduceLeDiff, ↓reduceIte, reduceCtorEq, reduceEqDiff, reduceToNat, Int.reduceLT, reduceLE, reduceEq, hg])) | ((first | refine callK_pure (view_has v.act p (by omega)) ?_ ?_ ?_ | refine callD_pure (view_has v.act p (by omega)) ?_ ?_ ?_); (iterate 2 (focus (first | rfl | (simp only [go_sem]; done)))); try simp only [go_sem, reduceAdd, reduceSub, reduceMul, reduceLT, reduceLeDiff, ↓reduceIte, reduceCtorEq, reduceEqDiff, reduceToNat, Int.reduceLT, reduceLE, reduceEq]) | ((first | refine callK_pure (view_check v (by omega) (by omega)) ?_ ?_ ?_ | refine callD_pure (view_check v (by omega) (by omega)) ?_ ?_ ?_); (iterate 2 (focus (first | rfl | (simp only [go_sem]; done)))); try simp only [go_sem, reduceAdd, reduceSub, reduceMul, reduceLT, reduceLeDiff, ↓reduceIte, reduceCtorEq, reduceEqDiff, reduceToNat, Int.reduceLT, reduceLE, reduceEq]) | ((first | refine callK_pure (view_cooled v p d ha hp ok.p1 ok.a1) ?_ ?_ ?_ | refine callD_pure (view_cooled v p d ha hp ok.p1 ok.a1) ?_ ?_ ?_); (iterate 2 (focus (first | rfl | (simp only [go_sem]; done)))); try simp only [go_sem, reduceAdd, reduceSub, reduceMul, reduceLT, reduceLeDiff, ↓reduceIte, reduceCtorEq, reduceEqDiff, reduceToNat, Int.reduceLT, reduceLE, reduceEq]) | ((refine Or.inl ⟨by kernel_rfl, ?_⟩) <;> (try simp only [go_sem, reduceAdd, reduceSub, reduceMul, reduceLT, reduceLeDiff, ↓reduceIte, reduceCtorEq, reduceEqDiff, reduceToNat, Int.reduceLT, reduceLE, reduceEq])))) <;> (first | done | (simp_all [coolV]; done))

theorem coolV_know {v : ViewR} {p : Int} (d : Int) (h : checkV v = true) (hp : p ∈ v.act) : knowV { v with act := dropL v.act p } p d = cooledV v p d := by
  have ok := (checkV_iff v).1 h
  have h2 : checkV { v with act := dropL v.act p } = true := (checkV_iff _).2 (dropV_ok p ok)
  have h3 : otherV { v with act := dropL v.act p } p = true := by
    simp only [otherV, ok.a2 p hp, Bool.true_and, Bool.not_eq_true', decide_eq_false_iff_not]
    exact fun e => ok.sa (e ▸ hp)
  rw [knowV, h2, h3]; rfl
set_option maxRecDepth 8000 in
theorem view_forget (v : ViewR) (p : Int) (ha : v.act.length < 1000000) (hp : v.pas.length < 1000000) : PSpec Tryz.prog CT 53 [viewD v, .lit (.int .i64 p)] (· = viewD (forgetV v p)) := by
  refine PSpec.of hT Tryz.func53 rfl (by kernel_rfl) rfl rfl ?_
  simp only [Tryz.f53, go_sem, reduceAdd, reduceSub, reduceMul, reduceLT, reduceLeDiff, ↓reduceIte, reduceCtorEq, reduceEqDiff, reduceToNat, Int.reduceLT, reduceLE, reduceEq]
  cases hcv : checkV v with
  | false => (repeat' (first | ((refine guardK_split (fun hg => ?_) (fun hg => ?_)) <;> (try simp only [go_sem, reduceAdd, reduceSub, reduceMul, reduceLT, reduceLeDiff, ↓reduceIte, reduceCtorEq, reduceEqDiff, reduceToNat, Int.reduceLT, reduceLE, reduceEq, hg])) | ((refine condK_split (fun hg => ?_) (fun hg => ?_)) <;> (try simp only [go_sem, reduceAdd, reduceSub, reduceMul, reduceLT, reduceLeDiff, ↓reduceIte, reduceCtorEq, reduceEqDiff, reduceToNat, Int.reduceLT, reduceLE, reduceEq, hg])) | ((first | refine callK_pure (view_check v (by omega) (by omega)) ?_ ?_ ?_ | refine callD_pure (view_check v (by omega) (by omega)) ?_ ?_ ?_); (iterate 2 (focus (first | rfl | (simp only [go_sem]; done)))); try simp only [go_sem, reduceAdd, reduceSub, reduceMul, reduceLT, reduceLeDiff, ↓reduceIte, reduceCtorEq, reduceEqDiff, reduceToNat, Int.reduceLT, reduceLE, reduceEq]) | ((refine Or.inl ⟨by kernel_rfl, ?_⟩) <;> (try simp only [go_sem, reduceAdd, reduceSub, reduceMul, reduceLT, reduceLeDiff, ↓reduceIte, reduceCtorEq, reduceEqDiff, reduceToNat, Int.reduceLT, reduceLE, reduceEq])))) <;> (first | done | (simp_all [forgetV]; done))
  | true =>
    have ok := (checkV_iff v).1 hcv
    (repeat' (first | ((refine guardK_split (fun hg => ?_) (fun hg => ?_)) <;> (try simp only [go_sem, reduceAdd, reduceSub, reduceMul, reduceLT, reduceLeDiff, ↓reduceIte, reduceCtorEq, reduceEqDiff, reduceToNat, Int.reduceLT, reduceLE, reduceEq, hg])) | ((refine condK_split (fun hg => ?_) (fun hg => ?_)) <;> (try simp only [go_sem, reduceAdd, reduceSub, reduceMul, reduceLT, reduceLeDiff, ↓reduceIte, reduceCtorEq, reduceEqDiff, reduceToNat, Int.reduceLT, reduceLE, reduceEq, hg])) | ((first | refine callK_pure (view_check v (by omega) (by omega)) ?_ ?_ ?_ | refine callD_pure (view_check v (by omega) (by omega)) ?_ ?_ ?_); (iterate 2 (focus (first | rfl | (simp only [go_sem]; done)))); try simp only [go_sem, reduceAdd, reduceSub, reduceMul, reduceLT, reduceLeDiff, ↓reduceIte, reduceCtorEq, reduceEqDiff, reduceToNat, Int.reduceLT, reduceLE, reduceEq]) | ((first | refine callK_pure (view_without v.act p (by omega) ok.a1) ?_ ?_ ?_ | refine callD_pure (view_without v.act p (by omega) ok.a1) ?_ ?_ ?_); (iterate 2 (focus (first | rfl | (simp only [go_sem]; done)))); try simp only [go_sem, reduceAdd, reduceSub, reduceMul, reduceLT, reduceLeDiff, ↓reduceIte, reduceCtorEq, reduceEqDiff, reduceToNat, Int.reduceLT, reduceLE, reduceEq]) | ((first | refine callK_pure (view_without v.pas p (by omega) ok.p1) ?_ ?_ ?_ | refine callD_pure (view_without v.pas p (by omega) ok.p1) ?_ ?_ ?_); (iterate 2 (focus (first | rfl | (simp only [go_sem]; done)))); try simp only [go_sem, reduceAdd, reduceSub, reduceMul, reduceLT, reduceLeDiff, ↓reduceIte, reduceCtorEq, reduceEqDiff, reduceToNat, Int.reduceLT, reduceLE, reduceEq]) | ((refine Or.inl ⟨by kernel_rfl, ?_⟩) <;> (try simp only [go_sem, reduceAdd, reduceSub, reduceMul, reduceLT, reduceLeDiff, ↓reduceIte, reduceCtorEq, reduceEqDiff, reduceToNat, Int.reduceLT, reduceLE, reduceEq])))) <;> (first | done | (simp_all [forgetV]; done))
set_option maxRecDepth 8000 in
theorem view_add (v : ViewR) (p d : Int) (ha : v.act.length < 1000000) (hp : v.pas.length < 1000000) : PSpec Tryz.prog CT 57 [viewD v, .lit (.int .i64 p), .lit (.int .i64 d)] (· = .tup [viewD (addV v p d).1, .lit (.int .i64 (addV v p d).2)]) := by
  refine PSpec.of hT Tryz.func57 rfl (by kernel_rfl) rfl rfl ?_
  simp only [Tryz.f57, go_sem, reduceAdd, reduceSub, reduceMul, reduceLT, reduceLeDiff, ↓reduceIte, reduceCtorEq, reduceEqDiff, reduceToNat, Int.reduceLT, reduceLE, reduceEq]
  cases hcv : checkV v with
  | false => (repeat' (first | ((refine guardK_split (fun hg => ?_) (fun hg => ?_)) <;> (try simp only [go_sem, reduceAdd, reduceSub, reduceMul, reduceLT, reduceLeDiff, ↓reduceIte, reduceCtorEq, reduceEqDiff, reduceToNat, Int.reduceLT, reduceLE, reduceEq, hg])) | ((refine condK_split (fun hg => ?_) (fun hg => ?_)) <;> (try simp only [go_sem, reduceAdd, reduceSub, reduceMul, reduceLT, reduceLeDiff, ↓reduceIte, reduceCtorEq, reduceEqDiff, reduceToNat, Int.reduceLT, reduceLE, reduceEq, hg])) | ((first | refine callK_pure (view_other v p) ?_ ?_ ?_ | refine callD_pure (view_other v p) ?_ ?_ ?_); (iterate 2 (focus (first | rfl | (simp only [go_sem]; done)))); try simp only [go_sem, reduceAdd, reduceSub, reduceMul, reduceLT, reduceLeDiff, ↓reduceIte, reduceCtorEq, reduceEqDiff, reduceToNat, Int.reduceLT, reduceLE, reduceEq]) | ((first | refine callK_pure (view_has v.act p (by omega)) ?_ ?_ ?_ | refine callD_pure (view_has v.act p (by omega)) ?_ ?_ ?_); (iterate 2 (focus (first | rfl | (simp only [go_sem]; done)))); try simp only [go_sem, reduceAdd, reduceSub, reduceMul, reduceLT, reduceLeDiff, ↓reduceIte, reduceCtorEq, reduceEqDiff, reduceToNat, Int.reduceLT, reduceLE, reduceEq]) | ((first | refine callK_pure (view_check v (by omega) (by omega)) ?_ ?_ ?_ | refine callD_pure (view_check v (by omega) (by omega)) ?_ ?_ ?_); (iterate 2 (focus (first | rfl | (simp only [go_sem]; done)))); try simp only [go_sem, reduceAdd, reduceSub, reduceMul, reduceLT, reduceLeDiff, ↓reduceIte, reduceCtorEq, reduceEqDiff, reduceToNat, Int.reduceLT, reduceLE, reduceEq]) | ((refine Or.inl ⟨by kernel_rfl, ?_⟩) <;> (try simp only [go_sem, reduceAdd, reduceSub, reduceMul, reduceLT, reduceLeDiff, ↓reduceIte, reduceCtorEq, reduceEqDiff, reduceToNat, Int.reduceLT, reduceLE, reduceEq])))) <;> (first | done | (simp_all [addV]; done))
  | true =>
    have ok := (checkV_iff v).1 hcv
    by_cases h4 : 4 ≤ v.act.length
    · have hm := pick_mem (l := v.act) d (by omega)
      have okc := cooledV_ok d ok hm
      have l1 := okc.la
      have l2 := okc.lp
      have h4' : decide ((4 : Int) ≤ (v.act.length : Int)) = true := by simp; omega
      (repeat' (first | ((refine guardK_split (fun hg => ?_) (fun hg => ?_)) <;> (try simp only [go_sem, reduceAdd, reduceSub, reduceMul, reduceLT, reduceLeDiff, ↓reduceIte, reduceCtorEq, reduceEqDiff, reduceToNat, Int.reduceLT, reduceLE, reduceEq, hg, h4'])) | ((refine condK_split (fun hg => ?_) (fun hg => ?_)) <;> (try simp only [go_sem, reduceAdd, reduceSub, reduceMul, reduceLT, reduceLeDiff, ↓reduceIte, reduceCtorEq, reduceEqDiff, reduceToNat, Int.reduceLT, reduceLE, reduceEq, hg, h4'])) | ((first | refine callK_pure (view_other v p) ?_ ?_ ?_ | refine callD_pure (view_other v p) ?_ ?_ ?_); (iterate 2 (focus (first | rfl | (simp only [go_sem, h4']; done)))); try simp only [go_sem, reduceAdd, reduceSub, reduceMul, reduceLT, reduceLeDiff, ↓reduceIte, reduceCtorEq, reduceEqDiff, reduceToNat, Int.reduceLT, reduceLE, reduceEq, h4']) | ((first | refine callK_pure (view_has v.act p (by omega)) ?_ ?_ ?_ | refine callD_pure (view_has v.act p (by omega)) ?_ ?_ ?_); (iterate 2 (focus (first | rfl | (simp only [go_sem, h4']; done)))); try simp only [go_sem, reduceAdd, reduceSub, reduceMul, reduceLT, reduceLeDiff, ↓reduceIte, reduceCtorEq, reduceEqDiff, reduceToNat, Int.reduceLT, reduceLE, reduceEq, h4']) | ((first | refine callK_pure (view_check v (by omega) (by omega)) ?_ ?_ ?_ | refine callD_pure (view_check v (by omega) (by omega)) ?_ ?_ ?_); (iterate 2 (focus (first | rfl | (simp only [go_sem, h4']; done)))); try simp only [go_sem, reduceAdd, reduceSub, reduceMul, reduceLT, reduceLeDiff, ↓reduceIte, reduceCtorEq, reduceEqDiff, reduceToNat, Int.reduceLT, reduceLE, reduceEq, h4']) | ((first | refine callK_pure (view_pick v.act [] d (by omega) (by decide)) ?_ ?_ ?_ | refine callD_pure (view_pick v.act [] d (by omega) (by decide)) ?_ ?_ ?_); (iterate 2 (focus (first | rfl | (simp only [go_sem, h4']; done)))); try simp only [go_sem, reduceAdd, reduceSub, reduceMul, reduceLT, reduceLeDiff, ↓reduceIte, reduceCtorEq, reduceEqDiff, reduceToNat, Int.reduceLT, reduceLE, reduceEq, h4']) | ((first | refine callK_pure (view_cooled v (pickI v.act [] d) d ha hp ok.p1 ok.a1) ?_ ?_ ?_ | refine callD_pure (view_cooled v (pickI v.act [] d) d ha hp ok.p1 ok.a1) ?_ ?_ ?_); (iterate 2 (focus (first | rfl | (simp only [go_sem, h4']; done)))); try simp only [go_sem, reduceAdd, reduceSub, reduceMul, reduceLT, reduceLeDiff, ↓reduceIte, reduceCtorEq, reduceEqDiff, reduceToNat, Int.reduceLT, reduceLE, reduceEq, h4']) | ((first | refine callK_pure (view_without (cooledV v (pickI v.act [] d) d).pas p (by omega) okc.p1) ?_ ?_ ?_ | refine callD_pure (view_without (cooledV v (pickI v.act [] d) d).pas p (by omega) okc.p1) ?_ ?_ ?_); (iterate 2 (focus (first | rfl | (simp only [go_sem, h4']; done)))); try simp only [go_sem, reduceAdd, reduceSub, reduceMul, reduceLT, reduceLeDiff, ↓reduceIte, reduceCtorEq, reduceEqDiff, reduceToNat, Int.reduceLT, reduceLE, reduceEq, h4']) | ((first | refine callK_pure (view_with (cooledV v (pickI v.act [] d) d).act p (by omega) okc.a1) ?_ ?_ ?_ | refine callD_pure (view_with (cooledV v (pickI v.act [] d) d).act p (by omega) okc.a1) ?_ ?_ ?_); (iterate 2 (focus (first | rfl | (simp only [go_sem, h4']; done)))); try simp only [go_sem, reduceAdd, reduceSub, reduceMul, reduceLT, reduceLeDiff, ↓reduceIte, reduceCtorEq, reduceEqDiff, reduceToNat, Int.reduceLT, reduceLE, reduceEq, h4']) | ((refine Or.inl ⟨by kernel_rfl, ?_⟩) <;> (try simp only [go_sem, reduceAdd, reduceSub, reduceMul, reduceLT, reduceLeDiff, ↓reduceIte, reduceCtorEq, reduceEqDiff, reduceToNat, Int.reduceLT, reduceLE, reduceEq, h4'])))) <;> (first | done | (simp_all [addV, roomV]; done))
    · have h4' : decide ((4 : Int) ≤ (v.act.length : Int)) = false := by simp; omega
      have er : roomV v d = (v, 0) := if_neg h4
      (repeat' (first | ((refine guardK_split (fun hg => ?_) (fun hg => ?_)) <;> (try simp only [go_sem, reduceAdd, reduceSub, reduceMul, reduceLT, reduceLeDiff, ↓reduceIte, reduceCtorEq, reduceEqDiff, reduceToNat, Int.reduceLT, reduceLE, reduceEq, hg, h4'])) | ((refine condK_split (fun hg => ?_) (fun hg => ?_)) <;> (try simp only [go_sem, reduceAdd, reduceSub, reduceMul, reduceLT, reduceLeDiff, ↓reduceIte, reduceCtorEq, reduceEqDiff, reduceToNat, Int.reduceLT, reduceLE, reduceEq, hg, h4'])) | ((first | refine callK_pure (view_other v p) ?_ ?_ ?_ | refine callD_pure (view_other v p) ?_ ?_ ?_); (iterate 2 (focus (first | rfl | (simp only [go_sem, h4']; done)))); try simp only [go_sem, reduceAdd, reduceSub, reduceMul, reduceLT, reduceLeDiff, ↓reduceIte, reduceCtorEq, reduceEqDiff, reduceToNat, Int.reduceLT, reduceLE, reduceEq, h4']) | ((first | refine callK_pure (view_has v.act p (by omega)) ?_ ?_ ?_ | refine callD_pure (view_has v.act p (by omega)) ?_ ?_ ?_); (iterate 2 (focus (first | rfl | (simp only [go_sem, h4']; done)))); try simp only [go_sem, reduceAdd, reduceSub, reduceMul, reduceLT, reduceLeDiff, ↓reduceIte, reduceCtorEq, reduceEqDiff, reduceToNat, Int.reduceLT, reduceLE, reduceEq, h4']) | ((first | refine callK_pure (view_check v (by omega) (by omega)) ?_ ?_ ?_ | refine callD_pure (view_check v (by omega) (by omega)) ?_ ?_ ?_); (iterate 2 (focus (first | rfl | (simp only [go_sem, h4']; done)))); try simp only [go_sem, reduceAdd, reduceSub, reduceMul, reduceLT, reduceLeDiff, ↓reduceIte, reduceCtorEq, reduceEqDiff, reduceToNat, Int.reduceLT, reduceLE, reduceEq, h4']) | ((first | refine callK_pure (view_without v.pas p (by omega) ok.p1) ?_ ?_ ?_ | refine callD_pure (view_without v.pas p (by omega) ok.p1) ?_ ?_ ?_); (iterate 2 (focus (first | rfl | (simp only [go_sem, h4']; done)))); try simp only [go_sem, reduceAdd, reduceSub, reduceMul, reduceLT, reduceLeDiff, ↓reduceIte, reduceCtorEq, reduceEqDiff, reduceToNat, Int.reduceLT, reduceLE, reduceEq, h4']) | ((first | refine callK_pure (view_with v.act p (by omega) ok.a1) ?_ ?_ ?_ | refine callD_pure (view_with v.act p (by omega) ok.a1) ?_ ?_ ?_); (iterate 2 (focus (first | rfl | (simp only [go_sem, h4']; done)))); try simp only [go_sem, reduceAdd, reduceSub, reduceMul, reduceLT, reduceLeDiff, ↓reduceIte, reduceCtorEq, reduceEqDiff, reduceToNat, Int.reduceLT, reduceLE, reduceEq, h4']) | ((refine Or.inl ⟨by kernel_rfl, ?_⟩) <;> (try simp only [go_sem, reduceAdd, reduceSub, reduceMul, reduceLT, reduceLeDiff, ↓reduceIte, reduceCtorEq, reduceEqDiff, reduceToNat, Int.reduceLT, reduceLE, reduceEq, h4'])))) <;> (first | done | (clear h4 h4'; simp_all [addV]; done))
end Go.Ab
set_option linter.unusedSimpArgs false
namespace Go.Ab
open Go.Proofs

theorem out_cat {k : Nat} {d : D} {base ex : List (Sh × D)} {l m : List Int} {K : St → Prop} {dst : Option Tmp} {ts : List D} {tk : List Bool} (t' : Tok) (ho : Out k d ex l) (hk : base.length = k) (hl : l.length + m.length < 1000000000)
    (h : ∀ d' ex', Out k d' ex' (l ++ m) → K (St.put ⟨ts, ⟨base ++ ex', tk⟩⟩ dst d')) : appK CT true K dst ts (base ++ ex) tk (.slice 3) d (.lst 3 (m.map fun n => .lit (.int .i64 n)) t') := by
  have hby : CT.bytes 3 = 8 := rfl
  by_cases hm0 : m = []
  · subst hm0
    have hh := h d ex (by simpa using ho)
    rcases ho with ⟨rfl, rfl, rfl⟩ | ⟨j, N, L, rfl, hj, hL, hlN, hN, htk, hpu⟩
    · exact appK_mut K dst ts 3 _ tk _ _ ⟨[], [], rfl, rfl, by rw [hby]; omega, by rw [hby]; simp, trivial, fun _ => by simpa using hh, (by intro b lo n c N s L h; cases h), fun _ h => absurd rfl h⟩
    · have hbx : (base ++ ex)[k + j]? = some (.arr N .leaf, .agg L) := by rw [List.getElem?_append_right (by omega), hk, Nat.add_sub_cancel_left]; exact hj
      exact appK_mut K dst ts 3 _ tk _ _ ⟨l.map fun n => .lit (.int .i64 n), [], by simp only [rowOf, hbx, List.drop_zero, htk], rfl, by rw [hby]; omega, by rw [hby]; simp; omega, trivial, fun _ => hh, fun _ _ _ _ _ _ _ _ h => absurd rfl h, fun _ h => absurd rfl h⟩
  have hmm : (m.map fun n => D.lit (.int .i64 n)) ≠ [] := by simpa using hm0
  rcases ho with ⟨rfl, rfl, rfl⟩ | ⟨j, N, L, rfl, hj, hL, hlN, hN, htk, hpu⟩
  · refine appK_mut K dst ts 3 _ tk _ _ ⟨[], m.map fun n => .lit (.int .i64 n), rfl, rfl, by rw [hby]; omega, by rw [hby]; simp at hl ⊢; omega, trivial, fun h => absurd h hmm, (by intro b lo n c N s L h; cases h), fun _ _ N h1 h2 => ?_⟩
    simp only [List.length_nil, Nat.zero_add, List.length_map] at h1
    have := h (.sl 3 (k + 0) 0 ([] ++ m).length N) [(.arr N .leaf, .agg ((m.map fun n => .lit (.int .i64 n)) ++ List.replicate (N - m.length) (.lit (.int .i64 0))))] (.inr ⟨0, N, _, rfl, rfl, by simp; omega, by simpa using h1, h2, by simp, by
      intro N' s' L' hm
      simp only [List.mem_singleton, Prod.mk.injEq, D.agg.injEq] at hm
      obtain ⟨_, rfl⟩ := hm
      exact pureL_app (pure_ints _) (pure_reps _)⟩)
    subst hk
    simpa [Heap.var, zero_int, sh_int] using this
  · have hjl : j < ex.length := (List.getElem?_eq_some_iff.1 hj).1
    have hbx : (base ++ ex)[k + j]? = some (.arr N .leaf, .agg L) := by rw [List.getElem?_append_right (by omega), hk, Nat.add_sub_cancel_left]; exact hj
    have hset : ∀ y, (base ++ ex).set (k + j) y = base ++ ex.set j y := fun y => by rw [List.set_append_right _ _ (by omega), hk, Nat.add_sub_cancel_left]
    have hpL : pureL L := hpu _ _ _ (List.mem_of_getElem? hj)
    refine appK_mut K dst ts 3 _ tk _ _ ⟨l.map fun n => .lit (.int .i64 n), m.map fun n => .lit (.int .i64 n), ?_, rfl, by rw [hby]; omega, by rw [hby]; simp; omega, trivial, fun h => absurd h hmm, ?_, ?_⟩
    · simp only [rowOf, hbx, List.drop_zero, htk]
    · intro b1 lo1 n1 c1 N1 s1 L1 h1 _ h2 h3
      cases h1
      simp only at h3
      rw [hbx] at h3; cases h3
      have e1 : l.length + m.length ≤ L.length := by rw [hL]; simpa using h2
      have := h (.sl 3 (k + j) 0 (l ++ m).length N) (ex.set j (.arr N .leaf, .agg (overL L l.length (m.map fun n => .lit (.int .i64 n))))) (.inr ⟨j, N, _, rfl, List.getElem?_set_self hjl, by simp [overL]; omega, by simpa using (by simpa using h2 : l.length + m.length ≤ N), hN, ?_, ?_⟩)
      · simpa [hset] using this
      · rw [List.length_append]
        have := overL_take (L := L) (m := m.map fun n => .lit (.int .i64 n)) (n := l.length) (by simpa using e1)
        simp only [List.length_map] at this
        rw [this, htk]; simp
      · intro N' s' L' hm
        rcases List.mem_or_eq_of_mem_set hm with h' | h'
        · exact hpu _ _ _ h'
        · simp only [Prod.mk.injEq, D.agg.injEq] at h'
          obtain ⟨_, rfl⟩ := h'
          exact pureL_app (pureL_app (pureL_take _ hpL) (pure_ints _)) (pureL_drop _ hpL)
    · intro h1 _ N' h2 h3
      simp only [List.length_map] at h2
      have := h (.sl 3 (k + ex.length) 0 (l ++ m).length N') (ex ++ [(.arr N' .leaf, .agg ((l ++ m).map (fun n => .lit (.int .i64 n)) ++ List.replicate (N' - (l.length + m.length)) (.lit (.int .i64 0))))]) (.inr ⟨ex.length, N', (l ++ m).map (fun n => .lit (.int .i64 n)) ++ List.replicate (N' - (l.length + m.length)) (.lit (.int .i64 0)), rfl, by simp, by simp; omega, by simpa using h2, h3, by rw [List.take_append_of_le_length (by simp), List.take_of_length_le (by simp)], ?_⟩)
      · subst hk
        simpa [Heap.var, zero_int, sh_int] using this
      · intro N' s' L' hm
        rcases List.mem_append.1 hm with h' | h'
        · exact hpu _ _ _ h'
        · simp only [List.mem_singleton, Prod.mk.injEq, D.agg.injEq] at h'
          obtain ⟨_, rfl⟩ := h'
          exact pureL_app (pure_ints _) (pure_reps _)

theorem slices_grow (m : Nat) (hm : m < 1000000000) (bs : List (Sh × D)) (tk : List Bool) : ASpec Tryz.prog CT 108 [.lst 3 [] .full, .lit (.int .i64 m)] ⟨bs, tk⟩ fun r h' => ∃ ex, h' = ⟨bs ++ ex, tk⟩ ∧ Out bs.length r ex [] := by
  refine ASpec.of hT Tryz.func108 rfl (by kernel_rfl) rfl rfl ?_
  simp only [Tryz.f108, go_sem, reduceAdd, reduceSub, reduceMul, reduceLT, reduceLeDiff, ↓reduceIte, reduceCtorEq, reduceEqDiff, reduceToNat, Int.reduceLT, reduceLE, reduceEq]
  refine condK_split (fun h => absurd (of_decide_eq_true h) (by omega)) (fun _ => ?_)
  have w0 : IntKind.i64.wrap ((m : Int) - IntKind.i64.wrap (((0 : Nat) : Int) - ((0 : Nat) : Int))) = (m : Int) := by
    rw [show IntKind.i64.wrap (((0 : Nat) : Int) - ((0 : Nat) : Int)) = 0 from by decide, wrap64] <;> omega
  simp only [go_sem, reduceAdd, reduceSub, reduceMul, reduceLT, reduceLeDiff, ↓reduceIte, reduceCtorEq, reduceEqDiff, reduceToNat, Int.reduceLT, reduceLE, reduceEq, w0]
  refine condK_split (fun h => ?_) (fun h => ?_)
  · have h0 : 0 < m := by have := of_decide_eq_true h; omega
    simp only [go_sem, reduceAdd, reduceSub, reduceMul, reduceLT, reduceLeDiff, ↓reduceIte, reduceCtorEq, reduceEqDiff, reduceToNat, Int.reduceLT, reduceLE, reduceEq]
    apply aop_growth
    refine ⟨3, .i64, rfl, rfl, .inl ⟨.i64, m, rfl, rfl, h0, by rw [show CT.bytes 3 = 8 from rfl]; omega, by rw [show CT.bytes 3 = 8 from rfl]; omega, fun N h1 h2 => ?_⟩⟩
    simp only [go_sem, reduceAdd, reduceSub, reduceMul, reduceLT, reduceLeDiff, ↓reduceIte, reduceCtorEq, reduceEqDiff, reduceToNat, Int.reduceLT, reduceLE, reduceEq, Nat.zero_le]
    refine ⟨[(.arr N .leaf, .agg (List.replicate N (.lit (.int .i64 0))))], rfl, .inr ⟨0, N, List.replicate N (.lit (.int .i64 0)), rfl, rfl, by simp, by simp, h2, by simp, ?_⟩⟩
    intro N' s' L' hm
    simp only [List.mem_singleton, Prod.mk.injEq, D.agg.injEq] at hm
    obtain ⟨_, rfl⟩ := hm
    exact pure_reps _
  · have h0 : m = 0 := by have := of_decide_eq_false h; omega
    simp only [go_sem, reduceAdd, reduceSub, reduceMul, reduceLT, reduceLeDiff, ↓reduceIte, reduceCtorEq, reduceEqDiff, reduceToNat, Int.reduceLT, reduceLE, reduceEq]
    exact ⟨[], by simp, .inl ⟨rfl, rfl, rfl⟩⟩

theorem get_ll (L : List (List Int)) (k : Nat) (h : (k < L.length) = True) : (L.map fun l => intsL l .no)[k]? = some (intsL (L.getD k []) .no) := by
  have h := of_eq_true h
  simp [h]
theorem flatten_snoc (L : List (List Int)) (k : Nat) (h : k < L.length) : (L.take (k + 1)).flatten = (L.take k).flatten ++ L.getD k [] := by
  have e : L.take (k + 1) = L.take k ++ [L[k]] := by rw [List.take_add_one, List.getElem?_eq_getElem h]; rfl
  rw [e, List.getD_eq_getElem?_getD, List.getElem?_eq_getElem h, List.flatten_append]; simp only [List.flatten_cons, List.flatten_nil, List.append_nil, Option.getD_some]
theorem flatten_le (L : List (List Int)) (k : Nat) : (L.take k).flatten.length ≤ L.flatten.length := by
  have := congrArg (fun l : List (List Int) => l.flatten.length) (List.take_append_drop k L)
  simp only [List.flatten_append, List.length_append] at this
  omega
set_option maxRecDepth 8000 in
theorem slices_concat (L : List (List Int)) (hL : L.length ≤ 1000) (hl : L.flatten.length < 100000000) (bs : List (Sh × D)) (tk : List Bool) : ASpec Tryz.prog CT 75 [.lst 22 (L.map fun l => intsL l .no) .full] ⟨bs, tk⟩ fun r h' => ∃ ex, h' = ⟨bs ++ ex, tk⟩ ∧ Out bs.length r ex L.flatten := by
  refine ASpec.of hT Tryz.func75 rfl (by kernel_rfl) rfl rfl ?_
  simp only [Tryz.f75, go_sem, reduceAdd, reduceSub, reduceMul, reduceLT, reduceLeDiff, ↓reduceIte, reduceCtorEq, reduceEqDiff, reduceToNat, Int.reduceLT, reduceLE, reduceEq]
  refine awp_loop (fun n s => ∃ (k : Nat) (g : Nat → D), s = ⟨[.lst 22 (L.map fun l => intsL l .no) .full, g 1, g 2, .lit (.int .i64 ((L.take k).flatten.length : Nat)), g 4, g 5, g 6, g 7, g 8, .lst 22 (L.map fun l => intsL l .no) .full, .lit (.int .i64 L.length), .lit (.int .i64 k), g 12, g 13, g 14, g 15, g 16, g 17, g 18, g 19, g 20, g 21, g 22, g 23, g 24, g 25, g 26, g 27, g 28, g 29, g 30, g 31, g 32, g 33, g 34, g 35], ⟨bs, tk⟩⟩ ∧ n = L.length - k ∧ k ≤ L.length) L.length ⟨0, reg_intro rfl rfl ⟨by simp, by omega⟩⟩ ?_
  rintro n s ⟨k, g, rfl, hn, hk⟩
  simp only [go_sem, reduceAdd, reduceSub, reduceMul, reduceLT, reduceLeDiff, ↓reduceIte, reduceCtorEq, reduceEqDiff, reduceToNat, Int.reduceLT, reduceLE, reduceEq]
  refine condK_split (fun hc => ?_) (fun hc => ?_)
  · have hk' : k < L.length := by have := of_decide_eq_true hc; omega
    have hs := congrArg List.length (flatten_snoc L k hk')
    rw [List.length_append] at hs
    have hle := flatten_le L (k + 1)
    have hw : IntKind.i64.wrap (((L.take k).flatten.length : Nat) + ((L.getD k []).length : Int)) = (((L.take (k + 1)).flatten.length : Nat) : Int) := by rw [wrap64, hs] <;> omega
    simp only [go_sem, reduceAdd, reduceSub, reduceMul, reduceLT, reduceLeDiff, ↓reduceIte, reduceCtorEq, reduceEqDiff, reduceToNat, Int.reduceLT, reduceLE, reduceEq, hk', get_ll, hw]
    refine condK_split (fun h => absurd (of_decide_eq_true h) (by omega)) (fun _ => ?_)
    simp only [go_sem, reduceAdd, reduceSub, reduceMul, reduceLT, reduceLeDiff, ↓reduceIte, reduceCtorEq, reduceEqDiff, reduceToNat, Int.reduceLT, reduceLE, reduceEq, wrapNat k (by omega)]
    exact ⟨L.length - (k + 1), by omega, k + 1, reg_intro rfl rfl ⟨rfl, by omega⟩⟩
  · have hi := of_decide_eq_false hc
    obtain rfl : k = L.length := by omega
    simp only [go_sem, reduceAdd, reduceSub, reduceMul, reduceLT, reduceLeDiff, ↓reduceIte, reduceCtorEq, reduceEqDiff, reduceToNat, Int.reduceLT, reduceLE, reduceEq, List.take_length]
    refine callK_a (slices_grow L.flatten.length (by omega) bs tk) ?_
    rintro r h' ⟨ex, rfl, ho⟩
    simp only [go_sem, reduceAdd, reduceSub, reduceMul, reduceLT, reduceLeDiff, ↓reduceIte, reduceCtorEq, reduceEqDiff, reduceToNat, Int.reduceLT, reduceLE, reduceEq, out_nrm ho]
    clear hn hk hc hi
    refine awp_loop (fun n s => ∃ (k : Nat) (d : D) (ex : List (Sh × D)) (g : Nat → D), s = ⟨[g 0, g 1, g 2, g 3, g 4, g 5, d, g 7, g 8, g 9, g 10, g 11, g 12, g 13, g 14, g 15, g 16, g 17, g 18, g 19, g 20, g 21, g 22, g 23, g 24, .lst 22 (L.map fun l => intsL l .no) .full, .lit (.int .i64 L.length), .lit (.int .i64 k), g 28, g 29, g 30, g 31, g 32, g 33, g 34, g 35], ⟨bs ++ ex, tk⟩⟩ ∧ n = L.length - k ∧ k ≤ L.length ∧ Out bs.length d ex (L.take k).flatten) L.length ⟨0, r, ex, reg_intro rfl rfl ⟨by simp, by omega, ho⟩⟩ ?_
    clear ho
    rintro n s ⟨k, d, ex, g, rfl, hn, hk, ho⟩
    simp only [go_sem, reduceAdd, reduceSub, reduceMul, reduceLT, reduceLeDiff, ↓reduceIte, reduceCtorEq, reduceEqDiff, reduceToNat, Int.reduceLT, reduceLE, reduceEq]
    refine condK_split (fun hc => ?_) (fun hc => ?_)
    · have hk' : k < L.length := by have := of_decide_eq_true hc; omega
      have hs := flatten_snoc L k hk'
      have hle := flatten_le L (k + 1)
      rw [hs, List.length_append] at hle
      simp only [go_sem, reduceAdd, reduceSub, reduceMul, reduceLT, reduceLeDiff, ↓reduceIte, reduceCtorEq, reduceEqDiff, reduceToNat, Int.reduceLT, reduceLE, reduceEq, hk', get_ll, out_nrm ho]
      refine out_cat .no ho rfl (by omega) fun d' ex' ho' => ?_
      simp only [go_sem, reduceAdd, reduceSub, reduceMul, reduceLT, reduceLeDiff, ↓reduceIte, reduceCtorEq, reduceEqDiff, reduceToNat, Int.reduceLT, reduceLE, reduceEq, out_nrm ho', wrapNat k (by omega)]
      exact ⟨L.length - (k + 1), by omega, k + 1, d', ex', reg_intro rfl rfl ⟨rfl, by omega, by rw [hs]; exact ho'⟩⟩
    · have hi := of_decide_eq_false hc
      obtain rfl : k = L.length := by omega
      rw [List.take_length] at ho
      simp only [go_sem, reduceAdd, reduceSub, reduceMul, reduceLT, reduceLeDiff, ↓reduceIte, reduceCtorEq, reduceEqDiff, reduceToNat, Int.reduceLT, reduceLE, reduceEq, out_nrm ho]
      exact ⟨_, rfl, ho⟩
end Go.Ab
