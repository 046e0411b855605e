/- Registers: what the program reads. Conditions: none. -/
import Derived.Test.YtgliaanopmlmfaaReM
import Derived.Test.YtgliaanopmlmfaaReK
import Derived.Test.YtgliaanopmlmfaaSoB
import Derived.Test.YtgliaanopmlmfaaAbPw
set_option linter.unusedSimpArgs false
namespace Go.Ab
open Go.Proofs

def bestF (w0 : WriteR) (r : List WriteR) : WriteR := r.foldl (fun b w => if b.time ≤ w.time then w else b) w0
theorem bestF_snoc (w0 : WriteR) (r : List WriteR) (k : Nat) (hk : k < r.length) : bestF w0 (r.take (k + 1)) = if (bestF w0 (r.take k)).time ≤ (r.getD k default).time then r.getD k default else bestF w0 (r.take k) := by
  rw [take_snocG r k hk]; simp only [bestF, List.foldl_append, List.foldl_cons, List.foldl_nil]
  rfl
theorem best_same (w0 : WriteR) (r : List WriteR) : ∀ k, k ≤ r.length → 0 ≤ bestAt (w0 :: r) (k + 1) ∧ (w0 :: r).getD (bestAt (w0 :: r) (k + 1)).toNat default = bestF w0 (r.take k)
  | 0, _ => by simp [bestAt, bestF]
  | k + 1, hk => by
    obtain ⟨h1, h2⟩ := best_same w0 r k (by omega)
    have e : (w0 :: r).getD (k + 1) default = r.getD k default := by simp
    have hs := bestF_snoc w0 r k (by omega)
    rw [bestAt, h2, e]
    by_cases h : (bestF w0 (r.take k)).time ≤ (r.getD k default).time
    · rw [if_pos (.inr h)]
      rw [if_pos h] at hs
      exact ⟨by omega, by rw [hs]; simp⟩
    · rw [if_neg (by rintro (h3 | h3); omega; exact h h3)]
      rw [if_neg h] at hs
      exact ⟨h1, by rw [hs]; exact h2⟩
theorem latest_cons (w0 : WriteR) (r : List WriteR) : latestL (w0 :: r) = [(bestF w0 r).text] := by
  obtain ⟨h1, h2⟩ := best_same w0 r r.length (Nat.le_refl _)
  rw [List.take_length] at h2
  rw [latestL, List.length_cons, if_neg (by omega), h2]

theorem wr_get (r : List WriteR) (k : Nat) (h : (k < r.length) = True) : (r.map wrD)[k]? = some (wrD (r.getD k default)) := get_enc _ _ _ h
set_option maxRecDepth 8000 in
theorem register_last (l : List WriteR) (hl : l.length < 1000000000) : PSpec Try.prog CT 96 [wrsD l .no] (· = textsD (latestL l) .no) := by
  refine PSpec.of hT Try.func96 rfl (by kernel_rfl) rfl rfl ?_
  cases l with
  | nil =>
    have : latestL [] = [] := rfl
    simp only [Try.f96, go_sem, Nat.reduceAdd, Nat.reduceSub, Nat.reduceMul, Nat.reduceLT, Nat.reduceLeDiff, ↓reduceIte, reduceCtorEq, Nat.reduceEqDiff, Int.reduceToNat, Int.reduceLT, Int.reduceLE, Int.reduceEq, beq_self_eq_true, List.map_nil, List.length_nil, this, decide_true, Int.natCast_zero, Int.cast_ofNat_Int]
    rfl
  | cons w0 r =>
    have h0 : (((w0 :: r).map wrD).length : Int) = 0 ↔ False := by simp; omega
    simp only [List.length_cons] at hl
    simp only [Try.f96, go_sem, Nat.reduceAdd, Nat.reduceSub, Nat.reduceMul, Nat.reduceLT, Nat.reduceLeDiff, ↓reduceIte, reduceCtorEq, Nat.reduceEqDiff, Int.reduceToNat, Int.reduceLT, Int.reduceLE, Int.reduceEq, beq_self_eq_true, List.map_cons, List.length_cons]
    refine condK_split (fun h => absurd (of_decide_eq_true h) (by omega)) (fun _ => ?_)
    simp only [go_sem, Nat.reduceAdd, Nat.reduceSub, Nat.reduceMul, Nat.reduceLT, Nat.reduceLeDiff, ↓reduceIte, reduceCtorEq, Nat.reduceEqDiff, Int.reduceToNat, Int.reduceLT, Int.reduceLE, Int.reduceEq, beq_self_eq_true, List.length_cons, List.length_map, List.drop_succ_cons, List.drop_zero]
    refine awp_loop (fun n s => ∃ (k : Nat) (x : WriteR) (ex : List (Sh × D)) (g : Nat → D), s = ⟨[g 0, g 1, g 2, .ptr 0 [], g 4, g 5, g 6, g 7, g 8, g 9, g 10, g 11, g 12, wrsD r .no, .lit (.int .i64 r.length), .lit (.int .i64 k), g 16, g 17, g 18, g 19, g 20, g 21, g 22, g 23, g 24, g 25, g 26, g 27, g 28], ⟨((.pair (.pair (.pair .leaf (.pair .leaf .unit)) (.pair .leaf .unit)) (.pair .leaf (.pair .leaf .unit))), wrD x) :: ex, []⟩⟩ ∧ n = r.length - k ∧ k ≤ r.length ∧ x = bestF w0 (r.take k)) r.length ⟨0, w0, [], reg_intro rfl rfl ⟨by simp, by omega, rfl⟩⟩ ?_
    rintro n st ⟨k, x, ex, g, rfl, hn, hk, hx⟩
    simp only [go_sem, Nat.reduceAdd, Nat.reduceSub, Nat.reduceMul, Nat.reduceLT, Nat.reduceLeDiff, ↓reduceIte, reduceCtorEq, Nat.reduceEqDiff, Int.reduceToNat, Int.reduceLT, Int.reduceLE, Int.reduceEq, beq_self_eq_true]
    refine condK_split (fun hc => ?_) (fun hc => ?_)
    · have hk' : k < r.length := by have := of_decide_eq_true hc; omega
      have hs := bestF_snoc w0 r k hk'
      rw [← hx] at hs
      simp only [go_sem, Nat.reduceAdd, Nat.reduceSub, Nat.reduceMul, Nat.reduceLT, Nat.reduceLeDiff, ↓reduceIte, reduceCtorEq, Nat.reduceEqDiff, Int.reduceToNat, Int.reduceLT, Int.reduceLE, Int.reduceEq, beq_self_eq_true, hk', wr_get]
      refine condK_split (fun h2 => ?_) (fun h2 => ?_)
      · rw [if_pos (of_decide_eq_true h2)] at hs
        simp only [go_sem, Nat.reduceAdd, Nat.reduceSub, Nat.reduceMul, Nat.reduceLT, Nat.reduceLeDiff, ↓reduceIte, reduceCtorEq, Nat.reduceEqDiff, Int.reduceToNat, Int.reduceLT, Int.reduceLE, Int.reduceEq, beq_self_eq_true, hk', wr_get, wrapNat k (by omega)]
        exact ⟨r.length - (k + 1), by omega, k + 1, _, _, reg_intro rfl rfl ⟨rfl, by omega, hs.symm⟩⟩
      · rw [if_neg (of_decide_eq_false h2)] at hs
        simp only [go_sem, Nat.reduceAdd, Nat.reduceSub, Nat.reduceMul, Nat.reduceLT, Nat.reduceLeDiff, ↓reduceIte, reduceCtorEq, Nat.reduceEqDiff, Int.reduceToNat, Int.reduceLT, Int.reduceLE, Int.reduceEq, beq_self_eq_true, hk', wr_get, wrapNat k (by omega)]
        exact ⟨r.length - (k + 1), by omega, k + 1, x, _, reg_intro rfl rfl ⟨rfl, by omega, hs.symm⟩⟩
    · have hi := of_decide_eq_false hc
      obtain rfl : k = r.length := by omega
      rw [List.take_length] at hx
      subst hx
      simp only [go_sem, Nat.reduceAdd, Nat.reduceSub, Nat.reduceMul, Nat.reduceLT, Nat.reduceLeDiff, ↓reduceIte, reduceCtorEq, Nat.reduceEqDiff, Int.reduceToNat, Int.reduceLT, Int.reduceLE, Int.reduceEq, beq_self_eq_true, latest_cons, List.map_cons, List.map_nil]
      rfl

def addT (o : List ByteArray) (x : ByteArray) : List ByteArray := if o.any (sameB x) then o else o ++ [x]
def dedupT (l : List ByteArray) : List ByteArray := l.foldl addT []
theorem dedup_snoc (l : List WriteR) (k : Nat) (hk : k < l.length) : dedupT (wrTexts (l.take (k + 1))) = addT (dedupT (wrTexts (l.take k))) (l.getD k default).text := by
  rw [take_snocG l k hk]; simp [dedupT, wrTexts]
theorem dedup_len (l : List ByteArray) : (dedupT l).length ≤ l.length := by
  have : ∀ (l o : List ByteArray), (l.foldl addT o).length ≤ o.length + l.length := by
    intro l
    induction l with
    | nil => intro o; simp
    | cons x r ih =>
      intro o
      have h1 := ih (addT o x)
      have h2 : (addT o x).length ≤ o.length + 1 := by unfold addT; split <;> simp
      simp only [List.foldl_cons, List.length_cons]; omega
  have h := this l []
  simp only [List.length_nil, Nat.zero_add] at h
  exact h
def bytesOf (l : List ByteArray) : List (List UInt8) := l.map fun x => x.data.toList
def sortT (l : List ByteArray) : List ByteArray := (sortB (bytesOf l)).map fun n => ⟨n.toArray⟩
theorem enc_bytes (l : List ByteArray) : (bytesOf l).map (fun n => D.lit (encStr n)) = l.map fun x => D.lit (.string x) := by
  simp only [bytesOf, List.map_map]
  refine List.map_congr_left fun x _ => ?_
  cases x with | mk a => simp [encStr]
theorem enc_sorted (l : List ByteArray) : (sortB (bytesOf l)).map (fun n => D.lit (encStr n)) = (sortT l).map fun x => D.lit (.string x) := by
  simp only [sortT, List.map_map]
  refine List.map_congr_left fun n _ => ?_
  simp [encStr]
theorem mem_same (o : List ByteArray) (x : ByteArray) : (x ∈ o) ↔ o.any (sameB x) = true := by
  simp [sameB]
abbrev kS : ByteArray → D := fun x => .lit (.string x)

set_option maxRecDepth 8000 in
set_option maxHeartbeats 1000000 in
theorem register_all (l : List WriteR) (hl : l.length < 100000000) : PSpec Try.prog CT 97 [wrsD l .no] (· = textsD (sortT (dedupT (wrTexts l))) .no) := by
  have hK : KeyEnc CT 9 kS := keyStr rfl
  refine HSpec.pure (HSpec.of hT Try.func97 rfl (by kernel_rfl) rfl rfl fun tk => ?_)
  simp only [Try.f97, go_sem, Nat.reduceAdd, Nat.reduceSub, Nat.reduceMul, Nat.reduceLT, Nat.reduceLeDiff, ↓reduceIte, reduceCtorEq, Nat.reduceEqDiff, Int.reduceToNat, Int.reduceLT, Int.reduceLE, Int.reduceEq, beq_self_eq_true]
  refine ⟨isMap_ok rfl, ?_⟩
  refine awp_loop (fun n s => ∃ (k : Nat) (d : D) (ex x : List (Sh × D)) (o : List ByteArray) (q : Nat) (g : Nat → D), s = ⟨[g 0, g 1, g 2, .mref 0, d, g 5, g 6, g 7, wrsD l .no, .lit (.int .i64 l.length), .lit (.int .i64 k), g 11, g 12, g 13, g 14, g 15, g 16, g 17, g 18, g 19, g 20, g 21, g 22, g 23, g 24, g 25, g 26, g 27, g 28, g 29, g 30], ⟨x, tk⟩⟩ ∧ n = l.length - k ∧ k ≤ l.length ∧ x = [(.obj 1, setG kS o q)] ++ ex ∧ o = dedupT (wrTexts (l.take k)) ∧ OutX 9 1 d ex (o.map kS)) l.length ⟨0, _, [], _, [], 0, reg_intro rfl rfl ⟨by simp, by omega, rfl, rfl, outX_nil _ _⟩⟩ ?_
  rintro n st ⟨k, d, ex, x, o, q, g, rfl, hn, hk, hx, hoo, ho⟩
  have hol := dedup_len (wrTexts (l.take k))
  have hwl : (wrTexts (l.take k)).length ≤ k := by simp [wrTexts]; omega
  rw [← hoo] at hol
  simp only [go_sem, Nat.reduceAdd, Nat.reduceSub, Nat.reduceMul, Nat.reduceLT, Nat.reduceLeDiff, ↓reduceIte, reduceCtorEq, Nat.reduceEqDiff, Int.reduceToNat, Int.reduceLT, Int.reduceLE, Int.reduceEq, beq_self_eq_true]
  refine condK_split (fun hc => ?_) (fun hc => ?_)
  · have hk' : k < l.length := by have := of_decide_eq_true hc; omega
    have hds := dedup_snoc l k hk'
    rw [← hoo] at hds
    have h0 : ∀ y, (x ++ [y])[0]? = some (.obj 1, setG kS o q) := fun y => by rw [hx]; simp
    have hset : ∀ y z, (x ++ [y]).set 0 z = [z] ++ (ex ++ [y]) := fun y z => by rw [hx]; simp
    simp only [go_sem, Nat.reduceAdd, Nat.reduceSub, Nat.reduceMul, Nat.reduceLT, Nat.reduceLeDiff, ↓reduceIte, reduceCtorEq, Nat.reduceEqDiff, Int.reduceToNat, Int.reduceLT, Int.reduceLE, Int.reduceEq, beq_self_eq_true, hk', wr_get]
    rw [setLook_g hK (t := 141) rfl rfl (h0 _) (l.getD k default).text rfl]
    simp only [go_sem, Nat.reduceAdd, Nat.reduceSub, Nat.reduceMul, Nat.reduceLT, Nat.reduceLeDiff, ↓reduceIte, reduceCtorEq, Nat.reduceEqDiff, Int.reduceToNat, Int.reduceLT, Int.reduceLE, Int.reduceEq, beq_self_eq_true]
    refine condK_split (fun h2 => ?_) (fun h2 => ?_)
    · have hm : (l.getD k default).text ∉ o := by simpa using h2
      have ha : addT o (l.getD k default).text = o ++ [(l.getD k default).text] := by
        rw [addT, if_neg]; rw [← mem_same]; exact hm
      simp only [go_sem, Nat.reduceAdd, Nat.reduceSub, Nat.reduceMul, Nat.reduceLT, Nat.reduceLeDiff, ↓reduceIte, reduceCtorEq, Nat.reduceEqDiff, Int.reduceToNat, Int.reduceLT, Int.reduceLE, Int.reduceEq, beq_self_eq_true, hk', wr_get]
      refine setUpd_g hK (e := 4) rfl (h0 _) (l.getD k default).text rfl ?_
      rintro s' g' (⟨h3, _⟩ | ⟨_, rfl, rfl⟩)
      · exact absurd h3 hm
      rw [hset]
      have hget : ∀ z y, (z :: (ex ++ [y]))[x.length]? = some y := fun z y => by rw [hx]; simp
      have ho2 := outX_push ho [(((.pair (.pair (.pair .leaf (.pair .leaf .unit)) (.pair .leaf .unit)) (.pair .leaf (.pair .leaf .unit))) : Sh), wrD (l.getD k default))] (by simp)
      simp only [go_sem, Nat.reduceAdd, Nat.reduceSub, Nat.reduceMul, Nat.reduceLT, Nat.reduceLeDiff, ↓reduceIte, reduceCtorEq, Nat.reduceEqDiff, Int.reduceToNat, Int.reduceLT, Int.reduceLE, Int.reduceEq, beq_self_eq_true, hget, outX_nrm ho]
      refine outX_app (x := .lit (.string (l.getD k default).text)) (base := [((.obj 1 : Sh), setG kS (o ++ [(l.getD k default).text]) (q + 1))]) _ ho2 rfl (by rw [List.length_map]; omega) ⟨by decide, by decide⟩ trivial trivial fun d' ex' ho' _ => ?_
      simp only [go_sem, Nat.reduceAdd, Nat.reduceSub, Nat.reduceMul, Nat.reduceLT, Nat.reduceLeDiff, ↓reduceIte, reduceCtorEq, Nat.reduceEqDiff, Int.reduceToNat, Int.reduceLT, Int.reduceLE, Int.reduceEq, beq_self_eq_true, outX_nrm ho', wrapNat k (by omega)]
      exact ⟨l.length - (k + 1), by omega, k + 1, d', ex', _, o ++ [(l.getD k default).text], q + 1, reg_intro rfl rfl ⟨rfl, by omega, rfl, by rw [hds, ha], by simpa using ho'⟩⟩
    · have hm : (l.getD k default).text ∈ o := by simpa using h2
      have ha : addT o (l.getD k default).text = o := by
        rw [addT, if_pos ((mem_same _ _).1 hm)]
      simp only [go_sem, Nat.reduceAdd, Nat.reduceSub, Nat.reduceMul, Nat.reduceLT, Nat.reduceLeDiff, ↓reduceIte, reduceCtorEq, Nat.reduceEqDiff, Int.reduceToNat, Int.reduceLT, Int.reduceLE, Int.reduceEq, beq_self_eq_true, wrapNat k (by omega)]
      exact ⟨l.length - (k + 1), by omega, k + 1, d, ex ++ [(((.pair (.pair (.pair .leaf (.pair .leaf .unit)) (.pair .leaf .unit)) (.pair .leaf (.pair .leaf .unit))) : Sh), wrD (l.getD k default))], _, o, q, reg_intro rfl rfl ⟨rfl, by omega, by rw [hx]; simp, by rw [hds, ha], outX_push ho _ (by simp)⟩⟩
  · have hi := of_decide_eq_false hc
    obtain rfl : k = l.length := by omega
    rw [List.take_length] at hoo
    subst hoo
    simp only [go_sem, Nat.reduceAdd, Nat.reduceSub, Nat.reduceMul, Nat.reduceLT, Nat.reduceLeDiff, ↓reduceIte, reduceCtorEq, Nat.reduceEqDiff, Int.reduceToNat, Int.reduceLT, Int.reduceLE, Int.reduceEq, beq_self_eq_true, outX_nrm ho]
    obtain ⟨hpu, hpl, ho⟩ := ho
    rcases ho with ⟨rfl, hnil⟩ | ⟨j, N, L, rfl, hj, hL, hlN, hN, htk⟩
    · refine callK_a (sortS_nil .full _ tk) ?_
      rintro _ _ ⟨rfl, rfl⟩
      simp only [go_sem, Nat.reduceAdd, Nat.reduceSub, Nat.reduceMul, Nat.reduceLT, Nat.reduceLeDiff, ↓reduceIte, reduceCtorEq, Nat.reduceEqDiff, Int.reduceToNat, Int.reduceLT, Int.reduceLE, Int.reduceEq, beq_self_eq_true]
      have hnil' : dedupT (wrTexts l) = [] := by simpa using hnil
      refine finH_all ?_ (q := textsD (sortT (dedupT (wrTexts l))) .no) (by rw [hnil']; simp [meltD, sortT, bytesOf, sortB]) trivial ⟨trivial, rfl⟩
      intro N s' L hm
      rw [hx] at hm
      rcases List.mem_append.1 hm with h | h
      · simp at h
      · exact hpu _ _ _ h
    · have hjl : j < ex.length := (List.getElem?_eq_some_iff.1 hj).1
      have hbx : x[1 + j]? = some (.arr N (CT.sh 9), .agg L) := by rw [hx, List.getElem?_append_right (by simp)]; simpa using hj
      simp only [List.length_map] at hlN htk hL ⊢
      have hbl : (bytesOf (dedupT (wrTexts l))).length = (dedupT (wrTexts l)).length := by simp [bytesOf]
      have hsl : (sortB (bytesOf (dedupT (wrTexts l)))).length = (dedupT (wrTexts l)).length := by rw [← hbl]; exact List.length_mergeSort _
      have hsort := sortS_sl (bytesOf (dedupT (wrTexts l))) (by omega) tk hbx (by omega) (by rw [hbl, htk, enc_bytes])
      rw [hbl] at hsort
      refine callK_a hsort ?_
      rintro _ _ ⟨rfl, rfl⟩
      simp only [go_sem, Nat.reduceAdd, Nat.reduceSub, Nat.reduceMul, Nat.reduceLT, Nat.reduceLeDiff, ↓reduceIte, reduceCtorEq, Nat.reduceEqDiff, Int.reduceToNat, Int.reduceLT, Int.reduceLE, Int.reduceEq, beq_self_eq_true]
      have hset : ∀ z, x.set (1 + j) z = [((.obj 1 : Sh), setG kS (dedupT (wrTexts l)) q)] ++ ex.set j z := fun z => by rw [hx, List.set_append_right _ _ (by simp)]; simp
      rw [hset]
      have hpL : pureL L := hpu _ _ _ (List.mem_of_getElem? hj)
      refine finH_all ?_ (q := textsD (sortT (dedupT (wrTexts l))) .no) ?_ trivial ⟨trivial, rfl⟩
      · intro N' s' L' hm
        rcases List.mem_append.1 hm with h | h
        · simp at h
        · rcases List.mem_or_eq_of_mem_set h with h' | h'
          · exact hpu _ _ _ h'
          · simp only [Prod.mk.injEq, D.agg.injEq] at h'
            obtain ⟨_, rfl⟩ := h'
            exact pureL_ov hpL (pureL_all fun d hd => by obtain ⟨n, _, rfl⟩ := List.mem_map.1 hd; trivial)
      · have hg : ∀ z, ([((.obj 1 : Sh), setG kS (dedupT (wrTexts l)) q)] ++ ex.set j z)[1 + j]? = some z := fun z => by
          rw [List.getElem?_append_right (by simp)]
          simp [hjl]
        simp only [meltD]
        rw [if_pos (by omega), hg]
        simp only [List.drop_zero, enc_sorted]
        have := overL_take (L := L) (m := (sortT (dedupT (wrTexts l))).map fun x => D.lit (.string x)) (n := 0) (by simp [sortT, hsl]; omega)
        simp only [Nat.zero_add, List.length_map, List.take_zero, List.nil_append] at this
        have e : (sortT (dedupT (wrTexts l))).length = (dedupT (wrTexts l)).length := by rw [sortT, List.length_map, hsl]
        rw [e] at this
        rw [this]
end Go.Ab
set_option linter.unusedSimpArgs false
namespace Go.Ab
open Go.Proofs

theorem less_lt : ∀ (x y : List UInt8), Op.bytesLess x y = decide (x < y)
  | [], [] => by simp [Op.bytesLess]
  | _ :: _, [] => by simp [Op.bytesLess]
  | [], _ :: _ => by simp [Op.bytesLess]
  | a :: x, b :: y => by
    rw [Op.bytesLess, less_lt x y]
    simp only [List.cons_lt_cons_iff]
    by_cases h1 : a < b <;> by_cases h2 : a = b <;> by_cases h3 : x < y <;> simp [h1, h2, h3]
theorem bLt_iff (a b : ByteArray) : bLt a b = true ↔ a.data.toList < b.data.toList := by
  rw [bLt, less_lt, Lib.toList_data, Lib.toList_data]; simp
theorem txt_inj {a b : ByteArray} (h : a.data.toList = b.data.toList) : a = b := by
  cases a with | mk x => cases b with | mk y =>
  have : x = y := by rw [← Array.toList_inj]; exact h
  rw [this]
theorem lt_tr {a b c : List UInt8} (h : a < b) (k : b < c) : a < c := by
  have h1 : a ≤ c := List.le_trans (List.le_of_lt h) (List.le_of_lt k)
  rcases List.le_total c a with h2 | h2
  · exact absurd (List.le_antisymm (List.le_of_lt h) (List.le_trans (List.le_of_lt k) h2)) (fun e => by subst e; exact List.lt_irrefl _ h)
  · rw [← List.not_le]
    intro h3
    have e := List.le_antisymm h3 h1
    subst e
    have e2 := List.le_antisymm (List.le_of_lt h) (List.le_of_lt k)
    subst e2
    exact List.lt_irrefl _ h
theorem bLt_trans {a b c : ByteArray} (h : bLt a b = true) (k : bLt b c = true) : bLt a c = true := by
  rw [bLt_iff] at *; exact lt_tr h k
theorem bLt_irr (a : ByteArray) : bLt a a = false := by
  cases h : bLt a a with
  | false => rfl
  | true => rw [bLt_iff] at h; exact absurd h (List.lt_irrefl _)
theorem bLt_total {a b : ByteArray} (h : bLt a b = false) (hne : a ≠ b) : bLt b a = true := by
  rw [bLt_iff]
  have h1 : ¬ a.data.toList < b.data.toList := fun e => by rw [(bLt_iff a b).2 e] at h; cases h
  rw [List.not_lt] at h1
  rw [← List.not_le]
  intro h2
  exact hne (txt_inj (List.le_antisymm h2 h1))
theorem mem_insB {α : Type} {g : α → Bool} {x z : α} : ∀ {l : List α}, z ∈ insB g x l ↔ z = x ∨ z ∈ l
  | [] => by simp [insB]
  | y :: r => by
    unfold insB
    split
    · simp
    · simp only [List.mem_cons, mem_insB (l := r)]
      constructor <;> (rintro (h | h | h) <;> simp [h])
def Rising (l : List ByteArray) : Prop := l.Pairwise fun a b => bLt a b = true
theorem insB_rising : ∀ {l : List ByteArray} {x : ByteArray}, Rising l → x ∉ l → Rising (insB (goesB x) x l)
  | [], x, _, _ => by simp [insB, Rising]
  | y :: r, x, h, hn => by
    simp only [Rising, List.pairwise_cons] at h
    unfold insB
    split
    · rename_i hg
      simp only [Rising, List.pairwise_cons, List.mem_cons]
      refine ⟨?_, h⟩
      rintro z (rfl | hz)
      · exact hg
      · exact bLt_trans hg (h.1 z hz)
    · rename_i hg
      have hyx : bLt y x = true := bLt_total (by simpa [goesB] using hg) (fun e => hn (by simp [e]))
      simp only [Rising, List.pairwise_cons]
      refine ⟨?_, insB_rising h.2 fun e => hn (by simp [e])⟩
      intro z hz
      rcases mem_insB.1 hz with rfl | hz
      · exact hyx
      · exact h.1 z hz
theorem mem_rise {l : List ByteArray} {x z : ByteArray} : z ∈ riseL l x ↔ z = x ∨ z ∈ l := by
  unfold riseL
  split
  · rename_i h
    rw [← mem_same] at h
    constructor
    · exact .inr
    · rintro (rfl | h2)
      · exact h
      · exact h2
  · exact mem_insB
theorem rise_rising {l : List ByteArray} {x : ByteArray} (h : Rising l) : Rising (riseL l x) := by
  unfold riseL
  split
  · exact h
  · rename_i hn
    exact insB_rising h fun e => hn ((mem_same _ _).1 e)
theorem rises_spec : ∀ (l o : List ByteArray), Rising o → Rising (l.foldl riseL o) ∧ ∀ z, z ∈ l.foldl riseL o ↔ z ∈ o ∨ z ∈ l
  | [], o, h => ⟨h, by simp⟩
  | x :: r, o, h => by
    obtain ⟨h1, h2⟩ := rises_spec r (riseL o x) (rise_rising h)
    refine ⟨h1, fun z => ?_⟩
    rw [List.foldl_cons, h2, mem_rise, List.mem_cons]
    constructor
    · rintro ((h | h) | h) <;> simp [h]
    · rintro (h | h | h) <;> simp [h]
theorem dedup_spec : ∀ (l o : List ByteArray), o.Nodup → (l.foldl addT o).Nodup ∧ ∀ z, z ∈ l.foldl addT o ↔ z ∈ o ∨ z ∈ l
  | [], o, h => ⟨h, by simp⟩
  | x :: r, o, h => by
    have ha : (addT o x).Nodup ∧ ∀ z, z ∈ addT o x ↔ z ∈ o ∨ z = x := by
      unfold addT
      split
      · rename_i hm
        rw [← mem_same] at hm
        exact ⟨h, fun z => ⟨.inl, by rintro (h | rfl); exact h; exact hm⟩⟩
      · rename_i hm
        rw [← mem_same] at hm
        refine ⟨List.nodup_append.2 ⟨h, by simp, ?_⟩, fun z => by simp⟩
        intro a ha b hb e
        rw [List.mem_singleton] at hb
        subst hb; subst e; exact hm ha
    obtain ⟨h1, h2⟩ := dedup_spec r (addT o x) ha.1
    refine ⟨h1, fun z => ?_⟩
    rw [List.foldl_cons, h2, ha.2, List.mem_cons]
    constructor
    · rintro ((h | h) | h) <;> simp [h]
    · rintro (h | h | h) <;> simp [h]
theorem sortT_spec {l : List ByteArray} (hn : l.Nodup) : Rising (sortT l) ∧ ∀ z, z ∈ sortT l ↔ z ∈ l := by
  have hp : (sortB (bytesOf l)).Perm (bytesOf l) := List.mergeSort_perm _ _
  have hnb : (bytesOf l).Nodup := by
    rw [bytesOf, List.Nodup, List.pairwise_map]
    exact hn.imp fun h e => h (txt_inj e)
  have hs : (sortB (bytesOf l)).Pairwise fun a b => a < b := by
    have h1 := List.pairwise_mergeSort (le := fun x y : List UInt8 => decide (x ≤ y)) (fun a b c => by simpa using List.le_trans) (fun a b => by simpa using List.le_total a b) (bytesOf l)
    have h2 : (sortB (bytesOf l)).Nodup := hp.nodup_iff.2 hnb
    refine (h1.and h2).imp ?_
    rintro a b ⟨h3, h4⟩
    simp only [decide_eq_true_eq] at h3
    rw [← List.not_le]
    intro h5
    exact h4 (List.le_antisymm h3 h5)
  refine ⟨?_, fun z => ?_⟩
  · rw [Rising, sortT, List.pairwise_map]
    refine hs.imp fun h => ?_
    rw [bLt_iff]; simpa using h
  · simp only [sortT, List.mem_map]
    constructor
    · rintro ⟨n, hn1, rfl⟩
      have := hp.mem_iff.1 hn1
      simp only [bytesOf, List.mem_map] at this
      obtain ⟨x, hx, rfl⟩ := this
      cases x with | mk a => simpa using hx
    · intro hz
      refine ⟨z.data.toList, hp.mem_iff.2 (List.mem_map.2 ⟨z, hz, rfl⟩), ?_⟩
      cases z with | mk a => simp
theorem rising_ext {l m : List ByteArray} (h1 : Rising l) (h2 : Rising m) (h : ∀ z, z ∈ l ↔ z ∈ m) : l = m := by
  have nd : ∀ {l : List ByteArray}, Rising l → l.Nodup := fun h => h.imp fun {a b} hab e => by subst e; rw [bLt_irr] at hab; cases hab
  refine List.Perm.eq_of_pairwise (le := fun a b => bLt a b = true) (fun a b _ _ h3 h4 => ?_) h1 h2 ((List.perm_ext_iff_of_nodup (nd h1) (nd h2)).2 h)
  have := bLt_trans h3 h4
  rw [bLt_irr] at this; cases this
theorem sort_rises (l : List ByteArray) : sortT (dedupT l) = risesL l := by
  obtain ⟨h1, h2⟩ := dedup_spec l [] (by simp)
  obtain ⟨h3, h4⟩ := sortT_spec (l := dedupT l) h1
  obtain ⟨h5, h6⟩ := rises_spec l [] (by simp [Rising])
  refine rising_ext h3 h5 fun z => ?_
  rw [h4]; exact (h2 z).trans (h6 z).symm

set_option maxRecDepth 8000 in
theorem register_read (c : CellR) (hw : c.wr.length < 100000000) : PSpec Try.prog CT 48 [cellD c] (· = valD (readR c)) := by
  refine PSpec.of hT Try.func48 rfl (by kernel_rfl) rfl rfl ?_
  simp only [Try.f48, go_sem, Nat.reduceAdd, Nat.reduceSub, Nat.reduceMul, Nat.reduceLT, Nat.reduceLeDiff, ↓reduceIte, reduceCtorEq, Nat.reduceEqDiff, Int.reduceToNat, Int.reduceLT, Int.reduceLE, Int.reduceEq, beq_self_eq_true]
  refine callK_pure (args' := [cellD c]) (register_check c (by omega)) (by first | rfl | (simp only [go_sem, Nat.reduceAdd, Nat.reduceSub, Nat.reduceMul, Nat.reduceLT, Nat.reduceLeDiff, ↓reduceIte, reduceCtorEq, Nat.reduceEqDiff, Int.reduceToNat, Int.reduceLT, Int.reduceLE, Int.reduceEq, beq_self_eq_true]; done)) (by first | (simp only [go_sem, Nat.reduceAdd, Nat.reduceSub, Nat.reduceMul, Nat.reduceLT, Nat.reduceLeDiff, ↓reduceIte, reduceCtorEq, Nat.reduceEqDiff, Int.reduceToNat, Int.reduceLT, Int.reduceLE, Int.reduceEq, beq_self_eq_true]; done) | (simp [pureL, pureD]; done)) ?_
  simp only [go_sem, Nat.reduceAdd, Nat.reduceSub, Nat.reduceMul, Nat.reduceLT, Nat.reduceLeDiff, ↓reduceIte, reduceCtorEq, Nat.reduceEqDiff, Int.reduceToNat, Int.reduceLT, Int.reduceLE, Int.reduceEq, beq_self_eq_true]
  refine condK_split (fun h1 => ?_) (fun h1 => ?_)
  · have hc : checkR c = false := by simpa using h1
    have hr : readR c = ⟨0, 0, []⟩ := by rw [readR, if_pos hc]
    simp only [go_sem, Nat.reduceAdd, Nat.reduceSub, Nat.reduceMul, Nat.reduceLT, Nat.reduceLeDiff, ↓reduceIte, reduceCtorEq, Nat.reduceEqDiff, Int.reduceToNat, Int.reduceLT, Int.reduceLE, Int.reduceEq, beq_self_eq_true, hr, List.map_nil]
    rfl
  have hck : checkR c = true := by simpa using h1
  have hkind : c.kind = 2 ∨ c.kind = 3 := by
    have : shapeR c = true := by
      have h := hck
      simp only [checkR, Bool.and_eq_true] at h
      exact h.1
    simp only [shapeR, Bool.and_eq_true, Bool.or_eq_true, decide_eq_true_eq] at this
    exact this.1.1.1.1
  simp only [go_sem, Nat.reduceAdd, Nat.reduceSub, Nat.reduceMul, Nat.reduceLT, Nat.reduceLeDiff, ↓reduceIte, reduceCtorEq, Nat.reduceEqDiff, Int.reduceToNat, Int.reduceLT, Int.reduceLE, Int.reduceEq, beq_self_eq_true]
  refine condK_split (fun h2 => ?_) (fun h2 => ?_)
  · have h2' := of_decide_eq_true h2
    have hr : readR c = ⟨c.kind, 0, latestL c.wr⟩ := by rw [readR, if_neg (by rw [hck]; simp), if_neg (by omega)]
    simp only [go_sem, Nat.reduceAdd, Nat.reduceSub, Nat.reduceMul, Nat.reduceLT, Nat.reduceLeDiff, ↓reduceIte, reduceCtorEq, Nat.reduceEqDiff, Int.reduceToNat, Int.reduceLT, Int.reduceLE, Int.reduceEq, beq_self_eq_true]
    refine .inl ⟨by kernel_rfl, ?_⟩
    try simp only [go_sem, Nat.reduceAdd, Nat.reduceSub, Nat.reduceMul, Nat.reduceLT, Nat.reduceLeDiff, ↓reduceIte, reduceCtorEq, Nat.reduceEqDiff, Int.reduceToNat, Int.reduceLT, Int.reduceLE, Int.reduceEq, beq_self_eq_true]
    refine callD_pure (register_last c.wr (by omega)) (by first | rfl | (simp only [go_sem, Nat.reduceAdd, Nat.reduceSub, Nat.reduceMul, Nat.reduceLT, Nat.reduceLeDiff, ↓reduceIte, reduceCtorEq, Nat.reduceEqDiff, Int.reduceToNat, Int.reduceLT, Int.reduceLE, Int.reduceEq, beq_self_eq_true]; done)) (by first | (simp only [go_sem, Nat.reduceAdd, Nat.reduceSub, Nat.reduceMul, Nat.reduceLT, Nat.reduceLeDiff, ↓reduceIte, reduceCtorEq, Nat.reduceEqDiff, Int.reduceToNat, Int.reduceLT, Int.reduceLE, Int.reduceEq, beq_self_eq_true]; done) | (simp [pureL, pureD]; done)) ?_
    simp only [go_sem, Nat.reduceAdd, Nat.reduceSub, Nat.reduceMul, Nat.reduceLT, Nat.reduceLeDiff, ↓reduceIte, reduceCtorEq, Nat.reduceEqDiff, Int.reduceToNat, Int.reduceLT, Int.reduceLE, Int.reduceEq, beq_self_eq_true, hr]
  · have h2' := of_decide_eq_false h2
    have hr : readR c = ⟨c.kind, 0, risesL (wrTexts c.wr)⟩ := by rw [readR, if_neg (by rw [hck]; simp), if_pos (by omega)]
    simp only [go_sem, Nat.reduceAdd, Nat.reduceSub, Nat.reduceMul, Nat.reduceLT, Nat.reduceLeDiff, ↓reduceIte, reduceCtorEq, Nat.reduceEqDiff, Int.reduceToNat, Int.reduceLT, Int.reduceLE, Int.reduceEq, beq_self_eq_true]
    refine .inl ⟨by kernel_rfl, ?_⟩
    try simp only [go_sem, Nat.reduceAdd, Nat.reduceSub, Nat.reduceMul, Nat.reduceLT, Nat.reduceLeDiff, ↓reduceIte, reduceCtorEq, Nat.reduceEqDiff, Int.reduceToNat, Int.reduceLT, Int.reduceLE, Int.reduceEq, beq_self_eq_true]
    refine callD_pure (register_all c.wr (by omega)) (by first | rfl | (simp only [go_sem, Nat.reduceAdd, Nat.reduceSub, Nat.reduceMul, Nat.reduceLT, Nat.reduceLeDiff, ↓reduceIte, reduceCtorEq, Nat.reduceEqDiff, Int.reduceToNat, Int.reduceLT, Int.reduceLE, Int.reduceEq, beq_self_eq_true]; done)) (by first | (simp only [go_sem, Nat.reduceAdd, Nat.reduceSub, Nat.reduceMul, Nat.reduceLT, Nat.reduceLeDiff, ↓reduceIte, reduceCtorEq, Nat.reduceEqDiff, Int.reduceToNat, Int.reduceLT, Int.reduceLE, Int.reduceEq, beq_self_eq_true]; done) | (simp [pureL, pureD]; done)) ?_
    simp only [go_sem, Nat.reduceAdd, Nat.reduceSub, Nat.reduceMul, Nat.reduceLT, Nat.reduceLeDiff, ↓reduceIte, reduceCtorEq, Nat.reduceEqDiff, Int.reduceToNat, Int.reduceLT, Int.reduceLE, Int.reduceEq, beq_self_eq_true, hr, sort_rises]
end Go.Ab
