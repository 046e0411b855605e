/- Registers: what the program reads. Conditions: none. -/
import Derived.Test.YtehcjnendfpbaaaGreatReK
import Derived.Test.YtehcjnendfpbaaaGreatSoB
import Derived.Test.YtehcjnendfpbaaaGreatAbPg
set_option linter.unusedSimpArgs false
namespace Go.Ab
open Go.Proofs

def bestF (w0 : WriteR) (r : List WriteR) : WriteR := r.foldl (fun b w => if b.time ≤ w.time then w else b) w0
theorem bestF_snoc (w0 : WriteR) (r : List WriteR) (k : Nat) (hk : k < r.length) : bestF w0 (r.take (k + 1)) = if (bestF w0 (r.take k)).time ≤ (r.getD k default).time then r.getD k default else bestF w0 (r.take k) := by
  rw [take_snocG r k hk]; simp only [bestF, List.foldl_append, List.foldl_cons, List.foldl_nil]
  rfl
theorem best_same (w0 : WriteR) (r : List WriteR) : ∀ k, k ≤ r.length → 0 ≤ bestAt (w0 :: r) (k + 1) ∧ (w0 :: r).getD (bestAt (w0 :: r) (k + 1)).toNat default = bestF w0 (r.take k)
  | 0, _ => by simp [bestAt, bestF]
  | k + 1, hk => by
    obtain ⟨h1, h2⟩ := best_same w0 r k (by omega)
    have e : (w0 :: r).getD (k + 1) default = r.getD k default := by simp
    have hs := bestF_snoc w0 r k (by omega)
    rw [bestAt, h2, e]
    by_cases h : (bestF w0 (r.take k)).time ≤ (r.getD k default).time
    · rw [if_pos (.inr h)]
      rw [if_pos h] at hs
      exact ⟨by omega, by rw [hs]; simp⟩
    · rw [if_neg (by rintro (h3 | h3); omega; exact h h3)]
      rw [if_neg h] at hs
      exact ⟨h1, by rw [hs]; exact h2⟩
theorem latest_cons (w0 : WriteR) (r : List WriteR) : latestL (w0 :: r) = [(bestF w0 r).text] := by
  obtain ⟨h1, h2⟩ := best_same w0 r r.length (Nat.le_refl _)
  rw [List.take_length] at h2
  rw [latestL, List.length_cons, if_neg (by omega), h2]

theorem wr_get (r : List WriteR) (k : Nat) (h : (k < r.length) = True) : (r.map wrD)[k]? = some (wrD (r.getD k default)) := get_enc _ _ _ h
set_option maxRecDepth 8000 in
theorem register_last (l : List WriteR) (hl : l.length < 1000000000) : PSpec Tryz.prog CT 139 [wrsD l .no] (· = textsD (latestL l) .no) := by
  refine PSpec.of hT Tryz.func139 rfl (by kernel_rfl) rfl rfl ?_
  cases l with
  | nil =>
    have : latestL [] = [] := rfl
    simp only [Tryz.f139, go_sem, simprocAttr, List.map_nil, List.length_nil, this, decide_true, Int.natCast_zero, Int.cast_ofNat_Int]
    rfl
  | cons w0 r =>
    have h0 : (((w0 :: r).map wrD).length : Int) = 0 ↔ False := by simp; omega
    simp only [List.length_cons] at hl
    simp only [Tryz.f139, go_sem, simprocAttr, List.map_cons, List.length_cons]
    refine condK_split (fun h => absurd (of_decide_eq_true h) (by omega)) (fun _ => ?_)
    simp only [go_sem, simprocAttr, List.length_cons, List.length_map, List.drop_succ_cons, List.drop_zero]
    refine awp_loop (fun n s => ∃ (k : Nat) (x : WriteR) (ex : List (Sh × D)) (g : Nat → D), s = ⟨[g 0, g 1, g 2, .ptr 0 [], g 4, g 5, g 6, g 7, g 8, g 9, g 10, g 11, g 12, wrsD r .no, .lit (.int .i64 r.length), .lit (.int .i64 k), g 16, g 17, g 18, g 19, g 20, g 21, g 22, g 23, g 24, g 25, g 26, g 27, g 28], ⟨((.pair (.pair (.pair .leaf (.pair .leaf .unit)) (.pair .leaf .unit)) (.pair .leaf (.pair .leaf .unit))), wrD x) :: ex, []⟩⟩ ∧ n = r.length - k ∧ k ≤ r.length ∧ x = bestF w0 (r.take k)) r.length ⟨0, w0, [], reg_intro rfl rfl ⟨by simp, by omega, rfl⟩⟩ ?_
    rintro n st ⟨k, x, ex, g, rfl, hn, hk, hx⟩
    simp only [go_sem, simprocAttr]
    refine condK_split (fun hc => ?_) (fun hc => ?_)
    · have hk' : k < r.length := by have := of_decide_eq_true hc; omega
      have hs := bestF_snoc w0 r k hk'
      rw [← hx] at hs
      simp only [go_sem, simprocAttr, hk', wr_get]
      refine condK_split (fun h2 => ?_) (fun h2 => ?_)
      · rw [if_pos (of_decide_eq_true h2)] at hs
        simp only [go_sem, simprocAttr, hk', wr_get, wrapNat k (by omega)]
        exact ⟨r.length - (k + 1), by omega, k + 1, _, _, reg_intro rfl rfl ⟨rfl, by omega, hs.symm⟩⟩
      · rw [if_neg (of_decide_eq_false h2)] at hs
        simp only [go_sem, simprocAttr, hk', wr_get, wrapNat k (by omega)]
        exact ⟨r.length - (k + 1), by omega, k + 1, x, _, reg_intro rfl rfl ⟨rfl, by omega, hs.symm⟩⟩
    · have hi := of_decide_eq_false hc
      obtain rfl : k = r.length := by omega
      rw [List.take_length] at hx
      subst hx
      simp only [go_sem, simprocAttr, latest_cons, List.map_cons, List.map_nil]
      rfl

theorem dedup_snoc (l : List WriteR) (k : Nat) (hk : k < l.length) : dedupT (wrTexts (l.take (k + 1))) = addT (dedupT (wrTexts (l.take k))) (l.getD k default).text := by
  rw [take_snocG l k hk]; simp [dedupT, wrTexts]
set_option maxRecDepth 8000 in
set_option maxHeartbeats 1000000 in
theorem register_all (l : List WriteR) (hl : l.length < 100000000) : PSpec Tryz.prog CT 140 [wrsD l .no] (· = textsD (sortT (dedupT (wrTexts l))) .no) := by
  have hK : KeyEnc CT 9 kS := keyStr rfl
  refine HSpec.pure (HSpec.of hT Tryz.func140 rfl (by kernel_rfl) rfl rfl fun tk => ?_)
  simp only [Tryz.f140, go_sem, simprocAttr]
  refine ⟨isMap_ok rfl, ?_⟩
  refine awp_loop (fun n s => ∃ (k : Nat) (d : D) (ex x : List (Sh × D)) (o : List ByteArray) (q : Nat) (g : Nat → D), s = ⟨[g 0, g 1, g 2, .mref 0, d, g 5, g 6, g 7, wrsD l .no, .lit (.int .i64 l.length), .lit (.int .i64 k), g 11, g 12, g 13, g 14, g 15, g 16, g 17, g 18, g 19, g 20, g 21, g 22, g 23, g 24, g 25, g 26, g 27, g 28, g 29, g 30], ⟨x, tk⟩⟩ ∧ n = l.length - k ∧ k ≤ l.length ∧ x = [(.obj 1, setG kS o q)] ++ ex ∧ o = dedupT (wrTexts (l.take k)) ∧ OutX 9 1 d ex (o.map kS)) l.length ⟨0, _, [], _, [], 0, reg_intro rfl rfl ⟨by simp, by omega, rfl, rfl, outX_nil _ _⟩⟩ ?_
  rintro n st ⟨k, d, ex, x, o, q, g, rfl, hn, hk, hx, hoo, ho⟩
  have hol := dedup_len (wrTexts (l.take k))
  have hwl : (wrTexts (l.take k)).length ≤ k := by simp [wrTexts]; omega
  rw [← hoo] at hol
  simp only [go_sem, simprocAttr]
  refine condK_split (fun hc => ?_) (fun hc => ?_)
  · have hk' : k < l.length := by have := of_decide_eq_true hc; omega
    have hds := dedup_snoc l k hk'
    rw [← hoo] at hds
    have h0 : ∀ y, (x ++ [y])[0]? = some (.obj 1, setG kS o q) := fun y => by rw [hx]; simp
    have hset : ∀ y z, (x ++ [y]).set 0 z = [z] ++ (ex ++ [y]) := fun y z => by rw [hx]; simp
    simp only [go_sem, simprocAttr, hk', wr_get]
    rw [setLook_g hK (t := 153) rfl rfl (h0 _) (l.getD k default).text rfl]
    simp only [go_sem, simprocAttr]
    refine condK_split (fun h2 => ?_) (fun h2 => ?_)
    · have hm : (l.getD k default).text ∉ o := by simpa using h2
      have ha : addT o (l.getD k default).text = o ++ [(l.getD k default).text] := by
        rw [addT, if_neg]; rw [← mem_same]; exact hm
      simp only [go_sem, simprocAttr, hk', wr_get]
      refine setUpd_g hK (e := 4) rfl (h0 _) (l.getD k default).text rfl ?_
      rintro s' g' (⟨h3, _⟩ | ⟨_, rfl, rfl⟩)
      · exact absurd h3 hm
      rw [hset]
      have hget : ∀ z y, (z :: (ex ++ [y]))[x.length]? = some y := fun z y => by rw [hx]; simp
      have ho2 := outX_push ho [(((.pair (.pair (.pair .leaf (.pair .leaf .unit)) (.pair .leaf .unit)) (.pair .leaf (.pair .leaf .unit))) : Sh), wrD (l.getD k default))] (by simp)
      simp only [go_sem, simprocAttr, hget, outX_nrm ho]
      refine outX_app (x := .lit (.string (l.getD k default).text)) (base := [((.obj 1 : Sh), setG kS (o ++ [(l.getD k default).text]) (q + 1))]) _ ho2 rfl (by rw [List.length_map]; omega) ⟨by decide, by decide⟩ trivial trivial fun d' ex' ho' _ => ?_
      simp only [go_sem, simprocAttr, outX_nrm ho', wrapNat k (by omega)]
      exact ⟨l.length - (k + 1), by omega, k + 1, d', ex', _, o ++ [(l.getD k default).text], q + 1, reg_intro rfl rfl ⟨rfl, by omega, rfl, by rw [hds, ha], by simpa using ho'⟩⟩
    · have hm : (l.getD k default).text ∈ o := by simpa using h2
      have ha : addT o (l.getD k default).text = o := by
        rw [addT, if_pos ((mem_same _ _).1 hm)]
      simp only [go_sem, simprocAttr, wrapNat k (by omega)]
      exact ⟨l.length - (k + 1), by omega, k + 1, d, ex ++ [(((.pair (.pair (.pair .leaf (.pair .leaf .unit)) (.pair .leaf .unit)) (.pair .leaf (.pair .leaf .unit))) : Sh), wrD (l.getD k default))], _, o, q, reg_intro rfl rfl ⟨rfl, by omega, by rw [hx]; simp, by rw [hds, ha], outX_push ho _ (by simp)⟩⟩
  · have hi := of_decide_eq_false hc
    obtain rfl : k = l.length := by omega
    rw [List.take_length] at hoo
    subst hoo
    simp only [go_sem, simprocAttr, outX_nrm ho]
    obtain ⟨hpu, hpl, ho⟩ := ho
    rcases ho with ⟨rfl, hnil⟩ | ⟨j, N, L, rfl, hj, hL, hlN, hN, htk⟩
    · refine callK_a (sortS_nil .full _ tk) ?_
      rintro _ _ ⟨rfl, rfl⟩
      simp only [go_sem, simprocAttr]
      have hnil' : dedupT (wrTexts l) = [] := by simpa using hnil
      refine finH_all ?_ (q := textsD (sortT (dedupT (wrTexts l))) .no) (by rw [hnil']; simp [meltD, sortT, bytesOf, sortB]) trivial ⟨trivial, rfl⟩
      intro N s' L hm
      rw [hx] at hm
      rcases List.mem_append.1 hm with h | h
      · simp at h
      · exact hpu _ _ _ h
    · have hjl : j < ex.length := (List.getElem?_eq_some_iff.1 hj).1
      have hbx : x[1 + j]? = some (.arr N (CT.sh 9), .agg L) := by rw [hx, List.getElem?_append_right (by simp)]; simpa using hj
      simp only [List.length_map] at hlN htk hL ⊢
      have hbl : (bytesOf (dedupT (wrTexts l))).length = (dedupT (wrTexts l)).length := by simp [bytesOf]
      have hsl : (sortB (bytesOf (dedupT (wrTexts l)))).length = (dedupT (wrTexts l)).length := by rw [← hbl]; exact List.length_mergeSort _
      have hsort := sortS_sl (bytesOf (dedupT (wrTexts l))) (by omega) tk hbx (by omega) (by rw [hbl, htk, enc_bytes])
      rw [hbl] at hsort
      refine callK_a hsort ?_
      rintro _ _ ⟨rfl, rfl⟩
      simp only [go_sem, simprocAttr]
      have hset : ∀ z, x.set (1 + j) z = [((.obj 1 : Sh), setG kS (dedupT (wrTexts l)) q)] ++ ex.set j z := fun z => by rw [hx, List.set_append_right _ _ (by simp)]; simp
      rw [hset]
      have hpL : pureL L := hpu _ _ _ (List.mem_of_getElem? hj)
      refine finH_all ?_ (q := textsD (sortT (dedupT (wrTexts l))) .no) ?_ trivial ⟨trivial, rfl⟩
      · intro N' s' L' hm
        rcases List.mem_append.1 hm with h | h
        · simp at h
        · rcases List.mem_or_eq_of_mem_set h with h' | h'
          · exact hpu _ _ _ h'
          · simp only [Prod.mk.injEq, D.agg.injEq] at h'
            obtain ⟨_, rfl⟩ := h'
            exact pureL_ov hpL (pureL_all fun d hd => by obtain ⟨n, _, rfl⟩ := List.mem_map.1 hd; trivial)
      · have hg : ∀ z, ([((.obj 1 : Sh), setG kS (dedupT (wrTexts l)) q)] ++ ex.set j z)[1 + j]? = some z := fun z => by
          rw [List.getElem?_append_right (by simp)]
          simp [hjl]
        simp only [meltD]
        rw [if_pos (by omega), hg]
        simp only [List.drop_zero, enc_sorted]
        have := overL_take (L := L) (m := (sortT (dedupT (wrTexts l))).map fun x => D.lit (.string x)) (n := 0) (by simp [sortT, hsl]; omega)
        simp only [Nat.zero_add, List.length_map, List.take_zero, List.nil_append] at this
        have e : (sortT (dedupT (wrTexts l))).length = (dedupT (wrTexts l)).length := by rw [sortT, List.length_map, hsl]
        rw [e] at this
        rw [this]
end Go.Ab
set_option linter.unusedSimpArgs false
namespace Go.Ab
open Go.Proofs

set_option maxRecDepth 8000 in
theorem register_read (c : CellR) (hw : c.wr.length < 100000000) : PSpec Tryz.prog CT 132 [cellD c] (· = valD (readR c)) := by
  refine PSpec.of hT Tryz.func132 rfl (by kernel_rfl) rfl rfl ?_
  simp only [Tryz.f132, go_sem, simprocAttr]
  refine callK_pure (args' := [cellD c]) (register_check c (by omega)) (by first | rfl | (simp only [go_sem]; done)) (by first | (simp only [go_sem]; done) | (simp [pureL, pureD]; done)) ?_
  simp only [go_sem, simprocAttr]
  refine condK_split (fun h1 => ?_) (fun h1 => ?_)
  · have hc : checkR c = false := by simpa using h1
    have hr : readR c = ⟨0, 0, []⟩ := by rw [readR, if_pos hc]
    simp only [go_sem, simprocAttr, hr, List.map_nil]
    rfl
  have hck : checkR c = true := by simpa using h1
  have hkind : c.kind = 2 ∨ c.kind = 3 := by
    have : shapeR c = true := by
      have h := hck
      simp only [checkR, Bool.and_eq_true] at h
      exact h.1
    simp only [shapeR, Bool.and_eq_true, Bool.or_eq_true, decide_eq_true_eq] at this
    exact this.1.1.1.1
  simp only [go_sem, simprocAttr]
  refine condK_split (fun h2 => ?_) (fun h2 => ?_)
  · have h2' := of_decide_eq_true h2
    have hr : readR c = ⟨c.kind, 0, latestL c.wr⟩ := by rw [readR, if_neg (by rw [hck]; simp), if_neg (by omega)]
    simp only [go_sem, simprocAttr]
    refine .inl ⟨by kernel_rfl, ?_⟩
    try simp only [go_sem, simprocAttr]
    refine callD_pure (register_last c.wr (by omega)) (by first | rfl | (simp only [go_sem]; done)) (by first | (simp only [go_sem]; done) | (simp [pureL, pureD]; done)) ?_
    simp only [go_sem, simprocAttr, hr]
  · have h2' := of_decide_eq_false h2
    have hr : readR c = ⟨c.kind, 0, risesL (wrTexts c.wr)⟩ := by rw [readR, if_neg (by rw [hck]; simp), if_pos (by omega)]
    simp only [go_sem, simprocAttr]
    refine .inl ⟨by kernel_rfl, ?_⟩
    try simp only [go_sem, simprocAttr]
    refine callD_pure (register_all c.wr (by omega)) (by first | rfl | (simp only [go_sem]; done)) (by first | (simp only [go_sem]; done) | (simp [pureL, pureD]; done)) ?_
    simp only [go_sem, simprocAttr, hr, sort_rises]
end Go.Ab
