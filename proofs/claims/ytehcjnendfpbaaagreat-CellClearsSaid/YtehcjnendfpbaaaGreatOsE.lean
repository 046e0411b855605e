/- Sets: a map's members, closed. Conditions: none. -/
import Derived.Test.YtehcjnendfpbaaaGreatOsB
set_option linter.unusedSimpArgs false
namespace Go.Ab
open Go.Proofs

abbrev cellSh : Sh := (.pair .leaf (.pair .leaf (.pair .leaf (.pair .leaf (.pair .leaf (.pair .leaf .unit))))))
abbrev cellM (c : CellR) (l : List MemberR) (u : Tok) : D := .agg [.lit (.int .i64 c.kind), .lit (.int .i64 c.base), .lst 72 (c.am.map amD) .no, .lst 64 (c.wr.map wrD) .no, .lst 67 (l.map meD) u, .lst 69 (c.el.map elD) .no]
theorem me_snoc (l : List MemberR) (m : MemberR) : l.map meD ++ [meD m] = (l ++ [m]).map meD := by simp
theorem pure_meD (m : MemberR) : pureD (meD m) := by simp [pureD, pureL]
theorem sort_same {l m : List ByteArray} (h1 : l.Nodup) (h2 : m.Nodup) (h : ∀ z, z ∈ l ↔ z ∈ m) : sortT l = sortT m := by
  obtain ⟨a1, a2⟩ := sortT_spec h1
  obtain ⟨b1, b2⟩ := sortT_spec h2
  exact rising_ext a1 b1 fun z => by rw [a2, b2, h]
theorem togo_set (l : List (ByteArray × MemberR)) (ms : List ByteArray) (h1 : ms.Nodup) (h2 : ∀ a ∈ ms, a ∈ l.map (·.1)) : ms.length ≤ l.length := by
  have := h1.length_le_of_subset h2
  simpa using this
theorem closeM_len {l : List (ByteArray × MemberR)} : (closeM l).length = l.length := by
  simp only [closeM, List.length_map, sortT]
  exact (List.length_mergeSort _).trans (by simp [bytesOf])
theorem outX_sl {e : TypeId} {k : Nat} {d : D} {base ex : List (Sh × D)} {l : List D} (ho : OutX e k d ex l) (hk : base.length = k) (hl : l ≠ []) : ∃ b N L, d = .sl e b 0 l.length N ∧ k ≤ b ∧ (base ++ ex)[b]? = some (.arr N (CT.sh e), .agg L) ∧ l.length ≤ N ∧ ∀ j, j < l.length → L[j]? = l[j]? := by
  obtain ⟨_, _, ⟨rfl, h⟩ | ⟨j, N, L, rfl, hj, hL, hlN, hN, htk⟩⟩ := ho
  · exact absurd h hl
  · refine ⟨k + j, N, L, rfl, by omega, by rw [List.getElem?_append_right (by omega), hk, Nat.add_sub_cancel_left]; exact hj, hlN, fun i hi => ?_⟩
    conv => rhs; rw [← htk]
    rw [List.getElem?_take, if_pos hi]
/-- A sort of texts, whatever slice of the call's own holds them. -/
theorem sortS_out {k : Nat} {d : D} {base ex : List (Sh × D)} {l : List ByteArray} {tk : List Bool} (ho : OutX 9 k d ex (l.map kS)) (hk : base.length = k) (hl : l.length < 1000000000) :
    ASpec Tryz.prog CT 144 [d] ⟨base ++ ex, tk⟩ fun r h' => r = .tup [] ∧ ∃ ex', h' = ⟨base ++ ex', tk⟩ ∧ ex'.length = ex.length ∧ OutX 9 k d ex' ((sortT l).map kS) := by
  obtain ⟨hpu, hpl, ho⟩ := ho
  have hsl : (sortT l).length = l.length := by simp only [sortT, List.length_map]; exact (List.length_mergeSort _).trans (by simp [bytesOf])
  have hpk : ∀ m : List ByteArray, pureL (m.map kS) := fun m => pureL_all fun d hd => by obtain ⟨n, _, rfl⟩ := List.mem_map.1 hd; trivial
  rcases ho with ⟨rfl, hnil⟩ | ⟨j, N, L, rfl, hj, hL, hlN, hN, htk⟩
  · refine (sortS_nil .full _ tk).mono ?_
    rintro r h' ⟨rfl, rfl⟩
    obtain rfl : l = [] := by simpa using hnil
    exact ⟨rfl, ex, rfl, rfl, hpu, by simp [sortT, bytesOf, sortB, pureL], .inl ⟨rfl, by simp [sortT, bytesOf, sortB]⟩⟩
  · have hjl : j < ex.length := (List.getElem?_eq_some_iff.1 hj).1
    have hbx : (base ++ ex)[k + j]? = some (.arr N (CT.sh 9), .agg L) := by rw [List.getElem?_append_right (by omega), hk, Nat.add_sub_cancel_left]; exact hj
    simp only [List.length_map] at hlN htk hL ⊢
    have hbl : (bytesOf l).length = l.length := by simp [bytesOf]
    have hsort := sortS_sl (bytesOf l) (by omega) tk hbx (by omega) (by rw [hbl, htk, enc_bytes])
    rw [hbl] at hsort
    refine hsort.mono ?_
    rintro r h' ⟨rfl, rfl⟩
    have hset : ∀ z, (base ++ ex).set (k + j) z = base ++ ex.set j z := fun z => by rw [List.set_append_right _ _ (by omega), hk, Nat.add_sub_cancel_left]
    rw [hset]
    have hpL : pureL L := hpu _ _ _ (List.mem_of_getElem? hj)
    refine ⟨rfl, _, rfl, by simp, ?_, hpk _, .inr ⟨j, N, _, by rw [List.length_map, hsl], List.getElem?_set_self hjl, ?_, by rw [List.length_map, hsl]; exact hlN, hN, ?_⟩⟩
    · intro N' s' L' hm
      rcases List.mem_or_eq_of_mem_set hm with h' | h'
      · exact hpu _ _ _ h'
      · simp only [Prod.mk.injEq, D.agg.injEq] at h'
        obtain ⟨_, rfl⟩ := h'
        exact pureL_ov hpL (pureL_all fun d hd => by obtain ⟨n, _, rfl⟩ := List.mem_map.1 hd; trivial)
    · rw [enc_sorted]; simp [overL, hsl]; omega
    · rw [enc_sorted]
      have := overL_take (L := L) (m := (sortT l).map fun x => D.lit (.string x)) (n := 0) (by simp [hsl]; omega)
      simp only [Nat.zero_add, List.length_map, List.take_zero, List.nil_append] at this
      rw [List.length_map]; exact this

set_option maxRecDepth 8000 in
set_option maxHeartbeats 2000000 in
theorem orset_closed (c : CellR) (i : Nat) (l : List (ByteArray × MemberR)) (q : Nat) (bs : List (Sh × D)) (hm : bs[i]? = some (.obj 1, mapG kS meD l q)) (hk : Keyed l) (hl : l.length < 1000000) :
    HSpec Tryz.prog CT 182 [cellD c, .mref i] bs fun r bs' => r = cellD { c with me := closeM l } ∧ bs' = bs := by
  have hK : KeyEnc CT 9 kS := keyStr rfl
  have hil : i < bs.length := (List.getElem?_eq_some_iff.1 hm).1
  refine HSpec.of hT Tryz.func182 rfl (by kernel_rfl) rfl rfl fun tk => ?_
  simp only [Tryz.f182, go_sem, simprocAttr]
  have hm2 : ∀ y z, (bs ++ [y] ++ [z])[i]? = some (.obj 1, mapG kS meD l q) := fun y z => by rw [List.append_assoc, List.getElem?_append_left hil]; exact hm
  refine mapRange_g hK rfl (hm2 _ _) ?_
  simp only [go_sem, simprocAttr]
  refine awp_loop (fun n s => ∃ (x ex : List (Sh × D)) (d : D) (ms : List ByteArray) (g : Nat → D), s = ⟨[g 0, .mref i, .ptr bs.length [], g 3, .ptr (bs.length + 1) [], d, g 6, g 7, g 8, g 9, .ptr (bs.length + 2) [], g 11, g 12, g 13, g 14, g 15, g 16, g 17, g 18, g 19, g 20, g 21, g 22, g 23, g 24, g 25, g 26, g 27, g 28, g 29, g 30, g 31, g 32, g 33, g 34, g 35, g 36, g 37], ⟨x, tk⟩⟩ ∧ n = l.length - ms.length ∧ x = (bs ++ [(cellSh, cellD c), (cellSh, CT.zero 27), (.obj 2, .it i q (ms.map kS))]) ++ ex ∧ OutX 9 (bs.length + 3) d ex (ms.map kS) ∧ ms.Nodup ∧ (∀ a ∈ ms, a ∈ l.map (·.1))) l.length ⟨_, [], _, [], by simp only [List.length_append, List.length_singleton]; exact reg_intro rfl rfl ⟨by simp, by simp; rfl, outX_nil _ _, by simp, by simp⟩⟩ ?_
  rintro n st ⟨x, ex, d, ms, g, rfl, hn, hx, ho, hnd, hsub⟩
  have hml := togo_set l ms hnd hsub
  have hxm : ∀ y, ((bs ++ [(cellSh, cellD c), (cellSh, CT.zero 27), y]) ++ ex)[i]? = some (.obj 1, mapG kS meD l q) := fun y => by rw [List.append_assoc, List.getElem?_append_left hil]; exact hm
  have hxi : ∀ y, ((bs ++ [(cellSh, cellD c), (cellSh, CT.zero 27), y]) ++ ex)[bs.length + 2]? = some y := fun y => by rw [List.append_assoc, List.getElem?_append_right (by omega), Nat.add_sub_cancel_left]; rfl
  have hxs : ∀ y y', ((bs ++ [(cellSh, cellD c), (cellSh, CT.zero 27), y]) ++ ex).set (bs.length + 2) y' = (bs ++ [(cellSh, cellD c), (cellSh, CT.zero 27), y']) ++ ex := fun y y' => by
    rw [List.append_assoc, List.set_append_right _ _ (by omega), Nat.add_sub_cancel_left, List.append_assoc]; rfl
  simp only [go_sem, simprocAttr]
  subst hx
  refine next_g hK (hxm _) (hxi _) (fun a v hav hna => ?_) (fun hall => ?_)
  · have hg : getA l a = some v := getA_of_mem hk.1 hav
    have ham : a ∈ l.map (·.1) := List.mem_map.2 ⟨_, hav, rfl⟩
    rw [hxs]
    generalize hx2 : (bs ++ [(cellSh, cellD c), (cellSh, CT.zero 27), ((.obj 2 : Sh), D.it i q ((ms ++ [a]).map kS))]) ++ ex = x2
    have he := entry_g (tk := tk) (bs := x2) (b := i) (i := bs.length + 2) (m := ms) (a := a) hK (by rw [← hx2]; exact hxm _) (by rw [← hx2]; exact hxi _) hg
    simp only [go_sem, simprocAttr]
    simp only [go_sem, simprocAttr, he, outX_nrm ho]
    subst hx2
    have hnd2 : (ms ++ [a]).Nodup := List.nodup_append.2 ⟨hnd, by simp, fun x hx y hy => by rw [List.mem_singleton] at hy; subst hy; rintro rfl; exact hna hx⟩
    have hsub2 : ∀ b ∈ ms ++ [a], b ∈ l.map (·.1) := fun b hb => by
      rcases List.mem_append.1 hb with hb | hb
      · exact hsub b hb
      · rw [List.mem_singleton] at hb; rw [hb]; exact ham
    have hml2 := togo_set l (ms ++ [a]) hnd2 hsub2
    rw [List.length_append, List.length_singleton] at hml2
    refine outX_app (x := .lit (.string a)) _ ho (by simp) (by rw [List.length_map]; omega) ⟨by decide, by decide⟩ trivial trivial fun d' ex' ho' _ => ?_
    simp only [go_sem, simprocAttr, outX_nrm ho']
    exact ⟨l.length - (ms.length + 1), by omega, _, ex', d', ms ++ [a], reg_intro rfl rfl ⟨by simp, rfl, by simpa using ho', hnd2, hsub2⟩⟩
  · simp only [go_sem, simprocAttr, outX_nrm ho]
    refine callK_a (sortS_out ho (by simp) (by omega)) ?_
    rintro r h' ⟨rfl, ex', rfl, hel, ho'⟩
    have hperm : sortT ms = sortT (l.map (·.1)) := sort_same hnd hk.1 fun z => ⟨hsub z, fun hz => by
      obtain ⟨p, hp, rfl⟩ := List.mem_map.1 hz
      exact hall p hp⟩
    rw [hperm] at ho'
    have hlen : (sortT (l.map (·.1))).length = l.length := by
      have := closeM_len (l := l)
      simpa [closeM] using this
    have hfound : ∀ k, k < l.length → ∃ v, getA l ((sortT (l.map (·.1))).getD k default) = some v ∧ (closeM l).getD k default = v := fun k hk' => by
      have hmem : (sortT (l.map (·.1))).getD k default ∈ sortT (l.map (·.1)) := by
        rw [List.getD_eq_getElem?_getD, List.getElem?_eq_getElem (by omega)]; exact List.getElem_mem _
      rw [(sortT_spec hk.1).2] at hmem
      obtain ⟨p, hp, e⟩ := List.mem_map.1 hmem
      refine ⟨p.2, getA_of_mem hk.1 (by rw [← e]; exact hp), ?_⟩
      have hg : getA l ((sortT (l.map (·.1))).getD k default) = some p.2 := getA_of_mem hk.1 (by rw [← e]; exact hp)
      rw [closeM]
      simp only [List.getD_eq_getElem?_getD, List.getElem?_map] at hg ⊢
      rw [List.getElem?_eq_getElem (by omega)] at hg ⊢
      simp only [Option.getD_some, Option.map_some] at hg ⊢
      rw [hg]; rfl
    clear hxm hxi hxs
    have hxm : ∀ y z w v, ((bs ++ [y, z, w]) ++ v)[i]? = some (.obj 1, mapG kS meD l q) := fun y z w v => by rw [List.append_assoc, List.getElem?_append_left hil]; exact hm
    have hxc : ∀ y z w v, ((bs ++ [y, z, w]) ++ v)[bs.length]? = some y := fun y z w v => by rw [List.append_assoc, List.getElem?_append_right (by omega), Nat.sub_self]; rfl
    have hxd : ∀ y z w v, ((bs ++ [y, z, w]) ++ v)[bs.length + 1]? = some z := fun y z w v => by rw [List.append_assoc, List.getElem?_append_right (by omega), Nat.add_sub_cancel_left]; rfl
    have hxs : ∀ y z w v y', ((bs ++ [y, z, w]) ++ v).set bs.length y' = (bs ++ [y', z, w]) ++ v := fun y z w v y' => by
      rw [List.append_assoc, List.set_append_right _ _ (by omega), Nat.sub_self, List.append_assoc]; rfl
    have hxs2 : ∀ y z w v y', ((bs ++ [y, z, w]) ++ v).set (bs.length + 1) y' = (bs ++ [y, y', w]) ++ v := fun y z w v y' => by
      rw [List.append_assoc, List.set_append_right _ _ (by omega), Nat.add_sub_cancel_left, List.append_assoc]; rfl
    simp only [go_sem, simprocAttr, outX_nrm ho', hxc, hxs, outX_len ho' (t := 52) rfl]
    refine awp_loop (fun n s => ∃ (x : List (Sh × D)) (k : Nat) (o : List MemberR) (u : Tok) (tk2 : List Bool) (g : Nat → D), s = ⟨[g 0, .mref i, .ptr bs.length [], g 3, .ptr (bs.length + 1) [], g 5, g 6, g 7, g 8, g 9, g 10, g 11, g 12, g 13, g 14, g 15, g 16, g 17, g 18, g 19, g 20, g 21, d, .lit (.int .i64 l.length), .lit (.int .i64 k), g 25, g 26, g 27, g 28, g 29, g 30, g 31, g 32, g 33, g 34, g 35, g 36, g 37], ⟨x, tk ++ tk2⟩⟩ ∧ n = l.length - k ∧ x = (bs ++ [(cellSh, cellM c o u), (cellSh, CT.zero 27), (.obj 2, .it i q (ms.map kS))]) ++ ex' ∧ k ≤ l.length ∧ o = (closeM l).take k ∧ liveH u tk tk2) l.length ⟨_, 0, [], .full, [], by rw [hlen, List.append_nil]; exact reg_intro rfl rfl ⟨by simp, rfl, by omega, by simp, trivial, trivial⟩⟩ ?_
    rintro n st ⟨x, k, o, u, tk2, g, rfl, hn, hx, hk2, hoo, hu⟩
    simp only [go_sem, simprocAttr]
    refine condK_split (fun hc => ?_) (fun hc => ?_)
    · have hk' : k < l.length := by have := of_decide_eq_true hc; omega
      obtain ⟨v, hv1, hv2⟩ := hfound k hk'
      have hol : o.length ≤ k := by rw [hoo]; simp; omega
      obtain ⟨b, N, L, rfl, hbk, hbx, hbN, hbL⟩ := outX_sl ho' (base := bs ++ [(cellSh, cellM c o u), (cellSh, CT.zero 27), (.obj 2, .it i q (ms.map kS))]) (by simp) (by intro h; have := congrArg List.length h; rw [List.length_map, hlen, List.length_nil] at this; omega)
      rw [List.length_map, hlen] at hbN hbL
      have hkN : k < N := by omega
      have hLk : L[k]? = some (.lit (.string ((sortT (l.map (·.1))).getD k default))) := by
        rw [hbL k hk', List.getElem?_map, List.getElem?_eq_getElem (by omega), List.getD_eq_getElem?_getD, List.getElem?_eq_getElem (by omega)]; rfl
      have hlen2 : ((sortT (l.map (·.1))).map kS).length = l.length := by rw [List.length_map, hlen]
      have hsh : CT.sh 9 = .leaf := rfl
      rw [hsh] at hbx
      rw [← hx] at hbx
      rw [hlen2]
      have hx0 : x[bs.length]? = some (cellSh, cellM c o u) := by rw [hx]; exact hxc _ _ _ _
      have hxi : x[i]? = some (.obj 1, mapG kS meD l q) := by rw [hx]; exact hxm _ _ _ _
      have hxw : ∀ y, x.set bs.length y = (bs ++ [y, (cellSh, CT.zero 27), (.obj 2, .it i q (ms.map kS))]) ++ ex' := fun y => by rw [hx]; exact hxs _ _ _ _ _
      have hlk : lookupD CT ⟨x, tk ++ tk2⟩ 182 false (.mref i) (.lit (.string ((sortT (l.map (·.1))).getD k default))) = some (meD v) := by
        rw [lookup_g hK rfl hxi false _ rfl, hv1]; rfl
      simp only [go_sem, simprocAttr, hk', indexAddr_sl_t, hbx, hkN, hLk, Nat.zero_add, hx0, hlk]
      refine appK_liveH _ _ _ _ _ _ _ _ hu (by simp) (by simp only [go_sem, simprocAttr]) (by simp only [go_sem, simprocAttr]; omega) (fun u' tk' hu' => ?_)
      simp only [go_sem, simprocAttr, hx0, me_snoc, hxw, wrapNat k (by omega)]
      have hrow : o ++ [v] = (closeM l).take (k + 1) := by
        rw [take_snocG (closeM l) k (by rw [closeM_len]; exact hk'), hv2, hoo]
      exact ⟨l.length - (k + 1), by omega, _, k + 1, o ++ [v], u', tk', reg_intro rfl rfl ⟨rfl, rfl, by omega, hrow, hu'⟩⟩
    · have hi := of_decide_eq_false hc
      obtain rfl : k = l.length := by omega
      rw [List.take_of_length_le (by rw [closeM_len]; exact Nat.le_refl _)] at hoo
      subst hoo
      have hx0 : x[bs.length]? = some (cellSh, cellM c (closeM l) u) := by rw [hx]; exact hxc _ _ _ _
      have hx1 : x[bs.length + 1]? = some (cellSh, CT.zero 27) := by rw [hx]; exact hxd _ _ _ _
      have hxw : ∀ y, x.set (bs.length + 1) y = bs ++ ([(cellSh, cellM c (closeM l) u), y, (.obj 2, .it i q (ms.map kS))] ++ ex') := fun y => by rw [hx, hxs2, List.append_assoc]
      have hxg : ∀ y, (x.set (bs.length + 1) y)[bs.length + 1]? = some y := fun y => List.getElem?_set_self (by have := (List.getElem?_eq_some_iff.1 hx1).1; exact this)
      simp only [go_sem, simprocAttr, hx0, hx1, hxg]
      rw [hxw]
      refine finH_drop ?_ ?_ ⟨?_, rfl⟩ _
      · intro N s' L hmm
        rcases List.mem_append.1 hmm with h | h
        · simp at h
        · exact ho'.1 _ _ _ h
      · simp only [meltD, meltL]; exact low_of_pure _ (pure_cell { c with me := closeM l })
      · simp only [meltD, meltL]
end Go.Ab
