/- Sets: members in a map; marks with one more, and without some. Conditions: none. -/
import Derived.Test.YtehcjnendfpbaaaGreatOsE
import Derived.Test.YtehcjnendfpbaaaGreatSlMk
set_option linter.unusedSimpArgs false
namespace Go.Ab
open Go.Proofs

theorem low_map (k n : Nat) (l : List (ByteArray × MemberR)) (q : Nat) : lowD k n (mapG kS meD l q) := by
  simp only [mapG, lowD]
  refine lowL_of_pure _ (pureL_all fun d hd => ?_)
  obtain ⟨p, _, rfl⟩ := List.mem_map.1 hd
  exact pure_meD _
theorem open_snoc {l : List MemberR} (h : RiseT l) {k : Nat} (hk : k < l.length) : putA (openM (l.take k)) (l.getD k default).text (l.getD k default) = openM (l.take (k + 1)) ∧ getA (openM (l.take k)) (l.getD k default).text = none := by
  have hnone : getA (openM (l.take k)) (l.getD k default).text = none := by
    rw [getA_none]
    intro p hp e
    obtain ⟨m, hm, rfl⟩ := List.mem_map.1 hp
    have h2 : RiseT (l.take (k + 1)) := List.Pairwise.sublist (List.take_sublist _ _) h
    rw [take_snocG l k hk] at h2
    have := (List.pairwise_append.1 h2).2.2 m hm (l.getD k default) (List.mem_singleton.2 rfl)
    simp only at e
    rw [e, bLt_irr] at this; cases this
  refine ⟨?_, hnone⟩
  rw [put_new _ _ _ (by rw [hnone]; rfl), take_snocG l k hk]
  simp [openM]
set_option maxRecDepth 8000 in
set_option maxHeartbeats 1000000 in
theorem orset_opened (c : CellR) (bs : List (Sh × D)) (hr : RiseT c.me) (hl : c.me.length < 1000000) :
    HSpec Tryz.prog CT 180 [cellD c] bs fun r bs' => ∃ q, r = .mref (bs.length + 1) ∧ bs' = bs ++ [(cellSh, cellD c), (.obj 1, mapG kS meD (openM c.me) q)] := by
  have hK : KeyEnc CT 9 kS := keyStr rfl
  refine HSpec.of hT Tryz.func180 rfl (by kernel_rfl) rfl rfl fun tk => ?_
  simp only [Tryz.f180, go_sem, simprocAttr]
  refine ⟨isMap_ok rfl, ?_⟩
  have h0 : ∀ y z : Sh × D, (bs ++ [y] ++ [z])[bs.length]? = some y := fun y z => by simp
  simp only [go_sem, simprocAttr, h0]
  refine awp_loop (fun n s => ∃ (x ex : List (Sh × D)) (k q : Nat) (g : Nat → D), s = ⟨[g 0, .ptr bs.length [], g 2, .mref (bs.length + 1), g 4, g 5, g 6, g 7, .lst 67 (c.me.map meD) .no, .lit (.int .i64 c.me.length), .lit (.int .i64 k), g 11, g 12, g 13, g 14, g 15, g 16, g 17, g 18, g 19], ⟨x, tk⟩⟩ ∧ n = c.me.length - k ∧ x = (bs ++ [(cellSh, cellD c), (.obj 1, mapG kS meD (openM (c.me.take k)) q)]) ++ ex ∧ k ≤ c.me.length ∧ ∀ N s L, (Sh.arr N s, D.agg L) ∉ ex) c.me.length ⟨_, [], 0, 0, by simp only [List.length_append, List.length_singleton]; exact reg_intro rfl rfl ⟨by simp, by simp [openM, mapG], by omega, by simp⟩⟩ ?_
  rintro n st ⟨x, ex, k, q, g, rfl, hn, hx, hk, hex⟩
  have hxm : ∀ y, (x ++ [y])[bs.length + 1]? = some (.obj 1, mapG kS meD (openM (c.me.take k)) q) := fun y => by rw [hx, List.append_assoc, List.append_assoc, List.getElem?_append_right (by omega), Nat.add_sub_cancel_left]; rfl
  have hxs : ∀ y z, (x ++ [y]).set (bs.length + 1) z = (bs ++ [(cellSh, cellD c), z]) ++ (ex ++ [y]) := fun y z => by
    rw [hx, List.append_assoc, List.append_assoc, List.set_append_right _ _ (by omega), Nat.add_sub_cancel_left, List.append_assoc]; rfl
  simp only [go_sem, simprocAttr]
  refine condK_split (fun hc => ?_) (fun hc => ?_)
  · have hk' : k < c.me.length := by have := of_decide_eq_true hc; omega
    obtain ⟨hs1, hs2⟩ := open_snoc hr hk'
    simp only [go_sem, simprocAttr, hk', get_me]
    refine mapUpd_g (enc := meD) hK (e := 67) rfl (hxm _) (meAt c k).text (meAt c k) rfl rfl ?_
    have hs3 : putA (openM (c.me.take k)) (meAt c k).text (meAt c k) = openM (c.me.take (k + 1)) := hs1
    rw [hs3, hxs]
    simp only [go_sem, simprocAttr, wrapNat k (by omega)]
    exact ⟨c.me.length - (k + 1), by omega, _, _, k + 1, _, reg_intro rfl rfl ⟨rfl, rfl, by omega, fun N s L h => by rcases List.mem_append.1 h with h | h; exact hex _ _ _ h; simp at h⟩⟩
  · have hi := of_decide_eq_false hc
    obtain rfl : k = c.me.length := by omega
    rw [List.take_length] at hx
    simp only [go_sem, simprocAttr]
    refine ⟨_, bs ++ [(cellSh, cellD c), (.obj 1, mapG kS meD (openM c.me) q)], ex, [], rfl, hx, by simp, by simp, ?_, ?_, ?_, q, ?_, rfl⟩
    · intro j y hy
      rw [List.getElem?_append] at hy
      split at hy
      · exact .inr (.inr hy)
      · rename_i hj
        obtain ⟨i, rfl⟩ : ∃ i, j = bs.length + i := ⟨j - bs.length, by omega⟩
        rw [Nat.add_sub_cancel_left] at hy
        match i, hy with
        | 0, hy => cases hy; exact .inr (.inl (low_of_pure _ (pure_cell c)))
        | 1, hy => cases hy; exact .inr (.inl (low_map _ _ _ _))
        | i + 2, hy => simp at hy
    · intro b N s L hb hbx
      rw [List.getElem?_append_right hb] at hbx
      exact absurd (List.mem_of_getElem? hbx) (hex _ _ _)
    · simp [meltD, lowD]
    · simp [meltD]

theorem insB_insK {l : List MarkR} {m : MarkR} (hr : RiseK l) {k : Nat} (hk : k ≤ l.length) (h1 : ∀ q, q < k → markLt (l.getD q default) m = true) (h2 : k < l.length → markLt (l.getD k default) m = false) :
    (k < l.length → l.getD k default = m → withM l m = l) ∧ ((k < l.length → l.getD k default ≠ m) → withM l m = insAt l k m) := by
  constructor
  · intro hkl e
    have : l.any (sameK m) = true := any_at hkl (by rw [e]; simp [sameK])
    rw [withM, if_pos this]
  · intro hne
    have hb : ∀ q, q < l.length → l.getD q default ≠ m := by
      intro q hq e
      rcases Nat.lt_trichotomy q k with h | h | h
      · have := h1 q h; rw [e, markLt_irr] at this; cases this
      · subst h; exact hne hq e
      · have hkl : k < l.length := by omega
        have h3 := h2 hkl
        have h4 : markLt (l.getD k default) (l.getD q default) = true := by
          have := List.pairwise_iff_getElem.1 hr k q hkl hq h
          rw [List.getD_eq_getElem?_getD, List.getD_eq_getElem?_getD, List.getElem?_eq_getElem hkl, List.getElem?_eq_getElem hq]; exact this
        rw [e] at h4
        rw [h4] at h3; cases h3
    have hany : l.any (sameK m) = false := any_no fun q hq => by simpa [sameK] using hb q hq
    rw [withM, hany]
    simp only [Bool.false_eq_true, if_false]
    exact insB_insAt hk (fun q hq => markLt_asymm (h1 q hq)) fun hkl => markLt_total (h2 hkl) (hne hkl)
set_option maxRecDepth 8000 in
set_option maxHeartbeats 2000000 in
theorem orset_with (l : List MarkR) (m : MarkR) (hr : RiseK l) (hl : l.length < 100000000) : PSpec Tryz.prog CT 183 [marksD l .no, m.d] (· = marksD (withM l m) .no) := by
  refine HSpec.pure (HSpec.of hT Tryz.func183 rfl (by kernel_rfl) rfl rfl fun tk => ?_)
  simp only [Tryz.f183, go_sem, simprocAttr]
  refine awp_loop (fun n s => ∃ (k : Nat) (g : Nat → D), s = ⟨[marksD l .no, g 1, g 2, .ptr 0 [], g 4, .lit (.int .i64 k), g 6, g 7, g 8, g 9, g 10, g 11, g 12, g 13, g 14, g 15, g 16, g 17, g 18, g 19, g 20, g 21, g 22, g 23, g 24, g 25, g 26, g 27, g 28, g 29, g 30, g 31, g 32, g 33, g 34, g 35, g 36, g 37, g 38], ⟨[((.pair (.pair .leaf (.pair .leaf .unit)) (.pair .leaf .unit)), m.d)], tk⟩⟩ ∧ n = l.length - k ∧ k ≤ l.length ∧ ∀ q, q < k → markLt (l.getD q default) m = true) l.length ⟨0, reg_intro rfl rfl ⟨by simp, by omega, by simp⟩⟩ ?_
  rintro n st ⟨k, g, rfl, hn, hk, hp⟩
  simp only [go_sem, simprocAttr]
  refine .inl ⟨by kernel_rfl, ?_⟩
  refine guardK_split (fun hc => ?_) (fun hc => ?_)
  · have hk' : k < l.length := by have := of_decide_eq_true hc; omega
    simp only [go_sem, simprocAttr, hc, hk', get_mk]
    refine callD_pure (ops_less (l.getD k default) m) (by first | rfl | (simp only [go_sem]; done)) (by first | (simp only [go_sem]; done) | (simp [pureL, pureD]; done)) ?_
    simp only [go_sem, simprocAttr, hc]
    refine condK_split (fun h3 => ?_) (fun h3 => ?_)
    · simp only [go_sem, simprocAttr, wrapNat k (by omega)]
      exact ⟨l.length - (k + 1), by omega, k + 1, reg_intro rfl rfl ⟨rfl, by omega, next_good (f := fun q => markLt (l.getD q default) m) hp h3⟩⟩
    · obtain ⟨w1, w2⟩ := insB_insK hr hk hp (fun _ => h3)
      simp only [go_sem, simprocAttr]
      refine .inl ⟨by kernel_rfl, ?_⟩
      simp only [go_sem, simprocAttr, hc, hk', get_mk, eqB_mk]
      refine condK_split (fun h4 => ?_) (fun h4 => ?_)
      · have hw := w1 hk' (of_decide_eq_true h4)
        simp only [go_sem, simprocAttr, hw]
        refine finH_all ?_ (q := marksD l .no) (by simp [meltD]) trivial ⟨trivial, rfl⟩
        intro N s' L hm; simp at hm
      · have hw := w2 fun _ => of_decide_eq_false h4
        simp only [go_sem, simprocAttr]
        refine .inr (drawN_calls [0, 2, 3, 4] [1, 5] [6] (by kernel_rfl) ?_)
        simp only [go_sem, simprocAttr]
        refine callsD_call (args' := [marksD l .no]) rfl (by simp only [go_sem, simprocAttr]) (clone_mk l .no (by omega) _ _) ?_
        rintro r h' ⟨ex, rfl, ho⟩
        refine ⟨Hle.of rfl, ?_⟩
        simp only [go_sem, simprocAttr]
        refine callsD_call (args' := [r, .lit (.int .i64 k), marksD [m] .full]) rfl (by simp only [go_sem, simprocAttr, out_nrmL ho, List.map_cons, List.map_nil]; rfl) (insert_mk l m .full k hk (by omega) [((.pair (.pair .leaf (.pair .leaf .unit)) (.pair .leaf .unit)), m.d)] ex tk ho) ?_
        rintro r2 h2 ⟨ex', rfl, ho'⟩
        refine ⟨Hle.of rfl, ?_⟩
        show aopsN _ _ _ _ _ _
        refine aopsN_at rfl rfl ?_
        simp only [go_sem, simprocAttr, out_nrmM ho', out_leaf ho', aopsN_nil]
        refine finH_all ?_ (q := marksD (withM l m) .no) ?_ trivial ⟨trivial, rfl⟩
        · intro N s' L hm
          rcases List.mem_cons.1 hm with h | h
          · cases h
          · exact outM_pure ho' N s' L h
        · rw [hw]
          exact melt_out rfl ho'
  · have hkk : k = l.length := by have := of_decide_eq_false hc; omega
    obtain ⟨w1, w2⟩ := insB_insK hr hk hp (fun h => absurd h (by omega))
    have hw := w2 fun h => absurd h (by omega)
    simp only [go_sem, simprocAttr, hc]
    refine .inl ⟨by kernel_rfl, ?_⟩
    try simp only [go_sem, simprocAttr, hc]
    refine .inr (drawN_calls [0, 2, 3, 4] [1, 5] [6] (by kernel_rfl) ?_)
    simp only [go_sem, simprocAttr]
    refine callsD_call (args' := [marksD l .no]) rfl (by simp only [go_sem, simprocAttr]) (clone_mk l .no (by omega) _ _) ?_
    rintro r h' ⟨ex, rfl, ho⟩
    refine ⟨Hle.of rfl, ?_⟩
    simp only [go_sem, simprocAttr]
    refine callsD_call (args' := [r, .lit (.int .i64 k), marksD [m] .full]) rfl (by simp only [go_sem, simprocAttr, out_nrmL ho, List.map_cons, List.map_nil]; rfl) (insert_mk l m .full k hk (by omega) [((.pair (.pair .leaf (.pair .leaf .unit)) (.pair .leaf .unit)), m.d)] ex tk ho) ?_
    rintro r2 h2 ⟨ex', rfl, ho'⟩
    refine ⟨Hle.of rfl, ?_⟩
    show aopsN _ _ _ _ _ _
    refine aopsN_at rfl rfl ?_
    simp only [go_sem, simprocAttr, out_nrmM ho', out_leaf ho', aopsN_nil]
    refine finH_all ?_ (q := marksD (withM l m) .no) ?_ trivial ⟨trivial, rfl⟩
    · intro N s' L hm
      rcases List.mem_cons.1 hm with h | h
      · cases h
      · exact outM_pure ho' N s' L h
    · rw [hw]
      exact melt_out rfl ho'
end Go.Ab
set_option linter.unusedSimpArgs false
namespace Go.Ab
open Go.Proofs

theorem melt_outK {l : List D} {base ex : List (Sh × D)} {d : D} {k : Nat} {e : TypeId} (hb : base.length = k) (ho : OutM e k d ex l) {q : Nat} (hq : q ≤ k) : meltD (base ++ ex) q d = .lst e l .no := by
  subst hb
  rcases ho with ⟨rfl, rfl, rfl⟩ | ⟨j, N, L, rfl, hj, hL, hlN, hN, hlL, _⟩
  · simp [meltD]
  · have : (base ++ ex)[base.length + j]? = some (.arr N (CT.sh e), .agg L) := by rw [List.getElem?_append_right (by omega), Nat.add_sub_cancel_left]; exact hj
    simp only [meltD]
    rw [if_pos (by omega), this]
    simp only [List.drop_zero, hlL]
theorem pred_gone (t : TxR) (i : Int) (hd : t.deps.length = 13) (base : List (Sh × D)) {bt bi : Nat} (ht : base[bt]? = some (txSh, txD t)) (hi : base[bi]? = some (.leaf, .lit (.int .i64 i))) :
    PredF 187 [.ptr bt [], .ptr bi []] MarkR.d (befM t i) base := by
  intro x bs hbs
  have ht' : bs[bt]? = some (txSh, txD t) := by rw [hbs _ (List.getElem?_eq_some_iff.1 ht).1]; exact ht
  have hi' : bs[bi]? = some (.leaf, .lit (.int .i64 i)) := by rw [hbs _ (List.getElem?_eq_some_iff.1 hi).1]; exact hi
  have hlt := (List.getElem?_eq_some_iff.1 ht').1
  have hli := (List.getElem?_eq_some_iff.1 hi').1
  have gt : ∀ y, (bs ++ [y])[bt]? = some (txSh, txD t) := fun y => by rw [List.getElem?_append_left hlt]; exact ht'
  have gi : ∀ y, (bs ++ [y])[bi]? = some (.leaf, .lit (.int .i64 i)) := fun y => by rw [List.getElem?_append_left hli]; exact hi'
  refine HSpec.of hT Tryz.func187 rfl (by kernel_rfl) rfl rfl fun tk => ?_
  simp only [Tryz.f187, go_sem, simprocAttr, gt, gi, hd]
  refine callK_pure (args' := [x.d, txD t, .lit (.int .i64 i)]) (ops_before x.p x.s x.i t i hd) (by first | rfl | (simp only [go_sem, hd]; done)) (by first | (simp only [go_sem, hd]; done) | (simp [pureL, pureD]; done)) ?_
  simp only [go_sem, simprocAttr]
  have e := finH_drop (ex := [((.pair (.pair .leaf (.pair .leaf .unit)) (.pair .leaf .unit)), x.d)]) (bs := bs) (tk := tk) (r := .bool (before x.p x.s x.i t i)) (R := fun r b' => r = .bool (befM t i x) ∧ b' = bs) (by simp) (by simp [meltD, lowD]) ⟨by simp [meltD, befM], rfl⟩ []
  simpa using e
set_option maxRecDepth 8000 in
theorem orset_without {f : FuncId} {caps : List D} {p : MarkR → Bool} (l : List MarkR) (hl : l.length < 100000000) (bs : List (Sh × D)) (hp : PredF f caps MarkR.d p bs) :
    HSpec Tryz.prog CT 185 [marksD l .no, .fn (.func f) caps] bs fun r b' => r = marksD (keptL p l) .no ∧ b' = bs := by
  refine HSpec.of hT Tryz.func185 rfl (by kernel_rfl) rfl rfl fun tk => ?_
  simp only [Tryz.f185, go_sem, simprocAttr]
  refine callK_a (clone_mk l .no (by omega) _ _) ?_
  rintro r h' ⟨ex, rfl, ho⟩
  simp only [go_sem, simprocAttr, out_nrmL ho]
  refine callK_h (del_mk (p := p) l (by omega) bs ex hp ho) ?_
  rintro r2 b' ⟨ex', rfl, ho'⟩
  simp only [go_sem, simprocAttr, out_nrmM ho', out_leaf ho']
  have hm := melt_outK rfl ho' (Nat.le_refl bs.length)
  have e := finH_drop (ex := ex') (bs := bs) (tk := tk) (r := r2) (R := fun r b' => r = marksD (keptL p l) .no ∧ b' = bs) (fun N s L hmem => outM_pure ho' N s L hmem) (by rw [hm]; trivial) ⟨hm, rfl⟩ []
  simpa using e
set_option maxRecDepth 8000 in
theorem orset_may (c : CellR) (i : Int) (x : ByteArray) (hw : c.me.length < 4000000000) (hm : ∀ m ∈ c.me, m.marks.length < 4000000000) : PSpec Tryz.prog CT 179 [cellD c, .lit (.int .i64 i), .lit (.string x)] (· = .bool (decide (1 ≤ i) && decide ((x.size : Int) ≤ 64) && checkS c)) := by
  refine PSpec.of hT Tryz.func179 rfl (by kernel_rfl) rfl rfl ?_
  simp only [Tryz.f179, go_sem, simprocAttr]
  (repeat' (first | ((refine guardK_split (fun hg => ?_) (fun hg => ?_)) <;> (try simp only [go_sem, simprocAttr, hg])) | ((refine condK_split (fun hg => ?_) (fun hg => ?_)) <;> (try simp only [go_sem, simprocAttr, hg])) | ((first | refine callK_pure (orset_check c hw hm) ?_ ?_ ?_ | refine callD_pure (orset_check c hw hm) ?_ ?_ ?_); (iterate 2 (focus (first | rfl | (simp only [go_sem]; done)))); try simp only [go_sem, simprocAttr]) | ((refine Or.inl ⟨by kernel_rfl, ?_⟩) <;> (try simp only [go_sem, simprocAttr])))) <;> (first | done | (simp_all; done))

theorem may_not {c : CellR} {i : Int} {x : ByteArray} : (decide (1 ≤ i) && decide ((x.size : Int) ≤ 64) && checkS c) = false ↔ (checkS c = false ∨ i < 1 ∨ 64 < (x.size : Int)) := by
  cases checkS c <;> simp <;> omega
end Go.Ab
set_option linter.unusedSimpArgs false
namespace Go.Ab
open Go.Proofs

/-- The member that an addition puts into the map. -/
def putM (l : List (ByteArray × MemberR)) (s : ByteArray) (own : MarkR) : MemberR := match getA l s with | some m => { m with text := s, marks := withM m.marks own } | none => ⟨s, false, [own]⟩
theorem add_close {l : List MemberR} (h : RiseT l) (s : ByteArray) (own : MarkR) : closeM (putA (openM l) s (putM (openM l) s own)) = addMe l s own := by
  have ht : (putM (openM l) s own).text = s := by unfold putM; split <;> rfl
  obtain ⟨a1, a2⟩ := closeM_spec (put_keyed (open_keyed h) ht)
  obtain ⟨b1, b2⟩ := addMe_spec h s own
  refine riseT_ext a1 b1 fun z => ?_
  rw [a2, b2, getA_put]
  by_cases hz : s = z.text
  · rw [if_pos hz]
    simp only [Option.some.injEq]
    cases hg : getA (openM l) s with
    | some m =>
      obtain ⟨hm, hms⟩ := (get_open h s m).1 hg
      have e : putM (openM l) s own = { m with marks := withM m.marks own } := by
        unfold putM; rw [hg]; cases m; simp only at hms; simp [hms]
      rw [e]
      constructor
      · rintro rfl; exact .inr (.inl ⟨m, hm, hms, rfl⟩)
      · rintro (⟨_, h1⟩ | ⟨m', h1, h2, rfl⟩ | ⟨h1, _⟩)
        · exact absurd hz.symm h1
        · rw [riseT_inj h h1 hm (by rw [h2, hms])]
        · exact absurd hms (h1 m hm)
    | none =>
      have hn : ∀ m ∈ l, m.text ≠ s := fun m hm e => by
        have := (get_open h s m).2 ⟨hm, e⟩
        rw [hg] at this; cases this
      have e : putM (openM l) s own = ⟨s, false, [own]⟩ := by unfold putM; rw [hg]
      rw [e]
      constructor
      · rintro rfl; exact .inr (.inr ⟨hn, rfl⟩)
      · rintro (⟨_, h1⟩ | ⟨m', h1, h2, rfl⟩ | ⟨_, h1⟩)
        · exact absurd hz.symm h1
        · exact absurd h2 (hn m' h1)
        · exact h1.symm
  · rw [if_neg hz, get_open h]
    constructor
    · rintro ⟨h1, _⟩; exact .inl ⟨h1, fun e => hz e.symm⟩
    · rintro (⟨h1, _⟩ | ⟨m', _, h2, rfl⟩ | ⟨_, rfl⟩)
      · exact ⟨h1, rfl⟩
      · exact absurd h2.symm hz
      · exact absurd rfl hz

set_option maxRecDepth 8000 in
set_option maxHeartbeats 2000000 in
theorem orset_add (c : CellR) (t : TxR) (i : Int) (x : ByteArray) (hd : t.deps.length = 13) (hw : c.me.length < 100000) (hm : ∀ m ∈ c.me, m.marks.length < 10000000) :
    PSpec Tryz.prog CT 174 [cellD c, txD t, .lit (.int .i64 i), .lit (.string x)] (· = cellD (addS c t i x)) := by
  have hK : KeyEnc CT 9 kS := keyStr rfl
  refine HSpec.pure (HSpec.of hT Tryz.func174 rfl (by kernel_rfl) rfl rfl fun tk => ?_)
  simp only [Tryz.f174, go_sem, simprocAttr, hd]
  refine callK_pure (args' := [cellD c, .lit (.int .i64 i), .lit (.string x)]) (orset_may c i x (by omega) (fun m h => by have := hm m h; omega)) (by first | rfl | (simp only [go_sem, hd]; done)) (by first | (simp only [go_sem, hd]; done) | (simp [pureL, pureD]; done)) ?_
  cases hmay : (decide (1 ≤ i) && decide ((x.size : Int) ≤ 64) && checkS c) with
  | false =>
    have e : addS c t i x = c := by rw [addS, if_pos (may_not.1 hmay)]
    simp only [go_sem, simprocAttr, hd, Bool.not_false]
    rw [e]
    exact finH_all (by intro N s' L hmm; simp at hmm) (melt_cell _ _) (pure_cell _) ⟨pure_cell _, rfl⟩
  | true =>
  have hnot : ¬ (checkS c = false ∨ i < 1 ∨ 64 < (x.size : Int)) := fun h => by rw [may_not.2 h] at hmay; cases hmay
  have hck : checkS c = true := by simp only [Bool.and_eq_true] at hmay; exact hmay.2
  obtain ⟨_, hok, hr⟩ := (checkS_iff c).1 hck
  have e : addS c t i x = { c with me := addMe c.me x ⟨t.peer, t.seq, i⟩ } := by rw [addS, if_neg hnot]
  simp only [go_sem, simprocAttr, hd, Bool.not_true]
  refine callK_h (orset_opened c _ hr (by omega)) ?_
  rintro r bs' ⟨q, rfl, rfl⟩
  simp only [go_sem, simprocAttr, hd]
  rw [lookup_g (l := openM c.me) (g := q) (enc := meD) hK (t := 182) rfl rfl false x rfl]
  have hlen : (putA (openM c.me) x (putM (openM c.me) x ⟨t.peer, t.seq, i⟩)).length < 1000000 := by
    have := congrArg List.length (keys_put (openM c.me) x (putM (openM c.me) x ⟨t.peer, t.seq, i⟩))
    rw [List.length_map] at this
    rw [this]; split <;> simp [openM] <;> omega
  have ht : (putM (openM c.me) x ⟨t.peer, t.seq, i⟩).text = x := by unfold putM; split <;> rfl
  have hkk := put_keyed (open_keyed hr) ht
  have hcl := add_close hr x ⟨t.peer, t.seq, i⟩
  cases hg : getA (openM c.me) x with
  | none =>
    have hput : putM (openM c.me) x ⟨t.peer, t.seq, i⟩ = ⟨x, false, [⟨t.peer, t.seq, i⟩]⟩ := by unfold putM; rw [hg]
    simp only [go_sem, simprocAttr, hd, packD]
    refine callK_pure (args' := [marksD [] .no, MarkR.d ⟨t.peer, t.seq, i⟩]) (orset_with [] ⟨t.peer, t.seq, i⟩ .nil (by simp)) (by first | rfl | (simp only [go_sem, simprocAttr]; rfl) | (simp only [go_sem, simprocAttr]; done)) ⟨trivial, by simp [pureD, pureL], trivial⟩ ?_
    simp only [go_sem, simprocAttr, hd]
    refine mapUpd_g (l := openM c.me) (g := q) (enc := meD) hK (e := 67) rfl rfl x (putM (openM c.me) x ⟨t.peer, t.seq, i⟩) rfl (by rw [hput]; rfl) ?_
    simp only [go_sem, simprocAttr, hd]
    refine callK_h (orset_closed c 4 _ _ _ (by first | rfl | (simp only [go_sem, simprocAttr]; rfl)) hkk hlen) ?_
    rintro r bs' ⟨rfl, rfl⟩
    simp only [go_sem, simprocAttr, hd, hcl]
    rw [e]
    exact finH_all (by intro N s' L hmm; simp at hmm) (melt_cell _ ({ c with me := addMe c.me x ⟨t.peer, t.seq, i⟩ } : CellR)) (pure_cell _) ⟨pure_cell _, rfl⟩
  | some m0 =>
    obtain ⟨hm0, hmx⟩ := (get_open hr x m0).1 hg
    have hput : putM (openM c.me) x ⟨t.peer, t.seq, i⟩ = { m0 with text := x, marks := withM m0.marks ⟨t.peer, t.seq, i⟩ } := by unfold putM; rw [hg]
    simp only [go_sem, simprocAttr, hd, packD]
    refine callK_pure (args' := [marksD m0.marks .no, MarkR.d ⟨t.peer, t.seq, i⟩]) (orset_with m0.marks ⟨t.peer, t.seq, i⟩ (hok m0 hm0).2.2.2 (by have := hm m0 hm0; omega)) (by first | rfl | (simp only [go_sem, simprocAttr]; rfl) | (simp only [go_sem, simprocAttr]; done)) ⟨trivial, by simp [pureD, pureL], trivial⟩ ?_
    simp only [go_sem, simprocAttr, hd]
    refine mapUpd_g (l := openM c.me) (g := q) (enc := meD) hK (e := 67) rfl rfl x (putM (openM c.me) x ⟨t.peer, t.seq, i⟩) rfl (by rw [hput]; rfl) ?_
    simp only [go_sem, simprocAttr, hd]
    refine callK_h (orset_closed c 4 _ _ _ (by first | rfl | (simp only [go_sem, simprocAttr]; rfl)) hkk hlen) ?_
    rintro r bs' ⟨rfl, rfl⟩
    simp only [go_sem, simprocAttr, hd, hcl]
    rw [e]
    exact finH_all (by intro N s' L hmm; simp at hmm) (melt_cell _ ({ c with me := addMe c.me x ⟨t.peer, t.seq, i⟩ } : CellR)) (pure_cell _) ⟨pure_cell _, rfl⟩
end Go.Ab
