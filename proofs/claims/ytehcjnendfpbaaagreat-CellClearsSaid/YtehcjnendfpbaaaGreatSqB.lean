/- Sequences: what is put in, what is taken away. Conditions: none. -/
import Derived.Test.YtehcjnendfpbaaaGreatCeB
import Derived.Test.YtehcjnendfpbaaaGreatSlEl
import Derived.Test.YtehcjnendfpbaaaGreatOsK
set_option linter.unusedSimpArgs false
namespace Go.Ab
open Go.Proofs

theorem pred_place (m : MarkR) (base : List (Sh × D)) {b : Nat} (hb : base[b]? = some ((.pair (.pair .leaf (.pair .leaf .unit)) (.pair .leaf .unit)), m.d)) : PredF 223 [.ptr b []] elD (sameG ElemR.m m) base := by
  intro w bs hbs
  have hb' : bs[b]? = some ((.pair (.pair .leaf (.pair .leaf .unit)) (.pair .leaf .unit)), m.d) := by rw [hbs _ (List.getElem?_eq_some_iff.1 hb).1]; exact hb
  have hlt := (List.getElem?_eq_some_iff.1 hb').1
  have gb : ∀ y, (bs ++ [y])[b]? = some ((.pair (.pair .leaf (.pair .leaf .unit)) (.pair .leaf .unit)), m.d) := fun y => by rw [List.getElem?_append_left hlt]; exact hb'
  refine HSpec.of hT Tryz.func223 rfl (by kernel_rfl) rfl rfl fun tk => ?_
  simp only [Tryz.f223, go_sem, simprocAttr, gb, eqB_mk]
  have e := finH_drop (ex := [((.pair (.pair (.pair .leaf (.pair .leaf .unit)) (.pair .leaf .unit)) (.pair .leaf (.pair (.pair (.pair .leaf (.pair .leaf .unit)) (.pair .leaf .unit)) (.pair .leaf (.pair .leaf .unit))))), elD w)]) (bs := bs) (tk := tk) (r := .bool (decide (w.m.p = m.p) && (decide (w.m.s = m.s) && decide (w.m.i = m.i)))) (R := fun r b' => r = .bool (sameG ElemR.m m w) ∧ b' = bs) (by simp) (by simp [meltD, lowD]) ⟨by simp only [meltD, sameG, decM], rfl⟩ []
  simpa using e
theorem seq_place (l : List ElemR) (m : MarkR) (hl : l.length < 1000000000) : PSpec Tryz.prog CT 211 [rows_el l .no, m.d] (· = .lit (.int .i64 (idxF (sameG ElemR.m m) l))) := by
  refine HSpec.pure (HSpec.of hT Tryz.func211 rfl (by kernel_rfl) rfl rfl fun tk => ?_)
  simp only [Tryz.f211, go_sem, simprocAttr]
  refine callK_h (indexFunc_el (p := sameG ElemR.m m) l .no (by omega) _ (pred_place m _ (b := 0) rfl)) ?_
  rintro r b' ⟨rfl, rfl⟩
  simp only [go_sem, simprocAttr]
  refine finH_all (q := .lit (.int .i64 (idxF (sameG ElemR.m m) l))) (by intro N s' L hm; simp at hm) (by simp [meltD]) trivial ⟨trivial, rfl⟩
theorem pred_ins (t : TxR) (i : Int) (hd : t.deps.length = 13) (base : List (Sh × D)) {bt bi : Nat} (ht : base[bt]? = some (txSh, txD t)) (hi : base[bi]? = some (.leaf, .lit (.int .i64 i))) :
    PredF 213 [.ptr bt [], .ptr bi []] MarkR.d (befM t i) base := by
  intro x bs hbs
  have ht' : bs[bt]? = some (txSh, txD t) := by rw [hbs _ (List.getElem?_eq_some_iff.1 ht).1]; exact ht
  have hi' : bs[bi]? = some (.leaf, .lit (.int .i64 i)) := by rw [hbs _ (List.getElem?_eq_some_iff.1 hi).1]; exact hi
  have hlt := (List.getElem?_eq_some_iff.1 ht').1
  have hli := (List.getElem?_eq_some_iff.1 hi').1
  have gt : ∀ y, (bs ++ [y])[bt]? = some (txSh, txD t) := fun y => by rw [List.getElem?_append_left hlt]; exact ht'
  have gi : ∀ y, (bs ++ [y])[bi]? = some (.leaf, .lit (.int .i64 i)) := fun y => by rw [List.getElem?_append_left hli]; exact hi'
  refine HSpec.of hT Tryz.func213 rfl (by kernel_rfl) rfl rfl fun tk => ?_
  simp only [Tryz.f213, go_sem, simprocAttr, gt, gi, hd]
  refine callK_pure (args' := [x.d, txD t, .lit (.int .i64 i)]) (ops_before x.p x.s x.i t i hd) (by first | rfl | (simp only [go_sem, hd]; done)) (by first | (simp only [go_sem, hd]; done) | (simp [pureL, pureD]; done)) ?_
  simp only [go_sem, simprocAttr]
  have e := finH_drop (ex := [((.pair (.pair .leaf (.pair .leaf .unit)) (.pair .leaf .unit)), x.d)]) (bs := bs) (tk := tk) (r := .bool (before x.p x.s x.i t i)) (R := fun r b' => r = .bool (befM t i x) ∧ b' = bs) (by simp) (by simp [meltD, lowD]) ⟨by simp [meltD, befM], rfl⟩ []
  simpa using e
theorem pred_clearQ (t : TxR) (i : Int) (hd : t.deps.length = 13) (base : List (Sh × D)) {bt bi : Nat} (ht : base[bt]? = some (txSh, txD t)) (hi : base[bi]? = some (.leaf, .lit (.int .i64 i))) :
    PredF 210 [.ptr bt [], .ptr bi []] MarkR.d (befM t i) base := by
  intro x bs hbs
  have ht' : bs[bt]? = some (txSh, txD t) := by rw [hbs _ (List.getElem?_eq_some_iff.1 ht).1]; exact ht
  have hi' : bs[bi]? = some (.leaf, .lit (.int .i64 i)) := by rw [hbs _ (List.getElem?_eq_some_iff.1 hi).1]; exact hi
  have hlt := (List.getElem?_eq_some_iff.1 ht').1
  have hli := (List.getElem?_eq_some_iff.1 hi').1
  have gt : ∀ y, (bs ++ [y])[bt]? = some (txSh, txD t) := fun y => by rw [List.getElem?_append_left hlt]; exact ht'
  have gi : ∀ y, (bs ++ [y])[bi]? = some (.leaf, .lit (.int .i64 i)) := fun y => by rw [List.getElem?_append_left hli]; exact hi'
  refine HSpec.of hT Tryz.func210 rfl (by kernel_rfl) rfl rfl fun tk => ?_
  simp only [Tryz.f210, go_sem, simprocAttr, gt, gi, hd]
  refine callK_pure (args' := [x.d, txD t, .lit (.int .i64 i)]) (ops_before x.p x.s x.i t i hd) (by first | rfl | (simp only [go_sem, hd]; done)) (by first | (simp only [go_sem, hd]; done) | (simp [pureL, pureD]; done)) ?_
  simp only [go_sem, simprocAttr]
  have e := finH_drop (ex := [((.pair (.pair .leaf (.pair .leaf .unit)) (.pair .leaf .unit)), x.d)]) (bs := bs) (tk := tk) (r := .bool (before x.p x.s x.i t i)) (R := fun r b' => r = .bool (befM t i x) ∧ b' = bs) (by simp) (by simp [meltD, lowD]) ⟨by simp [meltD, befM], rfl⟩ []
  simpa using e
theorem pred_del (m : MarkR) (base : List (Sh × D)) {b : Nat} (hb : base[b]? = some ((.pair (.pair .leaf (.pair .leaf .unit)) (.pair .leaf .unit)), m.d)) : PredF 216 [.ptr b []] MarkR.d (sameR m) base := by
  intro w bs hbs
  have hb' : bs[b]? = some ((.pair (.pair .leaf (.pair .leaf .unit)) (.pair .leaf .unit)), m.d) := by rw [hbs _ (List.getElem?_eq_some_iff.1 hb).1]; exact hb
  have hlt := (List.getElem?_eq_some_iff.1 hb').1
  have gb : ∀ y, (bs ++ [y])[b]? = some ((.pair (.pair .leaf (.pair .leaf .unit)) (.pair .leaf .unit)), m.d) := fun y => by rw [List.getElem?_append_left hlt]; exact hb'
  refine HSpec.of hT Tryz.func216 rfl (by kernel_rfl) rfl rfl fun tk => ?_
  simp only [Tryz.f216, go_sem, simprocAttr, gb, eqB_mk]
  have e := finH_drop (ex := [((.pair (.pair .leaf (.pair .leaf .unit)) (.pair .leaf .unit)), w.d)]) (bs := bs) (tk := tk) (r := .bool (decide (w.p = m.p) && (decide (w.s = m.s) && decide (w.i = m.i)))) (R := fun r b' => r = .bool (sameR m w) ∧ b' = bs) (by simp) (by simp [meltD, lowD]) ⟨by simp only [meltD, sameR, decM], rfl⟩ []
  simpa using e
theorem nil_ptr' (b : Nat) (p : List Nat) : nilD (.ptr b p) = some (.ptr b p) := rfl
theorem finH_set {bs ex : List (Sh × D)} {tk : List Bool} {b N : Nat} {s : Sh} {L L' : List D} {R : D → List (Sh × D) → Prop} (hb : bs[b]? = some (.arr N s, .agg L)) (hp : pureL L') (hx : ∀ N s L, (Sh.arr N s, D.agg L) ∈ ex → pureL L)
    (h : R (.tup []) (bs.set b (.arr N s, .agg L'))) : finH (some (.tup [])) bs tk R (bs.set b (.arr N s, .agg L') ++ ex) tk := by
  refine ⟨.tup [], bs.set b (.arr N s, .agg L'), ex, [], rfl, rfl, by simp, by simp, ?_, ?_, by simp [meltD, meltL, lowD, lowL], by simpa [meltD, meltL] using h⟩
  · intro j x hj
    rw [List.getElem?_set] at hj
    split at hj
    · split at hj
      · cases hj
        exact .inr (.inl (low_of_pure (.agg L') hp))
      · cases hj
    · exact .inr (.inr hj)
  · intro b' N' s' L'' h1 h2
    rw [List.getElem?_append_right h1] at h2
    exact hx _ _ _ (List.mem_of_getElem? h2)
set_option maxRecDepth 8000 in
set_option maxHeartbeats 2000000 in
theorem seq_gone (e : ElemR) (m : MarkR) (hr : RiseK e.gone) (hl : e.gone.length < 100000000) (bs : List (Sh × D)) {b N k : Nat} {L : List D} (hb : bs[b]? = some (.arr N ((.pair (.pair (.pair .leaf (.pair .leaf .unit)) (.pair .leaf .unit)) (.pair .leaf (.pair (.pair (.pair .leaf (.pair .leaf .unit)) (.pair .leaf .unit)) (.pair .leaf (.pair .leaf .unit)))))), .agg L)) (hk : L[k]? = some (elD e)) (hN : k < N) (hpl : pureL L) :
    HSpec Tryz.prog CT 221 [.ptr b [k], m.d] bs fun r b' => r = .tup [] ∧ b' = bs.set b (.arr N ((.pair (.pair (.pair .leaf (.pair .leaf .unit)) (.pair .leaf .unit)) (.pair .leaf (.pair (.pair (.pair .leaf (.pair .leaf .unit)) (.pair .leaf .unit)) (.pair .leaf (.pair .leaf .unit)))))), .agg (L.set k (elD { e with gone := withM e.gone m }))) := by
  refine HSpec.of hT Tryz.func221 rfl (by kernel_rfl) rfl rfl fun tk => ?_
  have hlt := (List.getElem?_eq_some_iff.1 hb).1
  have gb : ∀ y, (bs ++ [y])[b]? = some (.arr N ((.pair (.pair (.pair .leaf (.pair .leaf .unit)) (.pair .leaf .unit)) (.pair .leaf (.pair (.pair (.pair .leaf (.pair .leaf .unit)) (.pair .leaf .unit)) (.pair .leaf (.pair .leaf .unit)))))), .agg L) := fun y => by rw [List.getElem?_append_left hlt]; exact hb
  have gb3 : ∀ y z, (bs ++ [y] ++ z)[b]? = some (.arr N ((.pair (.pair (.pair .leaf (.pair .leaf .unit)) (.pair .leaf .unit)) (.pair .leaf (.pair (.pair (.pair .leaf (.pair .leaf .unit)) (.pair .leaf .unit)) (.pair .leaf (.pair .leaf .unit)))))), .agg L) := fun y z => by rw [List.append_assoc, List.getElem?_append_left hlt]; exact hb
  simp only [Tryz.f221, go_sem, simprocAttr, gb]
  refine awp_loop (fun n s => ∃ (q : Nat) (g : Nat → D), s = ⟨[.ptr b [k], g 1, g 2, .ptr bs.length [], .lit (.int .i64 q), g 5, g 6, g 7, g 8, g 9, g 10, g 11, g 12, g 13, g 14, g 15, g 16, g 17, g 18, g 19, g 20, g 21, g 22, g 23, g 24, g 25, g 26, g 27, g 28, g 29, g 30, g 31, g 32, g 33, g 34, g 35, g 36, g 37, g 38, g 39, g 40, g 41, g 42, g 43, g 44, g 45, g 46, g 47, g 48, g 49, g 50, g 51, g 52, g 53, g 54], ⟨bs ++ [((.pair (.pair .leaf (.pair .leaf .unit)) (.pair .leaf .unit)), m.d)], tk⟩⟩ ∧ n = e.gone.length - q ∧ q ≤ e.gone.length ∧ ∀ p, p < q → markLt (e.gone.getD p default) m = true) e.gone.length ⟨0, reg_intro rfl rfl ⟨by simp, by omega, by simp⟩⟩ ?_
  rintro n st ⟨q, g, rfl, hn, hq, hp⟩
  have ins : ∀ ex', withM e.gone m = insAt e.gone q m → (∀ N s L, (Sh.arr N s, D.agg L) ∈ ex' → pureL L) → finH (some (.tup [])) bs tk (fun r b' => r = .tup [] ∧ b' = bs.set b (.arr N ((.pair (.pair (.pair .leaf (.pair .leaf .unit)) (.pair .leaf .unit)) (.pair .leaf (.pair (.pair (.pair .leaf (.pair .leaf .unit)) (.pair .leaf .unit)) (.pair .leaf (.pair .leaf .unit)))))), .agg (L.set k (elD { e with gone := withM e.gone m })))) ((bs ++ [(((.pair (.pair .leaf (.pair .leaf .unit)) (.pair .leaf .unit)) : Sh), m.d)] ++ ex').set b (.arr N ((.pair (.pair (.pair .leaf (.pair .leaf .unit)) (.pair .leaf .unit)) (.pair .leaf (.pair (.pair (.pair .leaf (.pair .leaf .unit)) (.pair .leaf .unit)) (.pair .leaf (.pair .leaf .unit)))))), .agg (L.set k (elD { e with gone := insAt e.gone q m })))) tk := fun ex' h1 h2 => by
    rw [h1, List.append_assoc, List.set_append_left _ _ hlt]
    refine finH_set hb (pureL_set hpl ?_) ?_ ⟨rfl, rfl⟩
    · simp [pureD, pureL]
    · intro N s L hm
      rcases List.mem_append.1 hm with h | h
      · simp at h
      · exact h2 N s L h
  have same : withM e.gone m = e.gone → bs = bs.set b (.arr N ((.pair (.pair (.pair .leaf (.pair .leaf .unit)) (.pair .leaf .unit)) (.pair .leaf (.pair (.pair (.pair .leaf (.pair .leaf .unit)) (.pair .leaf .unit)) (.pair .leaf (.pair .leaf .unit)))))), .agg (L.set k (elD { e with gone := withM e.gone m }))) := fun h => by
    rw [h]
    have h2 : L.set k (elD e) = L := by
      apply List.ext_getElem? ; intro i
      rw [List.getElem?_set]
      split
      · rename_i hi; subst hi
        rw [if_pos (List.getElem?_eq_some_iff.1 hk).1, hk]
      · rfl
    rw [show ({ e with gone := e.gone } : ElemR) = e from rfl, h2, set_same hb]
  try simp only [go_sem, simprocAttr, gb, gb3, hk, hN, nil_ptr']
  refine .inl ⟨by kernel_rfl, ?_⟩
  refine guardK_split (fun hc => ?_) (fun hc => ?_)
  · have hk' : q < e.gone.length := by have := of_decide_eq_true hc; omega
    try simp only [go_sem, simprocAttr, gb, gb3, hk, hN, nil_ptr', hc, hk', get_mk]
    refine callD_pure (ops_less (e.gone.getD q default) m) (by first | rfl | (simp only [go_sem]; done)) (by first | (simp only [go_sem]; done) | (simp [pureL, pureD]; done)) ?_
    simp only [go_sem, simprocAttr, hc]
    refine condK_split (fun h3 => ?_) (fun h3 => ?_)
    · simp only [go_sem, simprocAttr, wrapNat q (by omega)]
      exact ⟨e.gone.length - (q + 1), by omega, q + 1, reg_intro rfl rfl ⟨rfl, by omega, next_good (f := fun q => markLt (e.gone.getD q default) m) hp h3⟩⟩
    · obtain ⟨w1, w2⟩ := insB_insK hr hq hp (fun _ => h3)
      try simp only [go_sem, simprocAttr, gb, gb3, hk, hN, nil_ptr']
      refine .inl ⟨by kernel_rfl, ?_⟩
      have hqd : decide ((q : Int) = (e.gone.length : Int)) = false := by simp; omega
      try simp only [go_sem, simprocAttr, gb, gb3, hk, hN, nil_ptr', hc, hqd, hk', get_mk, eqB_mk, decM]
      refine condK_split (fun h4 => ?_) (fun h4 => ?_)
      · simp only [Bool.not_eq_true', decide_eq_false_iff_not] at h4
        have hw := w2 fun _ => h4
        try simp only [go_sem, simprocAttr, gb, gb3, hk, hN, nil_ptr']
        refine .inr (drawN_calls [0, 1, 2, 3, 4, 6, 7, 8] [5, 9] [10, 11, 12] (by kernel_rfl) ?_)
        try simp only [go_sem, simprocAttr, gb, gb3, hk, hN, nil_ptr']
        refine callsD_call (args' := [marksD e.gone .no]) rfl (by simp only [go_sem, simprocAttr]) (clone_mk e.gone .no (by omega) _ _) ?_
        rintro r h' ⟨ex, rfl, ho⟩
        refine ⟨Hle.of rfl, ?_⟩
        simp only [go_sem, simprocAttr]
        refine callsD_call (args' := [r, .lit (.int .i64 q), marksD [m] .full]) rfl (by simp only [go_sem, simprocAttr, out_nrmL ho, List.map_cons, List.map_nil]; rfl) (ASpec.freezeM (insert_mk e.gone m .full q hq (by omega) (bs ++ [((.pair (.pair .leaf (.pair .leaf .unit)) (.pair .leaf .unit)), m.d)]) ex tk ho) (pure_mk _)) ?_
        rintro r2 h2 ⟨rfl, ex', rfl, ho'⟩
        refine ⟨Hle.of rfl, ?_⟩
        show aopsN _ _ _ _ _ _
        simp only [go_sem, simprocAttr]
        refine aopsN_at rfl rfl ?_
        try simp only [go_sem, simprocAttr, gb, gb3, hk, hN, nil_ptr']
        refine aopsN_at rfl rfl ?_
        try simp only [go_sem, simprocAttr, gb, gb3, hk, hN, nil_ptr']
        refine aopsN_at rfl rfl ?_
        simp only [go_sem, simprocAttr, gb, gb3, hk, hN, nil_ptr', aopsN_nil]
        exact ins ex' (hw) ho'
      · simp only [Bool.not_eq_false', decide_eq_true_eq] at h4
        have hw := w1 hk' h4
        try simp only [go_sem, simprocAttr, gb, gb3, hk, hN, nil_ptr']
        have e2 := finH_drop (ex := [(((.pair (.pair .leaf (.pair .leaf .unit)) (.pair .leaf .unit)) : Sh), m.d)]) (bs := bs) (tk := tk) (r := .tup []) (R := fun r b' => r = .tup [] ∧ b' = bs.set b (.arr N ((.pair (.pair (.pair .leaf (.pair .leaf .unit)) (.pair .leaf .unit)) (.pair .leaf (.pair (.pair (.pair .leaf (.pair .leaf .unit)) (.pair .leaf .unit)) (.pair .leaf (.pair .leaf .unit)))))), .agg (L.set k (elD { e with gone := withM e.gone m })))) (by simp) (by simp [meltD, meltL, lowD, lowL]) ⟨by simp [meltD, meltL], same hw⟩ []
        simpa using e2
  · have hkk : q = e.gone.length := by have := of_decide_eq_false hc; omega
    obtain ⟨w1, w2⟩ := insB_insK hr hq hp (fun h => absurd h (by omega))
    have hw := w2 fun h => absurd h (by omega)
    try simp only [go_sem, simprocAttr, gb, gb3, hk, hN, nil_ptr', hc]
    refine .inl ⟨by kernel_rfl, ?_⟩
    have hqd : decide ((q : Int) = (e.gone.length : Int)) = true := by simp; omega
    try simp only [go_sem, simprocAttr, gb, gb3, hk, hN, nil_ptr', hc, hqd]
    refine .inr (drawN_calls [0, 1, 2, 3, 4, 6, 7, 8] [5, 9] [10, 11, 12] (by kernel_rfl) ?_)
    try simp only [go_sem, simprocAttr, gb, gb3, hk, hN, nil_ptr']
    refine callsD_call (args' := [marksD e.gone .no]) rfl (by simp only [go_sem, simprocAttr]) (clone_mk e.gone .no (by omega) _ _) ?_
    rintro r h' ⟨ex, rfl, ho⟩
    refine ⟨Hle.of rfl, ?_⟩
    simp only [go_sem, simprocAttr]
    refine callsD_call (args' := [r, .lit (.int .i64 q), marksD [m] .full]) rfl (by simp only [go_sem, simprocAttr, out_nrmL ho, List.map_cons, List.map_nil]; rfl) (ASpec.freezeM (insert_mk e.gone m .full q hq (by omega) (bs ++ [((.pair (.pair .leaf (.pair .leaf .unit)) (.pair .leaf .unit)), m.d)]) ex tk ho) (pure_mk _)) ?_
    rintro r2 h2 ⟨rfl, ex', rfl, ho'⟩
    refine ⟨Hle.of rfl, ?_⟩
    show aopsN _ _ _ _ _ _
    simp only [go_sem, simprocAttr]
    refine aopsN_at rfl rfl ?_
    try simp only [go_sem, simprocAttr, gb, gb3, hk, hN, nil_ptr']
    refine aopsN_at rfl rfl ?_
    try simp only [go_sem, simprocAttr, gb, gb3, hk, hN, nil_ptr']
    refine aopsN_at rfl rfl ?_
    simp only [go_sem, simprocAttr, gb, gb3, hk, hN, nil_ptr', aopsN_nil]
    exact ins ex' hw ho'

def curG {α : Type} (f : α → α) (l : List α) (k : Nat) : List α := (l.take k).map f ++ l.drop k
theorem curG_len {α : Type} (f : α → α) (l : List α) {k : Nat} (hk : k ≤ l.length) : (curG f l k).length = l.length := by simp [curG]; omega
theorem curG_at {α : Type} [Inhabited α] (f : α → α) (l : List α) {k : Nat} (hk : k < l.length) : (curG f l k)[k]? = some (l.getD k default) := by
  rw [curG, List.getElem?_append_right (by simp; omega)]
  have : k - ((l.take k).map f).length = 0 := by simp; omega
  rw [this, List.getElem?_drop, Nat.add_zero, List.getElem?_eq_getElem hk, List.getD_eq_getElem?_getD, List.getElem?_eq_getElem hk]; rfl
theorem curG_next {α : Type} [Inhabited α] (f : α → α) (l : List α) {k : Nat} (hk : k < l.length) : (curG f l k).set k (f (l.getD k default)) = curG f l (k + 1) := by
  have h1 : ((l.take k).map f).length = k := by simp; omega
  rw [curG, List.set_append_right _ _ (by omega), h1, Nat.sub_self, List.drop_eq_getElem_cons hk, List.set_cons_zero, curG, take_snocG l k hk, List.map_append, List.append_assoc]
  rfl
theorem curG_end {α : Type} (f : α → α) (l : List α) : curG f l l.length = l.map f := by simp [curG]
theorem curG_zero {α : Type} (f : α → α) (l : List α) : curG f l 0 = l := by simp [curG]
theorem curG_same {α : Type} [Inhabited α] (f : α → α) (l : List α) {k : Nat} (hk : k < l.length) (h : f (l.getD k default) = l.getD k default) : curG f l (k + 1) = curG f l k := by
  rw [← curG_next f l hk, h]
  apply List.ext_getElem?
  intro i
  rw [List.getElem?_set]
  split
  · rename_i e; subst e
    rw [if_pos (by rw [curG_len f l (by omega)]; exact hk), curG_at f l hk]
  · rfl
theorem pure_elD (e : ElemR) : pureD (elD e) := by simp [pureD, pureL]
abbrev cellL (c : CellR) (d : D) : D := .agg [.lit (.int .i64 c.kind), .lit (.int .i64 c.base), .lst 72 (c.am.map amD) .no, .lst 64 (c.wr.map wrD) .no, .lst 67 (c.me.map meD) .no, d]
set_option maxRecDepth 8000 in
set_option maxHeartbeats 4000000 in
theorem seq_take {f : FuncId} {caps : List D} {p : MarkR → Bool} (c : CellR) (t : TxR) (i : Int) (hd : t.deps.length = 13) (hw : c.el.length < 100000) (hgo : ∀ e ∈ c.el, e.gone.length < 10000000) (bs : List (Sh × D)) (hp : PredF f caps MarkR.d p bs) :
    HSpec Tryz.prog CT 209 [cellD c, txD t, .lit (.int .i64 i), .fn (.func f) caps] bs fun r b' => r = cellD (takeQ c t i p) ∧ b' = bs := by
  refine HSpec.of hT Tryz.func209 rfl (by kernel_rfl) rfl rfl fun tk => ?_
  simp only [Tryz.f209, go_sem, simprocAttr, hd]
  have leave : ∀ ex : List (Sh × D), (∀ (N : Nat) (s' : Sh) (L : List D), (Sh.arr N s', D.agg L) ∈ ex → pureL L) → takeQ c t i p = c → finH (some (cellD c)) bs tk (fun r b' => r = cellD (takeQ c t i p) ∧ b' = bs) (bs ++ ex) tk := fun ex h1 h2 => by
    have := finH_drop (bs := bs) (ex := ex) (tk := tk) (r := cellD c) (R := fun r b' => r = cellD (takeQ c t i p) ∧ b' = bs) h1 (by simp [meltD, meltL, lowD, lowL]) ⟨by rw [h2]; simp [meltD, meltL], rfl⟩ []
    simpa using this
  have m0 : ∀ ex, (∀ (N : Nat) (s' : Sh) (L : List D), (Sh.arr N s', D.agg L) ∈ ex → pureL L) → ∀ y z w, ∀ (N : Nat) (s' : Sh) (L : List D), (Sh.arr N s', D.agg L) ∈ [(((.pair .leaf (.pair .leaf (.pair .leaf (.pair .leaf (.pair .leaf (.pair .leaf .unit)))))) : Sh), y), (txSh, z), (((.pair .leaf (.pair .leaf (.pair .leaf (.pair .leaf (.pair .leaf (.pair .leaf .unit)))))) : Sh), w)] ++ ex → pureL L := fun ex h y z w N s' L hm => by
    rcases List.mem_append.1 hm with h' | h'
    · simp at h'
    · exact h _ _ _ h'
  have h2l : ∀ a b : Sh × D, (bs ++ [a, b]).length = bs.length + 2 := fun a b => by simp
  have h1l : ∀ a : Sh × D, (bs ++ [a]).length = bs.length + 1 := fun a => by simp
  have h3l : ∀ a b c : Sh × D, (bs ++ [a, b, c]).length = bs.length + 3 := fun a b c => by simp
  simp only [List.append_assoc, List.cons_append, List.nil_append, h1l, h2l]
  have g0 : ∀ a b c : Sh × D, (bs ++ [a, b, c])[bs.length]? = some a := fun a b c => by simp
  have g1 : ∀ a b c : Sh × D, (bs ++ [a, b, c])[bs.length + 1]? = some b := fun a b c => by rw [List.getElem?_append_right (by omega)]; simp
  have g2 : ∀ a b c : Sh × D, (bs ++ [a, b, c])[bs.length + 2]? = some c := fun a b c => by rw [List.getElem?_append_right (by omega)]; simp
  have p2 : ∀ a b c d : Sh × D, (bs ++ [a, b, c]).set (bs.length + 2) d = bs ++ [a, b, d] := fun a b c d => by rw [List.set_append_right _ _ (by omega)]; simp
  refine guardK_split (fun hi => ?_) (fun hi => ?_)
  · have e := leave _ (m0 [] (by simp) (cellD c) (txD t) (cellD c)) (by rw [takeQ, if_pos (.inl (of_decide_eq_true hi))])
    simp only [go_sem, simprocAttr, hi, hd, g0, g1, g2, p2]
    simpa using e
  have hi := of_decide_eq_false hi
  simp only [go_sem, simprocAttr, hi, hd, g0, g1, g2, p2]
  refine callK_pure (args' := [cellD c]) (seq_check c (by omega) (fun e he => by have := hgo e he; omega)) (by first | rfl | (simp only [go_sem]; done)) (by first | (simp only [go_sem]; done) | (simp [pureL, pureD]; done)) ?_
  simp only [go_sem, simprocAttr, hi, hd, g0, g1, g2, p2]
  refine condK_split (fun hc => ?_) (fun hc => ?_)
  · have e := leave _ (m0 [] (by simp) (cellD c) (txD t) (cellD c)) (by rw [takeQ, if_pos (.inr (by simpa using hc))])
    simp only [go_sem, simprocAttr, hi, hd, g0, g1, g2, p2]
    simpa using e
  have hck : checkQ c = true := by simpa using hc
  have htk : takeQ c t i p = { c with el := c.el.map (takeE p ⟨t.peer, t.seq, i⟩) } := by rw [takeQ, if_neg (by rw [hck]; simp; omega)]
  obtain ⟨k1, k2, k3, k4⟩ := (checkQ_iff c).1 hck
  simp only [go_sem, simprocAttr, hi, hd, g0, g1, g2, p2]
  refine callK_a (clone_el c.el .no (by omega) _ _) ?_
  rintro d h' ⟨ex0, rfl, ho0⟩
  have ho1 := outX_ofL ho0 (pure_el _)
  rw [h3l] at ho1
  have q0 : ∀ (a b c : Sh × D) y, (bs ++ [a, b, c] ++ y)[bs.length]? = some a := fun a b c y => by rw [List.append_assoc, List.getElem?_append_right (by omega)]; simp
  have q1 : ∀ (a b c : Sh × D) y, (bs ++ [a, b, c] ++ y)[bs.length + 1]? = some b := fun a b c y => by rw [List.append_assoc, List.getElem?_append_right (by omega)]; simp
  have q2 : ∀ (a b c : Sh × D) y, (bs ++ [a, b, c] ++ y)[bs.length + 2]? = some c := fun a b c y => by rw [List.append_assoc, List.getElem?_append_right (by omega)]; simp
  have r0 : ∀ (a b c d : Sh × D) y, (bs ++ [a, b, c] ++ y).set bs.length d = bs ++ [d, b, c] ++ y := fun a b c d y => by rw [List.append_assoc, List.set_append_right _ _ (by omega)]; simp
  simp only [go_sem, simprocAttr, hd, q0, q1, q2, r0, outX_nrm ho1, outX_leaf ho1, outX_len ho1 (t := 25) rfl, List.length_map]
  refine awp_loop (fun n s => ∃ (x ex : List (Sh × D)) (k : Nat) (g : Nat → D), s = ⟨[g 0, g 1, .lit (.int .i64 i), .fn (.func f) caps, .ptr bs.length [], .ptr (bs.length + 1) [], g 6, g 7, .ptr (bs.length + 2) [], g 9, g 10, g 11, g 12, g 13, g 14, g 15, g 16, g 17, g 18, g 19, g 20, g 21, g 22, g 23, .lit (.int .i64 c.el.length), .lit (.int .i64 k), g 26, g 27, g 28, g 29, g 30, g 31, g 32, g 33, g 34, g 35, g 36, g 37, g 38, g 39, g 40, g 41, g 42, g 43, g 44, g 45, g 46], ⟨x, tk⟩⟩ ∧ n = c.el.length - k ∧ x = bs ++ [((.pair .leaf (.pair .leaf (.pair .leaf (.pair .leaf (.pair .leaf (.pair .leaf .unit)))))), cellL c d), (txSh, txD t), ((.pair .leaf (.pair .leaf (.pair .leaf (.pair .leaf (.pair .leaf (.pair .leaf .unit)))))), CT.zero 27)] ++ ex ∧ k ≤ c.el.length ∧ OutX 69 (bs.length + 3) d ex ((curG (takeE p ⟨t.peer, t.seq, i⟩) c.el k).map elD)) c.el.length ⟨_, ex0, 0, reg_intro rfl rfl ⟨by simp, rfl, by omega, by rw [curG_zero]; exact ho1⟩⟩ ?_
  clear ho0 ho1 ex0
  rintro n st ⟨x, ex, k, g, rfl, hn, hx, hk, ho⟩
  simp only [go_sem, simprocAttr]
  refine condK_split (fun hc => ?_) (fun hc => ?_)
  · have hk' : k < c.el.length := by have := of_decide_eq_true hc; omega
    have hcl := curG_len (takeE p ⟨t.peer, t.seq, i⟩) c.el hk
    have hat := curG_at (takeE p ⟨t.peer, t.seq, i⟩) c.el hk'
    obtain ⟨b, N, L, rfl, hb3, hXb, hkN, hLk, hupd⟩ := outX_upd (base := bs ++ [((.pair .leaf (.pair .leaf (.pair .leaf (.pair .leaf (.pair .leaf (.pair .leaf .unit)))))), cellL c d), (txSh, txD t), ((.pair .leaf (.pair .leaf (.pair .leaf (.pair .leaf (.pair .leaf (.pair .leaf .unit)))))), CT.zero 27)]) ho (h3l _ _ _) (k := k) (by rw [List.length_map, hcl]; exact hk')
    rw [List.length_map, hcl] at *
    rw [List.getElem?_map, hat, Option.map_some] at hLk
    have hpL : pureL L := by
      obtain ⟨b', hb', h⟩ : ∃ j, b = bs.length + 3 + j ∧ ex[j]? = some (.arr N (CT.sh 69), .agg L) := by
        refine ⟨b - (bs.length + 3), by omega, ?_⟩
        rw [List.getElem?_append_right (by rw [h3l]; exact hb3), h3l] at hXb
        exact hXb
      exact ho.1 _ _ _ (List.mem_of_getElem? h)
    have hsh : CT.sh 69 = (.pair (.pair (.pair .leaf (.pair .leaf .unit)) (.pair .leaf .unit)) (.pair .leaf (.pair (.pair (.pair .leaf (.pair .leaf .unit)) (.pair .leaf .unit)) (.pair .leaf (.pair .leaf .unit))))) := rfl
    rw [hsh] at hXb hupd
    have hx0 : x[bs.length]? = some ((.pair .leaf (.pair .leaf (.pair .leaf (.pair .leaf (.pair .leaf (.pair .leaf .unit)))))), cellL c (.sl 69 b 0 c.el.length N)) := by rw [hx]; exact q0 _ _ _ _
    have hx1 : x[bs.length + 1]? = some (txSh, txD t) := by rw [hx]; exact q1 _ _ _ _
    have hxb : x[b]? = some (.arr N ((.pair (.pair (.pair .leaf (.pair .leaf .unit)) (.pair .leaf .unit)) (.pair .leaf (.pair (.pair (.pair .leaf (.pair .leaf .unit)) (.pair .leaf .unit)) (.pair .leaf (.pair .leaf .unit)))))), .agg L) := by rw [hx]; exact hXb
    have hxp : ∀ j, j < bs.length → x[j]? = bs[j]? := fun j hj => by rw [hx, List.append_assoc, List.getElem?_append_left hj]
    simp only [go_sem, simprocAttr, hd, hx0, hx1, hxb, hLk, hkN, hcl, hk', indexAddr_sl_t, Nat.zero_add]
    refine callK_h (hp (c.el.getD k default).m x hxp) ?_
    rintro r b' ⟨rfl, rfl⟩
    simp only [go_sem, simprocAttr, hd]
    refine condK_split (fun h1 => ?_) (fun h1 => ?_)
    · have htE : takeE p ⟨t.peer, t.seq, i⟩ (c.el.getD k default) = { c.el.getD k default with gone := withM (c.el.getD k default).gone ⟨t.peer, t.seq, i⟩ } := by rw [takeE, if_pos h1]
      obtain ⟨ex', hset, ho'⟩ := hupd (elD (takeE p ⟨t.peer, t.seq, i⟩ (c.el.getD k default))) (pure_elD _)
      rw [list_set_map, curG_next _ c.el hk'] at ho'
      have hmem := getD_mem hk'
      simp only [go_sem, simprocAttr, hd, hx0, hx1, hxb, hLk, hkN, hcl, hk', indexAddr_sl_t, Nat.zero_add]
      refine .inr (drawN_last [0, 1, 2, 3, 4, 5, 6, 7] 8 (by kernel_rfl) ?_)
      simp only [go_sem, simprocAttr, hd, hx0, hx1, hxb, hLk, hkN, hcl, hk', indexAddr_sl_t, Nat.zero_add]
      refine aopsN_at rfl rfl ?_
      simp only [go_sem, simprocAttr]
      refine callK_h (seq_gone (c.el.getD k default) ⟨t.peer, t.seq, i⟩ (k2 _ hmem).2.2.2 (by have := hgo _ hmem; omega) _ hxb hLk hkN hpL) ?_
      rintro r _ ⟨rfl, rfl⟩
      simp only [go_sem, simprocAttr, aopsN_nil, wrapNat k (by omega)]
      exact ⟨c.el.length - (k + 1), by omega, _, ex', k + 1, reg_intro rfl rfl ⟨rfl, (by refine Eq.trans ?_ hset; rw [hx, htE]), by omega, ho'⟩⟩
    · have hsame := curG_same (takeE p ⟨t.peer, t.seq, i⟩) c.el hk' (by rw [takeE, if_neg (by rw [h1]; simp)])
      simp only [go_sem, simprocAttr, wrapNat k (by omega)]
      exact ⟨c.el.length - (k + 1), by omega, _, ex, k + 1, reg_intro rfl rfl ⟨rfl, hx, by omega, by rw [hsame]; exact ho⟩⟩
  · have hi2 := of_decide_eq_false hc
    obtain rfl : k = c.el.length := by omega
    rw [curG_end] at ho
    have hx0 : x[bs.length]? = some ((.pair .leaf (.pair .leaf (.pair .leaf (.pair .leaf (.pair .leaf (.pair .leaf .unit)))))), cellL c d) := by rw [hx]; exact q0 _ _ _ _
    have hx2 : x[bs.length + 2]? = some ((.pair .leaf (.pair .leaf (.pair .leaf (.pair .leaf (.pair .leaf (.pair .leaf .unit)))))), CT.zero 27) := by rw [hx]; exact q2 _ _ _ _
    have hxg : ∀ y, (x.set (bs.length + 2) y)[bs.length + 2]? = some y := fun y => List.getElem?_set_self (List.getElem?_eq_some_iff.1 hx2).1
    simp only [go_sem, simprocAttr, hx0, hx2, hxg, outX_leaf ho, outX_nrm ho]
    have hb3 : ∀ y : Sh × D, x.set (bs.length + 2) y = bs ++ ([((.pair .leaf (.pair .leaf (.pair .leaf (.pair .leaf (.pair .leaf (.pair .leaf .unit)))))), cellL c d), (txSh, txD t), y] ++ ex) := fun y => by rw [hx, List.append_assoc, List.set_append_right _ _ (by omega)]; simp
    rw [hb3]
    have hm3 : ∀ y : Sh × D, meltD (bs ++ ([((.pair .leaf (.pair .leaf (.pair .leaf (.pair .leaf (.pair .leaf (.pair .leaf .unit)))))), cellL c d), (txSh, txD t), y] ++ ex)) bs.length (cellL c d) = cellD (takeQ c t i p) := fun y => by
      have h1 := outX_melt (base := bs ++ [((.pair .leaf (.pair .leaf (.pair .leaf (.pair .leaf (.pair .leaf (.pair .leaf .unit)))))), cellL c d), (txSh, txD t), y]) ho (h3l _ _ _) (q := bs.length) (by omega)
      rw [List.append_assoc] at h1
      rw [htk]; simp only [meltD, meltL, cellL, cellD, wrsD, h1]
    have e := finH_drop (bs := bs) (ex := [((.pair .leaf (.pair .leaf (.pair .leaf (.pair .leaf (.pair .leaf (.pair .leaf .unit)))))), cellL c d), (txSh, txD t), ((.pair .leaf (.pair .leaf (.pair .leaf (.pair .leaf (.pair .leaf (.pair .leaf .unit)))))), cellL c d)] ++ ex) (tk := tk) (r := cellL c d) (R := fun r b' => r = cellD (takeQ c t i p) ∧ b' = bs) (m0 ex ho.1 _ _ _) (by rw [hm3]; simp [lowD, lowL]) ⟨hm3 _, rfl⟩ []
    simpa using e

set_option maxRecDepth 8000 in
theorem seq_del (c : CellR) (t : TxR) (i : Int) (m : MarkR) (hd : t.deps.length = 13) (hw : c.el.length < 100000) (hgo : ∀ e ∈ c.el, e.gone.length < 10000000) :
    PSpec Tryz.prog CT 204 [cellD c, txD t, .lit (.int .i64 i), m.d] (· = cellD (delQ c t i m)) := by
  refine HSpec.pure (HSpec.of hT Tryz.func204 rfl (by kernel_rfl) rfl rfl fun tk => ?_)
  simp only [Tryz.f204, go_sem, simprocAttr, hd]
  refine callK_h (seq_take (p := sameR m) c t i hd hw hgo _ (pred_del m _ (b := 2) rfl)) ?_
  rintro r _ ⟨rfl, rfl⟩
  simp only [go_sem, simprocAttr, hd]
  exact finH_all (q := cellD (delQ c t i m)) (by intro N s' L hm; simp at hm) (melt_cell _ _) (pure_cell _) ⟨pure_cell _, rfl⟩
set_option maxRecDepth 8000 in
theorem seq_clear (c : CellR) (t : TxR) (i : Int) (hd : t.deps.length = 13) (hw : c.el.length < 100000) (hgo : ∀ e ∈ c.el, e.gone.length < 10000000) :
    PSpec Tryz.prog CT 202 [cellD c, txD t, .lit (.int .i64 i)] (· = cellD (clearQ c t i)) := by
  refine HSpec.pure (HSpec.of hT Tryz.func202 rfl (by kernel_rfl) rfl rfl fun tk => ?_)
  simp only [Tryz.f202, go_sem, simprocAttr, hd]
  refine callK_h (seq_take (p := befM t i) c t i hd hw hgo _ (pred_clearQ t i hd _ (bt := 1) (bi := 2) rfl rfl)) ?_
  rintro r _ ⟨rfl, rfl⟩
  simp only [go_sem, simprocAttr, hd]
  exact finH_all (q := cellD (clearQ c t i)) (by intro N s' L hm; simp at hm) (melt_cell _ _) (pure_cell _) ⟨pure_cell _, rfl⟩
theorem behind_zero (l : List ElemR) (t : TxR) (i : Int) : behindOk l t i zeroM = true := by simp [behindOk]
theorem behind_at {l : List ElemR} (hr : RiseG ElemR.m l) (t : TxR) (i : Int) {m : MarkR} (hm : m ≠ zeroM) : (idxF (sameG ElemR.m m) l < 0 → behindOk l t i m = false) ∧
    (¬ idxF (sameG ElemR.m m) l < 0 → ∃ k : Nat, idxF (sameG ElemR.m m) l = k ∧ k < l.length ∧ behindOk l t i m = !((l.getD k default).gone.any (befM t i))) := by
  unfold idxF
  constructor
  · intro h
    split at h
    · omega
    · rename_i hany
      cases hb : behindOk l t i m with
      | false => rfl
      | true =>
        rcases (behind_iff hr t i m).1 hb with h1 | ⟨e, he, h2, _⟩
        · exact absurd h1 hm
        · exact absurd (List.any_eq_true.2 ⟨e, he, by simp [sameG, h2]⟩) hany
  · intro h
    split at h
    · rename_i hany
      have hlt := List.findIdx_lt_length_of_exists (List.any_eq_true.1 hany)
      refine ⟨l.findIdx (sameG ElemR.m m), by rw [if_pos hany], hlt, ?_⟩
      have hs := List.findIdx_getElem (w := hlt)
      have hg : l.getD (l.findIdx (sameG ElemR.m m)) default = l[l.findIdx (sameG ElemR.m m)] := by rw [List.getD_eq_getElem?_getD, List.getElem?_eq_getElem hlt]; rfl
      rw [hg]
      have he : elemOf l m = some l[l.findIdx (sameG ElemR.m m)] := (elemOf_iff hr).2 ⟨List.getElem_mem hlt, by simpa [sameG] using hs⟩
      simp [behindOk, hm, he]
    · omega
abbrev rowF (x : ElemR) : D := .lst 69 [.agg [x.m.d, .lit (.int .i64 x.time), x.ref.d, .lit (.string x.text), .lst 36 (x.gone.map MarkR.d) .full]] .full
theorem weak3 (r : D) (k : Nat) (x : ElemR) : All2 (fun d d' => ∀ (ρ : Env) (v : Value), VV CT.sh ρ v d → VV CT.sh ρ v d') [r, .lit (.int .i64 k), rowF x] [r, .lit (.int .i64 k), rows_el [x] .full] := by
  refine All2.cons (fun _ _ h => h) (All2.cons (fun _ _ h => h) (All2.cons (fun ρ v h => ?_) All2.nil))
  have h1 := vv_deepTail h
  have h2 : deepL (x.gone.map MarkR.d) = x.gone.map MarkR.d := by
    rw [deepL_map, List.map_map]
    exact List.map_congr_left fun a _ => by simp [deep, deepL]
  simp only [deepL, deep, h2] at h1
  exact h1
abbrev elF (x : ElemR) : D := .agg [x.m.d, .lit (.int .i64 x.time), x.ref.d, .lit (.string x.text), .lst 36 (x.gone.map MarkR.d) .full]
set_option maxRecDepth 8000 in
set_option maxHeartbeats 4000000 in
theorem seq_ins (c : CellR) (t : TxR) (i : Int) (m : MarkR) (sx : ByteArray) (hd : t.deps.length = 13) (hw : c.el.length < 100000) (hgo : ∀ e ∈ c.el, e.gone.length < 10000000) :
    PSpec Tryz.prog CT 203 [cellD c, txD t, .lit (.int .i64 i), m.d, .lit (.string sx)] (· = cellD (insQ c t i m sx)) := by
  refine HSpec.pure (HSpec.of hT Tryz.func203 rfl (by kernel_rfl) rfl rfl fun tk => ?_)
  simp only [Tryz.f203, go_sem, simprocAttr, hd]
  have early : (i < 1 ∨ 64 < (sx.size : Int) ∨ checkQ c = false ∨ c.el.any (sameG ElemR.m ⟨t.peer, t.seq, i⟩) = true) → insQ c t i m sx = c := fun h => by rw [insQ, if_pos h]
  have leave : ∀ bs : List (Sh × D), (∀ (N : Nat) (s' : Sh) (L : List D), (Sh.arr N s', D.agg L) ∈ bs → pureL L) → insQ c t i m sx = c → finH (some (cellD c)) [] tk (fun r _ => pureR r ∧ r = cellD (insQ c t i m sx)) bs tk := fun bs h1 h2 => by
    rw [h2]
    exact finH_all h1 (melt_cell _ _) (pure_cell _) ⟨pure_cell _, rfl⟩
  have hpl := seq_place c.el ⟨t.peer, t.seq, i⟩ (by omega)
  have hge := idxF_ge (sameG ElemR.m ⟨t.peer, t.seq, i⟩) c.el
  (repeat' (first | ((refine guardK_split (fun hg => ?_) (fun hg => ?_)) <;> (try simp only [go_sem, simprocAttr, hg, hd])) | ((refine condK_split (fun hg => ?_) (fun hg => ?_)) <;> (try simp only [go_sem, simprocAttr, hg, hd])) | ((first | refine callK_pure (seq_check c (by omega) (fun e he => by have := hgo e he; omega)) ?_ ?_ ?_ | refine callD_pure (seq_check c (by omega) (fun e he => by have := hgo e he; omega)) ?_ ?_ ?_); (iterate 2 (focus (first | rfl | (simp only [go_sem, hd]; done)))); try simp only [go_sem, simprocAttr, hd]) | ((first | refine callK_pure (seq_place c.el ⟨t.peer, t.seq, i⟩ (by omega)) ?_ ?_ ?_ | refine callD_pure (seq_place c.el ⟨t.peer, t.seq, i⟩ (by omega)) ?_ ?_ ?_); (iterate 2 (focus (first | rfl | (simp only [go_sem, hd]; done)))); try simp only [go_sem, simprocAttr, hd]) | ((refine Or.inl ⟨by kernel_rfl, ?_⟩) <;> (try simp only [go_sem, simprocAttr, hd])))) <;> (first | done | (exact leave _ (by intro N s' L hm; simp at hm) (early (by first | (simp_all; done) | (simp_all; omega)))) | skip)
  all_goals
    have hck : checkQ c = true := by simp_all
    have hany : c.el.any (sameG ElemR.m ⟨t.peer, t.seq, i⟩) = false := by simp_all
    have hi1 : ¬ i < 1 := by simp_all
    have hs1 : ¬ 64 < (sx.size : Int) := by simp_all
    obtain ⟨k1, k2, k3, k4⟩ := (checkQ_iff c).1 hck
    have hdo : insQ c t i m sx = if behindOk c.el t i m then { c with el := insB (goesG ElemR.m (newE t i m sx)) (newE t i m sx) c.el } else c := by rw [insQ, if_neg (by rw [hck, hany]; simp; omega)]
  have hg' : (!decide ((⟨m.p, m.s, m.i⟩ : MarkR) = ⟨0, 0, 0⟩)) = true := by rw [← eqB_mk]; exact hg
  have hm : m ≠ zeroM := by
    rintro rfl
    simp [zeroM] at hg'
  obtain ⟨b1, b2⟩ := behind_at k3 t i hm
  refine callK_pure (seq_place c.el m (by omega)) (by first | rfl | (simp only [go_sem]; done)) (by first | (simp only [go_sem]; done) | (simp [pureL, pureD]; done)) ?_
  simp only [go_sem, simprocAttr, hd]
  refine guardK_split (fun h1 => ?_) (fun h1 => ?_)
  · simp only [go_sem, simprocAttr, hd, h1]
    exact leave _ (by intro N s' L hm; simp at hm) (by rw [hdo, b1 (of_decide_eq_true h1)]; rfl)
  obtain ⟨q, hq1, hq2, hq3⟩ := b2 (of_decide_eq_false h1)
  rw [hq1] at h1 ⊢
  have hmem := getD_mem hq2
  simp only [go_sem, simprocAttr, hd, h1, hq2, get_elL]
  refine callK_h (containsFunc_mk (p := befM t i) (c.el.getD q default).gone .no (by have := hgo _ hmem; omega) _ (pred_ins t i hd _ (bt := 1) (bi := 2) rfl rfl)) ?_
  rintro r b' ⟨rfl, rfl⟩
  simp only [go_sem, simprocAttr, hd, h1, hq2, get_elL]
  refine condK_split (fun h2 => ?_) (fun h2 => ?_)
  · simp only [go_sem, simprocAttr, hd]
    exact leave _ (by intro N s' L hm; simp at hm) (by rw [hdo, hq3, h2]; rfl)
  have hbh : behindOk c.el t i m = true := by rw [hq3, h2]; rfl
  clear hq3 h2 h1 hq1 hq2 b1 b2 hmem hm
  simp only [go_sem, simprocAttr, hd]
  rotate_left
  have hg' : (!decide ((⟨m.p, m.s, m.i⟩ : MarkR) = ⟨0, 0, 0⟩)) = false := by rw [← eqB_mk]; exact hg
  have hbh : behindOk c.el t i m = true := by
    have : m = zeroM := by
      cases m
      simpa [zeroM] using hg'
    rw [this]; exact behind_zero _ _ _
  rotate_left
  all_goals
    rw [if_pos hbh] at hdo
    obtain ⟨x, hx⟩ : ∃ x : ElemR, x = newE t i m sx := ⟨_, rfl⟩
    rw [← hx] at hdo
    have hxm : (⟨t.peer, t.seq, i⟩ : MarkR) = x.m := by rw [hx]
    have hxd : D.agg [.agg [.agg [.lit (.int .i64 t.peer), .lit (.int .i64 t.seq)], .lit (.int .i64 i)], .lit (.int .i64 t.time), .agg [dotD m.p m.s, .lit (.int .i64 m.i)], .lit (.string sx), .lst 36 [] .full] = elF x := by rw [hx]; rfl
    rw [hxm] at hany
    clear hg hg' hge hpl hbh early
    simp only [hxd]
    have ins : (k : Nat) → k ≤ c.el.length → (∀ q, q < k → markLt (c.el.getD q default).m x.m = true) → (k < c.el.length → markLt (c.el.getD k default).m x.m = false) → ∀ {r2 : D} {ex' : List (Sh × D)}, OutM 69 6 r2 ex' ((insAt c.el k x).map elD) →
        finH (some (cellL c r2)) [] tk (fun r _ => pureR r ∧ r = cellD (insQ c t i m sx)) ([((.pair .leaf (.pair .leaf (.pair .leaf (.pair .leaf (.pair .leaf (.pair .leaf .unit)))))), cellL c r2), (txSh, txD t), (.leaf, .lit (.int .i64 i)), ((.pair (.pair .leaf (.pair .leaf .unit)) (.pair .leaf .unit)), m.d), ((.pair .leaf (.pair .leaf (.pair .leaf (.pair .leaf (.pair .leaf (.pair .leaf .unit)))))), cellL c r2), ((.pair (.pair (.pair .leaf (.pair .leaf .unit)) (.pair .leaf .unit)) (.pair .leaf (.pair (.pair (.pair .leaf (.pair .leaf .unit)) (.pair .leaf .unit)) (.pair .leaf (.pair .leaf .unit))))), elF x)] ++ ex') tk := by
      intro k hk hp hlt r2 ex' ho'
      have hne : k < c.el.length → (c.el.getD k default).m ≠ x.m := fun h e => by
        have := (insG_at k3 hk hp hlt).1 h e
        rw [this] at hany; cases hany
      obtain ⟨h7, h8⟩ := (insG_at k3 hk hp hlt).2 hne
      refine finH_all ?_ (q := cellD (insQ c t i m sx)) ?_ (pure_cell _) ⟨pure_cell _, rfl⟩
      · intro N s' L hmm
        simp only [List.mem_append, List.mem_cons, List.not_mem_nil, or_false, Prod.mk.injEq, reduceCtorEq, false_and, false_or] at hmm
        exact outM_pure ho' N s' L hmm
      · have hmo := fun x y z w u v => melt_out (base := [x, y, z, w, u, v]) rfl ho'
        simp only [List.cons_append, List.nil_append] at hmo
        rw [hdo]
        simp only [List.cons_append, List.nil_append, meltD, meltL, hmo, h8]
    refine awp_loop (fun n s => ∃ (k : Nat) (g : Nat → D), s = ⟨[g 0, g 1, g 2, g 3, g 4, .ptr 0 [], .ptr 1 [], .ptr 2 [], .ptr 3 [], g 9, .ptr 4 [], .ptr 5 [], g 12, .lit (.int .i64 k), g 14, g 15, g 16, g 17, g 18, g 19, g 20, g 21, g 22, g 23, g 24, g 25, g 26, g 27, g 28, g 29, g 30, g 31, g 32, g 33, g 34, g 35, g 36, g 37, g 38, g 39, g 40, g 41, g 42, g 43, g 44, g 45, g 46, g 47, g 48, g 49, g 50, g 51, g 52, g 53, g 54, g 55, g 56, g 57, g 58, g 59, g 60, g 61, g 62, g 63, g 64, g 65, g 66, g 67, g 68, g 69, g 70, g 71, g 72, g 73, g 74, g 75, g 76, g 77, g 78, g 79, g 80, g 81, g 82, g 83, g 84, g 85, g 86, g 87, g 88, g 89, g 90], ⟨[((.pair .leaf (.pair .leaf (.pair .leaf (.pair .leaf (.pair .leaf (.pair .leaf .unit)))))), cellD c), (txSh, txD t), (.leaf, .lit (.int .i64 i)), ((.pair (.pair .leaf (.pair .leaf .unit)) (.pair .leaf .unit)), m.d), ((.pair .leaf (.pair .leaf (.pair .leaf (.pair .leaf (.pair .leaf (.pair .leaf .unit)))))), CT.zero 27), ((.pair (.pair (.pair .leaf (.pair .leaf .unit)) (.pair .leaf .unit)) (.pair .leaf (.pair (.pair (.pair .leaf (.pair .leaf .unit)) (.pair .leaf .unit)) (.pair .leaf (.pair .leaf .unit))))), elF x)], tk⟩⟩ ∧ n = c.el.length - k ∧ k ≤ c.el.length ∧ ∀ q, q < k → markLt (c.el.getD q default).m x.m = true) c.el.length ⟨0, reg_intro rfl rfl ⟨by simp, by omega, by simp⟩⟩ ?_
    rintro n st ⟨k, g, rfl, hm, hk, hp⟩
    simp only [go_sem, simprocAttr, hd]
    refine .inl ⟨by kernel_rfl, ?_⟩
    refine guardK_split (fun hc => ?_) (fun hc => ?_)
    · have hk' : k < c.el.length := by have := of_decide_eq_true hc; omega
      simp only [go_sem, simprocAttr, hd, hc, hk', get_elL]
      refine callD_pure (ops_less (c.el.getD k default).m x.m) (by first | rfl | (simp only [go_sem]; done)) (by first | (simp only [go_sem]; done) | (simp [pureL, pureD]; done)) ?_
      simp only [go_sem, simprocAttr, hc]
      refine condK_split (fun h3 => ?_) (fun h3 => ?_)
      · simp only [go_sem, simprocAttr, wrapNat k (by omega)]
        exact ⟨c.el.length - (k + 1), by omega, k + 1, reg_intro rfl rfl ⟨rfl, by omega, next_good (f := fun q => markLt (c.el.getD q default).m x.m) hp h3⟩⟩
      · simp only [go_sem, simprocAttr, hd]
        refine .inr (drawN_calls [0, 1, 3, 4, 5] [2, 6] [7, 8] (by kernel_rfl) ?_)
        try simp only [go_sem, simprocAttr, hd]
        refine callsD_call (args' := [rows_el c.el .no]) rfl (by simp only [go_sem, simprocAttr]) (clone_el c.el .no (by omega) _ _) ?_
        rintro r h' ⟨ex, rfl, ho⟩
        refine ⟨Hle.of rfl, ?_⟩
        simp only [go_sem, simprocAttr]
        refine callsD_call (args' := [r, .lit (.int .i64 k), rowF x]) rfl (by simp only [go_sem, simprocAttr, out_nrmL ho, List.map_cons, List.map_nil]) (ASpec.weak (args' := [r, .lit (.int .i64 k), rows_el [x] .full]) (insert_el c.el x .full k hk (by omega) [((.pair .leaf (.pair .leaf (.pair .leaf (.pair .leaf (.pair .leaf (.pair .leaf .unit)))))), cellD c), (txSh, txD t), (.leaf, .lit (.int .i64 i)), ((.pair (.pair .leaf (.pair .leaf .unit)) (.pair .leaf .unit)), m.d), ((.pair .leaf (.pair .leaf (.pair .leaf (.pair .leaf (.pair .leaf (.pair .leaf .unit)))))), CT.zero 27), ((.pair (.pair (.pair .leaf (.pair .leaf .unit)) (.pair .leaf .unit)) (.pair .leaf (.pair (.pair (.pair .leaf (.pair .leaf .unit)) (.pair .leaf .unit)) (.pair .leaf (.pair .leaf .unit))))), elF x)] ex tk ho) (weak3 r k x)) ?_
        rintro r2 h2 ⟨ex', rfl, ho'⟩
        refine ⟨Hle.of rfl, ?_⟩
        show aopsN _ _ _ _ _ _
        simp only [go_sem, simprocAttr]
        refine aopsN_at rfl rfl ?_
        simp only [go_sem, simprocAttr, hd]
        refine aopsN_at rfl rfl ?_
        simp only [go_sem, simprocAttr, hd, out_nrmM ho', out_leaf ho', aopsN_nil]
        exact ins k hk hp (fun _ => h3) ho'
    · have hkk : k = c.el.length := by have := of_decide_eq_false hc; omega
      simp only [go_sem, simprocAttr, hd, hc]
      refine .inr (drawN_calls [0, 1, 3, 4, 5] [2, 6] [7, 8] (by kernel_rfl) ?_)
      try simp only [go_sem, simprocAttr, hd]
      refine callsD_call (args' := [rows_el c.el .no]) rfl (by simp only [go_sem, simprocAttr]) (clone_el c.el .no (by omega) _ _) ?_
      rintro r h' ⟨ex, rfl, ho⟩
      refine ⟨Hle.of rfl, ?_⟩
      simp only [go_sem, simprocAttr]
      refine callsD_call (args' := [r, .lit (.int .i64 k), rowF x]) rfl (by simp only [go_sem, simprocAttr, out_nrmL ho, List.map_cons, List.map_nil]) (ASpec.weak (args' := [r, .lit (.int .i64 k), rows_el [x] .full]) (insert_el c.el x .full k hk (by omega) [((.pair .leaf (.pair .leaf (.pair .leaf (.pair .leaf (.pair .leaf (.pair .leaf .unit)))))), cellD c), (txSh, txD t), (.leaf, .lit (.int .i64 i)), ((.pair (.pair .leaf (.pair .leaf .unit)) (.pair .leaf .unit)), m.d), ((.pair .leaf (.pair .leaf (.pair .leaf (.pair .leaf (.pair .leaf (.pair .leaf .unit)))))), CT.zero 27), ((.pair (.pair (.pair .leaf (.pair .leaf .unit)) (.pair .leaf .unit)) (.pair .leaf (.pair (.pair (.pair .leaf (.pair .leaf .unit)) (.pair .leaf .unit)) (.pair .leaf (.pair .leaf .unit))))), elF x)] ex tk ho) (weak3 r k x)) ?_
      rintro r2 h2 ⟨ex', rfl, ho'⟩
      refine ⟨Hle.of rfl, ?_⟩
      show aopsN _ _ _ _ _ _
      simp only [go_sem, simprocAttr]
      refine aopsN_at rfl rfl ?_
      simp only [go_sem, simprocAttr, hd]
      refine aopsN_at rfl rfl ?_
      simp only [go_sem, simprocAttr, hd, out_nrmM ho', out_leaf ho', aopsN_nil]
      exact ins k hk hp (fun h => absurd h (by omega)) ho'
end Go.Ab
