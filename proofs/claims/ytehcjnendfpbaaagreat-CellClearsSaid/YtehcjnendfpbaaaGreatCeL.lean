/- Sequences: the elements that are there, in order. Conditions: none. -/
import Derived.Test.YtehcjnendfpbaaaGreatSqG
import Derived.Test.YtehcjnendfpbaaaGreatSqB
import Derived.Test.YtehcjnendfpbaaaGreatSqC
import Derived.Test.YtehcjnendfpbaaaGreatCoB
import Derived.Test.YtehcjnendfpbaaaGreatCeB
import Derived.Test.YtehcjnendfpbaaaGreatCeF
set_option linter.unusedSimpArgs false
namespace Go.Ab
open Go.Proofs

abbrev rowsNew (rows : List RowR) (m : MarkR) : D := .mp (rows.map (fun r => r.k.d) ++ [m.d]) (rows.map RowR.d ++ [.lst 69 [] .full]) (rows.length + 1)
theorem rowsM_eq (rows : List RowR) : rowsM rows = .mp (rows.map fun r => r.k.d) (rows.map RowR.d) rows.length := by
  simp [rowsM, mapG, List.map_map, Function.comp_def]
theorem keys_rows (rows : List RowR) : ∀ q ∈ rows.map (fun r : RowR => r.k.d), keyOk CT 36 q := by
  intro q hq
  obtain ⟨r, _, rfl⟩ := List.mem_map.1 hq
  exact keyMk.ok _
theorem mapEnt_rows {x : List (Sh × D)} {rows : List RowR} (hm : x[1]? = some (.obj 1, rowsM rows)) (m : MarkR) {K : St → Prop} {dst : Option Tmp} {ts : List D} {tk : List Bool}
    (h1 : ∀ (j : Nat) r, rows[j]? = some r → r.k = m → K (St.put ⟨ts, ⟨x, tk⟩⟩ dst (.tup [r.d, .int j])))
    (h2 : (∀ q ∈ rows, q.k ≠ m) → K (St.put ⟨ts, ⟨x.set 1 (.obj 1, rowsNew rows m), tk⟩⟩ dst (.tup [.lst 69 [] .full, .int rows.length]))) :
    mapEntK CT K dst ts x tk 208 (.mref 1) m.d := by
  rw [rowsM_eq] at hm
  unfold mapEntK
  rw [mapD_iff]
  refine ⟨36, 25, 1, _, _, _, rfl, rfl, hm, keys_rows rows, by simp only [mapKey]; exact keyMk.ok m, by simp, ?_, ?_⟩
  · intro j y hj hy
    rw [List.getElem?_map, Option.map_eq_some_iff] at hj hy
    obtain ⟨r, hr, e⟩ := hj
    obtain ⟨r', hr', rfl⟩ := hy
    rw [hr] at hr'; cases hr'
    exact h1 j r hr (markD_inj _ _ e)
  · intro hn
    exact h2 fun q hq e => hn (List.mem_map.2 ⟨q, hq, by rw [e]⟩)
theorem entSt_rows {x : List (Sh × D)} {ks vs : List D} {q n : Nat} (hm : x[1]? = some (.obj 1, .mp ks vs q)) (hk : ∀ q ∈ ks, keyOk CT 36 q) (hq : ks.length = q) (hn : n < q) {y : D} {K : St → Prop} {dst : Option Tmp} {ts : List D} {tk : List Bool}
    (h : K (St.put ⟨ts, ⟨x.set 1 (.obj 1, .mp ks (vs.set n (nrm CT 25 y)) q), tk⟩⟩ dst (.lit undef))) : entStK CT K dst ts x tk 208 (.mref 1) (.lit (.int .i64 n)) y := by
  unfold entStK
  rw [mapD_iff]
  exact ⟨36, 25, 1, _, _, _, rfl, rfl, hm, hk, hq, n, rfl, hn, h⟩
theorem rowsM_set {rows : List RowR} {j : Nat} {r r' : RowR} (hj : rows[j]? = some r) (hk : r'.k = r.k) : rowsM (rows.set j r') = .mp (rows.map fun r => r.k.d) ((rows.map RowR.d).set j r'.d) rows.length := by
  rw [rowsM_eq, List.length_set]
  have h1 : (rows.set j r').map (fun r => r.k.d) = rows.map fun r => r.k.d := by
    have := congrArg (List.map MarkR.d) (map_set_key hj hk)
    rw [List.map_map, List.map_map] at this
    exact this
  rw [h1, List.map_set]
theorem rowsM_new (rows : List RowR) (r' : RowR) : rowsM (rows ++ [r']) = .mp (rows.map (fun r => r.k.d) ++ [r'.k.d]) ((rows.map RowR.d ++ [D.lst 69 [] .full]).set rows.length r'.d) (rows.length + 1) := by
  rw [rowsM_eq]
  simp
abbrev conT (l : List ElemR) (k : Nat) : MarkR → List ElemR := fun m => (l.take k).filter fun e => decide (e.ref = m)
theorem conT_next (l : List ElemR) {k : Nat} (hk : k < l.length) : conA (conT l k) (l.getD k default).ref (l.getD k default) = conT l (k + 1) := by
  funext m
  rw [conA, conT, conT, take_snocG l k hk, List.filter_append]
  split
  · rename_i e; subst e; simp
  · rename_i e
    have : ¬ (l.getD k default).ref = m := fun h => e h.symm
    simp only [List.filter_cons, List.filter_nil, decide_eq_true_eq, if_neg this, List.append_nil]

set_option maxRecDepth 8000 in
set_option maxHeartbeats 4000000 in
theorem seq_there (c : CellR) (hw : c.el.length < 100000) (hck : checkQ c = true) : PSpec Tryz.prog CT 220 [cellD c] (· = rows_elA (thereL c.el)) := by
  obtain ⟨f1, f2, f3⟩ := checkQ_fin hck
  have hbl := behind_len f1 f2
  refine HSpec.pure (HSpec.of hT Tryz.func220 rfl (by kernel_rfl) rfl rfl fun tk => ?_)
  simp only [Tryz.f220, go_sem, simprocAttr]
  refine ⟨isMap_ok rfl, ?_⟩
  refine awp_loop (fun n s => ∃ (k : Nat) (x : List (Sh × D)) (rows : List RowR) (g : Nat → D), s = ⟨[g 0, g 1, g 2, .ptr 2 [], g 4, g 5, g 6, g 7, g 8, g 9, rows_elA c.el, .lit (.int .i64 c.el.length), .lit (.int .i64 k), g 13, g 14, g 15, g 16, g 17, g 18, g 19, g 20, g 21, g 22, g 23, g 24, g 25, g 26, g 27, g 28, g 29, g 30], ⟨x, tk⟩⟩ ∧ n = c.el.length - k ∧ k ≤ c.el.length ∧ 3 ≤ x.length ∧ x[1]? = some (.obj 1, rowsM rows) ∧ x[2]? = some (.leaf, .mref 1) ∧ RowsIn x 3 rows (conT c.el k)) c.el.length ⟨0, _, [], reg_intro rfl rfl ⟨by simp, by omega, by simp, rfl, rfl, ⟨by simp, by simp, by simp, by simp [conT], by simp, by simp⟩⟩⟩ ?_
  rintro n st ⟨k, x, rows, g, rfl, hn, hk, h3, hm, hv, hr⟩
  simp only [go_sem, simprocAttr]
  refine condK_split (fun hc => ?_) (fun hc => ?_)
  · have hk' : k < c.el.length := by have := of_decide_eq_true hc; omega
    have hct := conT_next c.el hk'
    obtain ⟨e, he⟩ : ∃ e, e = c.el.getD k default := ⟨_, rfl⟩
    have hel : c.el.getD k default = e := he.symm
    rw [hel] at hct
    simp only [go_sem, simprocAttr, hk', get_elL, hel]
    have hr1 := rowsIn_push hr [((.pair (.pair (.pair .leaf (.pair .leaf .unit)) (.pair .leaf .unit)) (.pair .leaf (.pair (.pair (.pair .leaf (.pair .leaf .unit)) (.pair .leaf .unit)) (.pair .leaf (.pair .leaf .unit))))), elD e)] (by simp)
    have hm1 := get_push hm [(((.pair (.pair (.pair .leaf (.pair .leaf .unit)) (.pair .leaf .unit)) (.pair .leaf (.pair (.pair (.pair .leaf (.pair .leaf .unit)) (.pair .leaf .unit)) (.pair .leaf (.pair .leaf .unit))))) : Sh), elD e)]
    have hv1 := get_push hv [(((.pair (.pair (.pair .leaf (.pair .leaf .unit)) (.pair .leaf .unit)) (.pair .leaf (.pair (.pair (.pair .leaf (.pair .leaf .unit)) (.pair .leaf .unit)) (.pair .leaf (.pair .leaf .unit))))) : Sh), elD e)]
    have hE : (x ++ [(((.pair (.pair (.pair .leaf (.pair .leaf .unit)) (.pair .leaf .unit)) (.pair .leaf (.pair (.pair (.pair .leaf (.pair .leaf .unit)) (.pair .leaf .unit)) (.pair .leaf (.pair .leaf .unit))))) : Sh), elD e)])[x.length]? = some ((.pair (.pair (.pair .leaf (.pair .leaf .unit)) (.pair .leaf .unit)) (.pair .leaf (.pair (.pair (.pair .leaf (.pair .leaf .unit)) (.pair .leaf .unit)) (.pair .leaf (.pair .leaf .unit))))), elD e) := by simp
    have h31 : 3 ≤ (x ++ [(((.pair (.pair (.pair .leaf (.pair .leaf .unit)) (.pair .leaf .unit)) (.pair .leaf (.pair (.pair (.pair .leaf (.pair .leaf .unit)) (.pair .leaf .unit)) (.pair .leaf (.pair .leaf .unit))))) : Sh), elD e)]).length := by simp; omega
    have hcl : ∀ m, (conT c.el k m).length < 1000000 := fun m => by
      have := List.length_filter_le (fun e => decide (e.ref = m)) (c.el.take k)
      rw [List.length_take] at this
      simp only [conT]; omega
    simp only [go_sem, simprocAttr, hv1, hE]
    generalize x ++ [(((.pair (.pair (.pair .leaf (.pair .leaf .unit)) (.pair .leaf .unit)) (.pair .leaf (.pair (.pair (.pair .leaf (.pair .leaf .unit)) (.pair .leaf .unit)) (.pair .leaf (.pair .leaf .unit))))) : Sh), elD e)] = x1 at *
    refine mapEnt_rows hm1 e.ref ?_ ?_
    · rintro j r hj hrk
      have hjl := lt_of_some hj
      simp only [go_sem, simprocAttr]
      refine app_row hr1 h31 hj e _ (hcl _) fun r' x' hk2 hri hfix => ?_
      rw [hrk, hct] at hri
      have hx1 : x'[1]? = some (.obj 1, rowsM rows) := by rw [hfix 1 (by omega)]; exact hm1
      have hx2 : x'[2]? = some (.leaf, .mref 1) := by rw [hfix 2 (by omega)]; exact hv1
      rw [rowsM_eq] at hx1
      simp only [go_sem, simprocAttr]
      refine entSt_rows hx1 (keys_rows rows) (by simp) hjl ?_
      simp only [go_sem, simprocAttr, wrapNat k (by omega)]
      rw [← rowsM_set hj hk2]
      have h1l := lt_of_some hx2
      exact ⟨c.el.length - (k + 1), by omega, k + 1, _, rows.set j r', reg_intro rfl rfl ⟨rfl, by omega, by rw [List.length_set]; omega, List.getElem?_set_self (lt_of_some hx1), by rw [List.getElem?_set_ne (by omega)]; exact hx2, rowsIn_set hri (fun q hq => by have := hri.lo q hq; omega) _ (by simp)⟩⟩
    · intro hq
      simp only [go_sem, simprocAttr]
      have hr2 := rowsIn_set hr1 (i := 1) (fun q hq => by have := hr1.lo q hq; omega) (.obj 1, rowsNew rows e.ref) (by simp)
      refine app_new hr2 (by rw [List.length_set]; exact h31) hq e _ fun r' x' hk2 hri hfix => ?_
      rw [hct] at hri
      have hx1 : x'[1]? = some (.obj 1, rowsNew rows e.ref) := by rw [hfix 1 (by omega), List.getElem?_set_self (lt_of_some hm1)]
      have hx2 : x'[2]? = some (.leaf, .mref 1) := by rw [hfix 2 (by omega), List.getElem?_set_ne (by omega)]; exact hv1
      simp only [go_sem, simprocAttr]
      refine entSt_rows hx1 (fun q hq => ?_) (by simp) (by omega) ?_
      · rcases List.mem_append.1 hq with h | h
        · exact keys_rows rows q h
        · rw [List.mem_singleton] at h; subst h; exact keyMk.ok _
      simp only [go_sem, simprocAttr, wrapNat k (by omega)]
      rw [← hk2, ← rowsM_new rows r']
      have h1l := lt_of_some hx2
      exact ⟨c.el.length - (k + 1), by omega, k + 1, _, rows ++ [r'], reg_intro rfl rfl ⟨rfl, by omega, by rw [List.length_set]; omega, List.getElem?_set_self (lt_of_some hx1), by rw [List.getElem?_set_ne (by omega)]; exact hx2, rowsIn_set hri (fun q hq => by have := hri.lo q hq; omega) _ (by simp)⟩⟩
  · have hi := of_decide_eq_false hc
    obtain rfl : k = c.el.length := by omega
    simp only [go_sem, simprocAttr]
    simp only [List.append_assoc, List.cons_append, List.nil_append, List.length_append, List.length_cons, List.length_nil, Nat.zero_add, Nat.reduceAdd]
    have hwk : WalkIn tk c.el rows x.length (x ++ [((.leaf : Sh), .lst 69 [] .full), (.leaf, .fn (.func 226) (walkQ x.length))]) tk (conT c.el c.el.length) [] := by
      refine ⟨rowsIn_push hr _ (by simp), get_push hm _, get_push hv _, ⟨.full, [], by simp, by simp, by simp [liveH, live]⟩, ?_, h3, fun r hq => rowsIn_lt hr hq, fun m => .inr (by simp [conT])⟩
      rw [List.getElem?_append_right (by omega)]; simp
    refine callK_a (there_walk tk c.el (riseG_keys f1) (by omega) rows x.length (c.el.length + 1) zeroM _ tk (conT c.el c.el.length) [] f3 (by simpa using hbl) hwk) ?_
    rintro _ _ ⟨x', tk', con', rfl, hw', _⟩
    obtain ⟨u, z, hout, rfl, hu⟩ := hw'.out
    simp only [go_sem, simprocAttr, hout]
    refine (finH_drop (bs := []) (ex := x') hw'.ri.pur ?_ ?_ z)
    · simp only [meltD]
      exact low_of_pure _ trivial
    · simp only [meltD]
      exact ⟨trivial, rfl⟩
end Go.Ab
set_option linter.unusedSimpArgs false
namespace Go.Ab
open Go.Proofs

end Go.Ab
set_option linter.unusedSimpArgs false
namespace Go.Ab
open Go.Proofs

def clrN (c : CellR) (t : TxR) (i : Int) : CellR := if checkN c = false then c else { c with base := 0, am := keepW (befM t i) c.am }
theorem pred_clrN (t : TxR) (i : Int) (hd : t.deps.length = 13) (base : List (Sh × D)) {bt bi : Nat} (ht : base[bt]? = some (txSh, txD t)) (hi : base[bi]? = some (.leaf, .lit (.int .i64 i))) :
    PredF 107 [.ptr bt [], .ptr bi []] MarkR.d (befM t i) base := by
  intro x bs hbs
  have ht' : bs[bt]? = some (txSh, txD t) := by rw [hbs _ (List.getElem?_eq_some_iff.1 ht).1]; exact ht
  have hi' : bs[bi]? = some (.leaf, .lit (.int .i64 i)) := by rw [hbs _ (List.getElem?_eq_some_iff.1 hi).1]; exact hi
  have hlt := (List.getElem?_eq_some_iff.1 ht').1
  have hli := (List.getElem?_eq_some_iff.1 hi').1
  have gt : ∀ y, (bs ++ [y])[bt]? = some (txSh, txD t) := fun y => by rw [List.getElem?_append_left hlt]; exact ht'
  have gi : ∀ y, (bs ++ [y])[bi]? = some (.leaf, .lit (.int .i64 i)) := fun y => by rw [List.getElem?_append_left hli]; exact hi'
  refine HSpec.of hT Tryz.func107 rfl (by kernel_rfl) rfl rfl fun tk => ?_
  simp only [Tryz.f107, go_sem, simprocAttr, gt, gi, hd]
  refine callK_pure (args' := [x.d, txD t, .lit (.int .i64 i)]) (ops_before x.p x.s x.i t i hd) (by first | rfl | (simp only [go_sem, hd]; done)) (by first | (simp only [go_sem, hd]; done) | (simp [pureL, pureD]; done)) ?_
  simp only [go_sem, simprocAttr]
  have e := finH_drop (ex := [((.pair (.pair .leaf (.pair .leaf .unit)) (.pair .leaf .unit)), x.d)]) (bs := bs) (tk := tk) (r := .bool (before x.p x.s x.i t i)) (R := fun r b' => r = .bool (befM t i x) ∧ b' = bs) (by simp) (by simp [meltD, lowD]) ⟨by simp [meltD, befM], rfl⟩ []
  simpa using e
set_option maxRecDepth 8000 in
theorem counter_clear (c : CellR) (t : TxR) (i : Int) (hd : t.deps.length = 13) (hw : c.am.length < 100000000) :
    PSpec Tryz.prog CT 97 [cellD c, txD t, .lit (.int .i64 i)] (· = cellD (clrN c t i)) := by
  refine HSpec.pure (HSpec.of hT Tryz.func97 rfl (by kernel_rfl) rfl rfl fun tk => ?_)
  simp only [Tryz.f97, go_sem, simprocAttr, hd]
  refine callK_pure (args' := [cellD c]) (counter_check c (by omega)) (by first | rfl | (simp only [go_sem]; done)) (by first | (simp only [go_sem]; done) | (simp [pureL, pureD]; done)) ?_
  cases hck : checkN c with
  | false =>
    have e : clrN c t i = c := by rw [clrN, if_pos hck]
    simp only [go_sem, simprocAttr, hd]
    rw [e]
    exact finH_all (by intro N s' L hm; simp at hm) (melt_cell _ _) (pure_cell _) ⟨pure_cell _, rfl⟩
  | true =>
    have e : clrN c t i = { c with base := 0, am := keepW (befM t i) c.am } := by rw [clrN, if_neg (by rw [hck]; simp)]
    simp only [go_sem, simprocAttr, hd]
    refine callK_h (counter_left (p := befM t i) c.am (by omega) _ (pred_clrN t i hd _ (bt := 1) (bi := 2) rfl rfl)) ?_
    rintro r b' ⟨rfl, rfl⟩
    simp only [go_sem, simprocAttr, hd]
    rw [e]
    exact finH_all (q := cellD { c with base := 0, am := keepW (befM t i) c.am }) (by intro N s' L hm; simp at hm) (melt_cell _ { c with base := 0, am := keepW (befM t i) c.am }) (pure_cell _) ⟨pure_cell _, rfl⟩
end Go.Ab
set_option linter.unusedSimpArgs false
namespace Go.Ab
open Go.Proofs

abbrev val5 (o : List ByteArray) (u : Tok) : D := .agg [.lit (.int .i64 5), .lit (.int .i64 0), textsD o u, .lst 83 [] .full]
theorem there_len {c : CellR} (hck : checkQ c = true) : (thereL c.el).length ≤ c.el.length := by
  obtain ⟨f1, f2, f3⟩ := checkQ_fin hck
  have := behind_len f1 f2
  have := List.length_filter_le liveE (behindE c.el (c.el.length + 1) zeroM)
  rw [thereL]; omega
set_option maxRecDepth 8000 in
set_option maxHeartbeats 1000000 in
theorem seq_read (c : CellR) (hw : c.el.length < 100000) (hgo : ∀ e ∈ c.el, e.gone.length < 4000000000) : PSpec Tryz.prog CT 206 [cellD c] (· = valD (readQ c)) := by
  refine PSpec.of hT Tryz.func206 rfl (by kernel_rfl) rfl rfl ?_
  simp only [Tryz.f206, go_sem, simprocAttr]
  refine callK_pure (args' := [cellD c]) (seq_check c (by omega) hgo) (by first | rfl | (simp only [go_sem]; done)) (by first | (simp only [go_sem]; done) | (simp [pureL, pureD]; done)) ?_
  simp only [go_sem, simprocAttr]
  refine condK_split (fun h1 => ?_) (fun h1 => ?_)
  · have hc : checkQ c = false := by simpa using h1
    have hr : readQ c = ⟨0, 0, []⟩ := by rw [readQ, if_pos hc]
    simp only [go_sem, simprocAttr, hr, List.map_nil]
    rfl
  have hck : checkQ c = true := by simpa using h1
  have hr : readQ c = ⟨5, 0, (thereL c.el).map (·.text)⟩ := by rw [readQ, if_neg (by rw [hck]; simp)]
  have hlen := there_len hck
  simp only [go_sem, simprocAttr]
  refine callK_pure (args' := [cellD c]) (seq_there c hw hck) (by first | rfl | (simp only [go_sem]; done)) (by first | (simp only [go_sem]; done) | (simp [pureL, pureD]; done)) ?_
  generalize thereL c.el = l at *
  simp only [go_sem, simprocAttr]
  refine awp_loop (fun n s => ∃ (k : Nat) (u : Tok) (tk : List Bool) (ex : List (Sh × D)) (g : Nat → D), s = ⟨[g 0, .ptr 0 [], .ptr 1 [], .ptr 2 [], g 4, g 5, g 6, g 7, g 8, g 9, g 10, g 11, rows_elA l, .lit (.int .i64 l.length), .lit (.int .i64 k), g 15, g 16, g 17, g 18, g 19, g 20, g 21, g 22, g 23, g 24, g 25, g 26], ⟨((.pair .leaf (.pair .leaf (.pair .leaf (.pair .leaf (.pair .leaf (.pair .leaf .unit)))))), cellD c) :: ((.pair .leaf (.pair .leaf (.pair .leaf (.pair .leaf .unit)))), CT.zero 55) :: ((.pair .leaf (.pair .leaf (.pair .leaf (.pair .leaf .unit)))), val5 ((l.take k).map (·.text)) u) :: ex, tk⟩⟩ ∧ n = l.length - k ∧ k ≤ l.length ∧ live u tk) l.length ⟨0, .full, [], [], reg_intro rfl rfl ⟨by simp, by omega, trivial⟩⟩ ?_
  rintro n st ⟨k, u, tk, ex, g, rfl, hn, hk, hu⟩
  simp only [go_sem, simprocAttr]
  refine condK_split (fun hc => ?_) (fun hc => ?_)
  · have hk' : k < l.length := by have := of_decide_eq_true hc; omega
    have hol : ((l.take k).map (·.text)).length ≤ k := by simp; omega
    simp only [go_sem, simprocAttr, hk', get_elL]
    refine appK_live _ _ _ _ _ _ _ _ _ _ hu (by simp) (by simp only [go_sem, simprocAttr]) (by simp only [go_sem, simprocAttr, List.length_map, List.length_take] at hol ⊢; omega) (fun u' tk' hu' => ?_)
    have hsn : (l.take (k + 1)).map (·.text) = (l.take k).map (·.text) ++ [(l.getD k default).text] := by rw [take_snocG l k hk', List.map_append]; rfl
    simp only [go_sem, simprocAttr, txt_snoc, wrapNat k (by omega)]
    exact ⟨l.length - (k + 1), by omega, k + 1, u', tk', _, by rw [hsn]; exact reg_intro rfl rfl ⟨rfl, by omega, hu'⟩⟩
  · have hi := of_decide_eq_false hc
    obtain rfl : k = l.length := by omega
    simp only [go_sem, simprocAttr, hr, List.take_length]
end Go.Ab
set_option linter.unusedSimpArgs false
namespace Go.Ab
open Go.Proofs



end Go.Ab
set_option linter.unusedSimpArgs false
namespace Go.Ab
open Go.Proofs

def wipeC (c : CellR) (t : TxR) (i : Int) : CellR := if c.kind = 1 then clrN c t i else if c.kind = 2 ∨ c.kind = 3 then clearR c t i else if c.kind = 4 then clearS c t i else if c.kind = 5 then clearQ c t i else c
def clearC (c : CellR) (t : TxR) (i : Int) : CellR := if i < 1 ∨ checkC c = false then c else wipeC c t i
def readC (c : CellR) : ValueR := if c.kind = 1 then readN c else if c.kind = 2 ∨ c.kind = 3 then readR c else if c.kind = 4 then readS c else if c.kind = 5 then readQ c else ⟨0, 0, []⟩

set_option maxRecDepth 8000 in
theorem n_clear (c : CellR) (t : TxR) (i : Int) (hd : t.deps.length = 13) (h : c.sm) : PSpec Tryz.prog CT 92 [.agg [cellD c], txD t, .lit (.int .i64 i)] (· = cellD (clrN c t i)) := by
  refine PSpec.of hT Tryz.func92 rfl (by kernel_rfl) rfl rfl ?_
  simp only [Tryz.f92, go_sem, simprocAttr, hd]
  refine callK_pure (args' := [cellD c, txD t, .lit (.int .i64 i)]) (counter_clear c t i hd (by have := h.am; omega)) (by first | rfl | (simp only [go_sem, hd]; done)) (by first | (simp only [go_sem, hd]; done) | (simp [pureL, pureD]; done)) ?_
  simp only [go_sem, simprocAttr, hd]
set_option maxRecDepth 8000 in
theorem w_clear (c : CellR) (t : TxR) (i : Int) (hd : t.deps.length = 13) (h : c.sm) : PSpec Tryz.prog CT 125 [.agg [cellD c], txD t, .lit (.int .i64 i)] (· = cellD (clearR c t i)) := by
  refine PSpec.of hT Tryz.func125 rfl (by kernel_rfl) rfl rfl ?_
  simp only [Tryz.f125, go_sem, simprocAttr, hd]
  refine callK_pure (args' := [cellD c, txD t, .lit (.int .i64 i)]) (register_clear c t i hd (by have := h.wr; omega)) (by first | rfl | (simp only [go_sem, hd]; done)) (by first | (simp only [go_sem, hd]; done) | (simp [pureL, pureD]; done)) ?_
  simp only [go_sem, simprocAttr, hd]
set_option maxRecDepth 8000 in
theorem b_clear (c : CellR) (t : TxR) (i : Int) (hd : t.deps.length = 13) (h : c.sm) : PSpec Tryz.prog CT 168 [.agg [cellD c], txD t, .lit (.int .i64 i)] (· = cellD (clearS c t i)) := by
  refine PSpec.of hT Tryz.func168 rfl (by kernel_rfl) rfl rfl ?_
  simp only [Tryz.f168, go_sem, simprocAttr, hd]
  refine callK_pure (args' := [cellD c, txD t, .lit (.int .i64 i)]) (orset_clear c t i hd (by have := h.me; omega) (fun m hm => by have := h.mm m hm; omega)) (by first | rfl | (simp only [go_sem, hd]; done)) (by first | (simp only [go_sem, hd]; done) | (simp [pureL, pureD]; done)) ?_
  simp only [go_sem, simprocAttr, hd]
set_option maxRecDepth 8000 in
theorem r_clear (c : CellR) (t : TxR) (i : Int) (hd : t.deps.length = 13) (h : c.sm) : PSpec Tryz.prog CT 197 [.agg [cellD c], txD t, .lit (.int .i64 i)] (· = cellD (clearQ c t i)) := by
  refine PSpec.of hT Tryz.func197 rfl (by kernel_rfl) rfl rfl ?_
  simp only [Tryz.f197, go_sem, simprocAttr, hd]
  refine callK_pure (args' := [cellD c, txD t, .lit (.int .i64 i)]) (seq_clear c t i hd (by have := h.el; omega) (fun e he => by have := h.eg e he; omega)) (by first | rfl | (simp only [go_sem, hd]; done)) (by first | (simp only [go_sem, hd]; done) | (simp [pureL, pureD]; done)) ?_
  simp only [go_sem, simprocAttr, hd]
set_option maxRecDepth 8000 in
theorem r_read (c : CellR) (h : c.sm) : PSpec Tryz.prog CT 200 [.agg [cellD c]] (· = valD (readQ c)) := by
  refine PSpec.of hT Tryz.func200 rfl (by kernel_rfl) rfl rfl ?_
  simp only [Tryz.f200, go_sem, simprocAttr]
  refine callK_pure (args' := [cellD c]) (seq_read c (by have := h.el; omega) (fun e he => by have := h.eg e he; omega)) (by first | rfl | (simp only [go_sem]; done)) (by first | (simp only [go_sem]; done) | (simp [pureL, pureD]; done)) ?_
  simp only [go_sem, simprocAttr]
set_option maxRecDepth 8000 in
theorem o_clear (c : CellR) (t : TxR) (i : Int) (hd : t.deps.length = 13) (h : c.sm) : PSpec Tryz.prog CT 87 [.agg [cellD c], txD t, .lit (.int .i64 i)] (· = cellD (c)) := by
  refine PSpec.of hT Tryz.func87 rfl (by kernel_rfl) rfl rfl ?_
  simp only [Tryz.f87, go_sem, simprocAttr, hd]
set_option maxRecDepth 8000 in
theorem cell_clear (c : CellR) (t : TxR) (i : Int) (hd : t.deps.length = 13) (h : c.sm) : PSpec Tryz.prog CT 19 [cellD c, txD t, .lit (.int .i64 i)] (· = cellD (clearC c t i)) := by
  refine PSpec.of hT Tryz.func19 rfl (by kernel_rfl) rfl rfl ?_
  simp only [Tryz.f19, go_sem, simprocAttr, hd]
  (repeat' (first | ((refine guardK_split (fun hg => ?_) (fun hg => ?_)) <;> (try simp only [go_sem, simprocAttr, hg, hd])) | ((refine condK_split (fun hg => ?_) (fun hg => ?_)) <;> (try simp only [go_sem, simprocAttr, hg, hd])) | ((first | refine callK_pure (cell_check c h) ?_ ?_ ?_ | refine callD_pure (cell_check c h) ?_ ?_ ?_); (iterate 2 (focus (first | rfl | (simp only [go_sem, hd]; done)))); try simp only [go_sem, simprocAttr, hd]) | ((refine Or.inl ⟨by kernel_rfl, ?_⟩) <;> (try simp only [go_sem, simprocAttr, hd])))) <;> (first | done | (first | (rw [clearC, if_pos (by simp_all)]; done) | skip))
  have hn : ¬ (i < 1 ∨ checkC c = false) := by simp_all
  have hdo : clearC c t i = wipeC c t i := by rw [clearC, if_neg hn]
  refine callD_pure (args' := [cellD c]) (cell_of c) (by first | rfl | (simp only [go_sem]; done)) (by first | (simp only [go_sem]; done) | (simp [pureL, pureD]; done)) ?_
  rw [hdo]
  rcases kinds c.kind with hk | hk | hk | hk | hk
  · rw [leaf_n hk, wipeC, if_pos hk]
    simp only [go_sem, simprocAttr, hd]
    refine callD_pure (args' := [.agg [cellD c], txD t, .lit (.int .i64 i)]) (n_clear c t i hd h) (by first | rfl | (simp only [go_sem, hd]; done)) (by first | (simp only [go_sem, hd]; done) | (simp [pureL, pureD]; done)) ?_
    simp only [go_sem, simprocAttr, hd]
  · rw [leaf_w hk, wipeC, if_neg (by omega), if_pos hk]
    simp only [go_sem, simprocAttr, hd]
    refine callD_pure (args' := [.agg [cellD c], txD t, .lit (.int .i64 i)]) (w_clear c t i hd h) (by first | rfl | (simp only [go_sem, hd]; done)) (by first | (simp only [go_sem, hd]; done) | (simp [pureL, pureD]; done)) ?_
    simp only [go_sem, simprocAttr, hd]
  · rw [leaf_b hk, wipeC, if_neg (by omega), if_neg (by omega), if_pos hk]
    simp only [go_sem, simprocAttr, hd]
    refine callD_pure (args' := [.agg [cellD c], txD t, .lit (.int .i64 i)]) (b_clear c t i hd h) (by first | rfl | (simp only [go_sem, hd]; done)) (by first | (simp only [go_sem, hd]; done) | (simp [pureL, pureD]; done)) ?_
    simp only [go_sem, simprocAttr, hd]
  · rw [leaf_r hk, wipeC, if_neg (by omega), if_neg (by omega), if_neg (by omega), if_pos hk]
    simp only [go_sem, simprocAttr, hd]
    refine callD_pure (args' := [.agg [cellD c], txD t, .lit (.int .i64 i)]) (r_clear c t i hd h) (by first | rfl | (simp only [go_sem, hd]; done)) (by first | (simp only [go_sem, hd]; done) | (simp [pureL, pureD]; done)) ?_
    simp only [go_sem, simprocAttr, hd]
  · rw [leaf_o hk, wipeC, if_neg (by omega), if_neg (by omega), if_neg (by omega), if_neg (by omega)]
    simp only [go_sem, simprocAttr, hd]
    refine callD_pure (args' := [.agg [cellD c], txD t, .lit (.int .i64 i)]) (o_clear c t i hd h) (by first | rfl | (simp only [go_sem, hd]; done)) (by first | (simp only [go_sem, hd]; done) | (simp [pureL, pureD]; done)) ?_
    simp only [go_sem, simprocAttr, hd]
set_option maxRecDepth 8000 in
theorem cell_read (c : CellR) (h : c.sm) : PSpec Tryz.prog CT 18 [cellD c] (· = valD (readC c)) := by
  refine PSpec.of hT Tryz.func18 rfl (by kernel_rfl) rfl rfl ?_
  simp only [Tryz.f18, go_sem, simprocAttr]
  refine callK_pure (args' := [cellD c]) (cell_of c) (by first | rfl | (simp only [go_sem]; done)) (by first | (simp only [go_sem]; done) | (simp [pureL, pureD]; done)) ?_
  rcases kinds c.kind with hk | hk | hk | hk | hk
  · rw [leaf_n hk, readC, if_pos hk]
    simp only [go_sem, simprocAttr]
    refine callK_pure (args' := [.agg [cellD c]]) (n_read c h) (by first | rfl | (simp only [go_sem]; done)) (by first | (simp only [go_sem]; done) | (simp [pureL, pureD]; done)) ?_
    simp only [go_sem, simprocAttr]
  · rw [leaf_w hk, readC, if_neg (by omega), if_pos hk]
    simp only [go_sem, simprocAttr]
    refine callK_pure (args' := [.agg [cellD c]]) (w_read c h) (by first | rfl | (simp only [go_sem]; done)) (by first | (simp only [go_sem]; done) | (simp [pureL, pureD]; done)) ?_
    simp only [go_sem, simprocAttr]
  · rw [leaf_b hk, readC, if_neg (by omega), if_neg (by omega), if_pos hk]
    simp only [go_sem, simprocAttr]
    refine callK_pure (args' := [.agg [cellD c]]) (b_read c h) (by first | rfl | (simp only [go_sem]; done)) (by first | (simp only [go_sem]; done) | (simp [pureL, pureD]; done)) ?_
    simp only [go_sem, simprocAttr]
  · rw [leaf_r hk, readC, if_neg (by omega), if_neg (by omega), if_neg (by omega), if_pos hk]
    simp only [go_sem, simprocAttr]
    refine callK_pure (args' := [.agg [cellD c]]) (r_read c h) (by first | rfl | (simp only [go_sem]; done)) (by first | (simp only [go_sem]; done) | (simp [pureL, pureD]; done)) ?_
    simp only [go_sem, simprocAttr]
  · rw [leaf_o hk, readC, if_neg (by omega), if_neg (by omega), if_neg (by omega), if_neg (by omega)]
    simp only [go_sem, simprocAttr]
    refine callK_pure (args' := [.agg [cellD c]]) (o_read c) (by first | rfl | (simp only [go_sem]; done)) (by first | (simp only [go_sem]; done) | (simp [pureL, pureD]; done)) ?_
    simp only [go_sem, simprocAttr]
    rfl
end Go.Ab
