/- Sequences: what stands behind what, gathered in a map, and gone through. Conditions: none. -/
import Derived.Test.YtehcjnendfpbaaaGreatSqB
import Derived.Test.YtehcjnendfpbaaaGreatSqC
import Derived.Test.YtehcjnendfpbaaaGreatSqN
set_option linter.unusedSimpArgs false
namespace Go.Ab
open Go.Proofs

theorem eq_of_key {α β : Type} {f : α → β} : ∀ {l : List α}, (l.map f).Nodup → ∀ {a b : α}, a ∈ l → b ∈ l → f a = f b → a = b
  | [], _, _, _, h, _, _ => absurd h (by simp)
  | x :: r, hn, a, b, ha, hb, e => by
    rw [List.map_cons, List.nodup_cons] at hn
    rcases List.mem_cons.1 ha with h1 | h1 <;> rcases List.mem_cons.1 hb with h2 | h2
    · rw [h1, h2]
    · exact absurd (List.mem_map.2 ⟨b, h2, by rw [← e, h1]⟩) hn.1
    · exact absurd (List.mem_map.2 ⟨a, h1, by rw [e, h2]⟩) hn.1
    · exact eq_of_key hn.2 h1 h2 e
/-- A row: what stands behind one mark, where its cells are. -/
structure RowR where
  k : MarkR
  b : Nat
  N : Nat
  n : Nat
abbrev RowR.d (r : RowR) : D := .sl 69 r.b 0 r.n r.N
structure RowsIn (x : List (Sh × D)) (lo : Nat) (rows : List RowR) (con : MarkR → List ElemR) : Prop where
  nd : (rows.map RowR.k).Nodup
  nb : ∀ q ∈ rows, ∀ q' ∈ rows, q.b = q'.b → q.k = q'.k
  lo : ∀ r ∈ rows, lo ≤ r.b
  cov : ∀ m, con m ≠ [] → ∃ r ∈ rows, r.k = m
  at_ : ∀ r ∈ rows, r.n = (con r.k).length ∧ r.n ≤ r.N ∧ ∃ L, x[r.b]? = some (.arr r.N ((.pair (.pair (.pair .leaf (.pair .leaf .unit)) (.pair .leaf .unit)) (.pair .leaf (.pair (.pair (.pair .leaf (.pair .leaf .unit)) (.pair .leaf .unit)) (.pair .leaf (.pair .leaf .unit)))))), .agg L) ∧ L.take r.n = (con r.k).map elD
  pur : ∀ N s L, (Sh.arr N s, D.agg L) ∈ x → pureL L
abbrev rowsM (rows : List RowR) : D := mapG MarkR.d RowR.d (rows.map fun r => (r.k, r)) rows.length
theorem lt_of_some {α : Type} {l : List α} {i : Nat} {x : α} (h : l[i]? = some x) : i < l.length := (List.getElem?_eq_some_iff.1 h).1
theorem get_push {α : Type} {l : List α} {i : Nat} {x : α} (h : l[i]? = some x) (y : List α) : (l ++ y)[i]? = some x := by rw [List.getElem?_append_left (lt_of_some h)]; exact h
theorem rowsIn_lt {x : List (Sh × D)} {lo : Nat} {rows : List RowR} {con : MarkR → List ElemR} (h : RowsIn x lo rows con) {r : RowR} (hr : r ∈ rows) : r.b < x.length := by
  obtain ⟨_, _, L, h1, _⟩ := h.at_ r hr
  exact lt_of_some h1
theorem rowsIn_push {x : List (Sh × D)} {lo : Nat} {rows : List RowR} {con : MarkR → List ElemR} (h : RowsIn x lo rows con) (y : List (Sh × D)) (hy : ∀ N s L, (Sh.arr N s, D.agg L) ∈ y → pureL L) : RowsIn (x ++ y) lo rows con where
  nd := h.nd
  nb := h.nb
  lo := h.lo
  cov := h.cov
  at_ := fun r hr => by
    obtain ⟨h1, h2, L, h3, h4⟩ := h.at_ r hr
    exact ⟨h1, h2, L, get_push h3 y, h4⟩
  pur := fun N s L hm => by
    rcases List.mem_append.1 hm with hm | hm
    · exact h.pur _ _ _ hm
    · exact hy _ _ _ hm
theorem rowsIn_set {x : List (Sh × D)} {lo : Nat} {rows : List RowR} {con : MarkR → List ElemR} (h : RowsIn x lo rows con) {i : Nat} (hi : ∀ r ∈ rows, r.b ≠ i) (y : Sh × D) (hy : ∀ N s L, (Sh.arr N s, D.agg L) = y → pureL L) : RowsIn (x.set i y) lo rows con where
  nd := h.nd
  nb := h.nb
  lo := h.lo
  cov := h.cov
  at_ := fun r hr => by
    obtain ⟨h1, h2, L, h3, h4⟩ := h.at_ r hr
    exact ⟨h1, h2, L, by rw [List.getElem?_set_ne (fun e => hi r hr e.symm)]; exact h3, h4⟩
  pur := fun N s L hm => by
    rcases List.mem_or_eq_of_mem_set hm with hm | hm
    · exact h.pur _ _ _ hm
    · exact hy _ _ _ hm
/-- A row's cells come to hold something else, of one length. -/
theorem rowsIn_row {x : List (Sh × D)} {lo : Nat} {rows : List RowR} {con : MarkR → List ElemR} (h : RowsIn x lo rows con) {r : RowR} (hr : r ∈ rows) (l : List ElemR) (hl : l.length = (con r.k).length) {L : List D} (hb : x[r.b]? = some (.arr r.N ((.pair (.pair (.pair .leaf (.pair .leaf .unit)) (.pair .leaf .unit)) (.pair .leaf (.pair (.pair (.pair .leaf (.pair .leaf .unit)) (.pair .leaf .unit)) (.pair .leaf (.pair .leaf .unit)))))), .agg L)) :
    RowsIn (x.set r.b (.arr r.N ((.pair (.pair (.pair .leaf (.pair .leaf .unit)) (.pair .leaf .unit)) (.pair .leaf (.pair (.pair (.pair .leaf (.pair .leaf .unit)) (.pair .leaf .unit)) (.pair .leaf (.pair .leaf .unit)))))), .agg (overL L 0 (l.map elD)))) lo rows (fun k => if k = r.k then l else con k) where
  nd := h.nd
  nb := h.nb
  lo := h.lo
  cov := fun m hm => by
    split at hm
    · rename_i e; exact ⟨r, hr, e.symm⟩
    · exact h.cov m hm
  at_ := fun q hq => by
    obtain ⟨h1, h2, L', h3, h4⟩ := h.at_ q hq
    by_cases e : q.k = r.k
    · have e2 : q = r := eq_of_key h.nd hq hr e
      subst e2
      simp only [if_true]
      refine ⟨by rw [h1, hl], h2, _, List.getElem?_set_self (lt_of_some hb), ?_⟩
      have hl2 : (l.map elD).length = q.n := by rw [List.length_map, hl, h1]
      rw [overL, List.take_zero, List.nil_append, List.take_append_of_le_length (by omega), ← hl2, List.take_length]
    · simp only [if_neg e]
      have hne : q.b ≠ r.b := fun e2 => e (h.nb q hq r hr e2)
      exact ⟨h1, h2, L', by rw [List.getElem?_set_ne (fun e => hne e.symm)]; exact h3, h4⟩
  pur := fun N s L' hm => by
    rcases List.mem_or_eq_of_mem_set hm with hm | hm
    · exact h.pur _ _ _ hm
    · cases hm
      exact pureL_over (h.pur _ _ _ (List.mem_of_getElem? hb)) (pure_el _)
theorem look_rows {x : List (Sh × D)} {lo : Nat} {rows : List RowR} {con : MarkR → List ElemR} (h : RowsIn x lo rows con) (m : MarkR) : (∃ r ∈ rows, r.k = m ∧ getA (rows.map fun r => (r.k, r)) m = some r) ∨ (con m = [] ∧ getA (rows.map fun r => (r.k, r)) m = none) := by
  cases hg : getA (rows.map fun r => (r.k, r)) m with
  | some r =>
    have := getA_mem hg
    obtain ⟨r', hr', e⟩ := List.mem_map.1 this
    simp only [Prod.mk.injEq] at e
    obtain ⟨e1, rfl⟩ := e
    exact .inl ⟨r', hr', e1, rfl⟩
  | none =>
    refine .inr ⟨Classical.byContradiction fun hne => ?_, rfl⟩
    obtain ⟨r, hr, e⟩ := h.cov m hne
    exact getA_none.1 hg (r.k, r) (List.mem_map.2 ⟨r, hr, rfl⟩) e
end Go.Ab
set_option linter.unusedSimpArgs false
namespace Go.Ab
open Go.Proofs

theorem packD_no (d : D) (b : Bool) : packD false d b = d := rfl
abbrev walkQ (B : Nat) : List D := [.ptr 2 [], .ptr B [], .ptr (B + 1) []]
structure WalkIn (T : List Bool) (l : List ElemR) (rows : List RowR) (B : Nat) (x : List (Sh × D)) (tk : List Bool) (con : MarkR → List ElemR) (o : List ElemR) : Prop where
  ri : RowsIn x 3 rows con
  mp : x[1]? = some (.obj 1, rowsM rows)
  mv : x[2]? = some (.leaf, .mref 1)
  out : ∃ u z, x[B]? = some (.leaf, .lst 69 (o.map elD) u) ∧ tk = T ++ z ∧ liveH u T z
  fn : x[B + 1]? = some (.leaf, .fn (.func 226) (walkQ B))
  lo : 3 ≤ B
  bel : ∀ r ∈ rows, r.b < B
  con : ∀ m, con m = kidsL l m ∨ con m = l.filter fun e => decide (e.ref = m)
theorem walkIn_push {T : List Bool} {l : List ElemR} {rows : List RowR} {B : Nat} {x : List (Sh × D)} {tk : List Bool} {con : MarkR → List ElemR} {o : List ElemR} (h : WalkIn T l rows B x tk con o) (y : List (Sh × D)) (hy : ∀ N s L, (Sh.arr N s, D.agg L) ∈ y → pureL L) : WalkIn T l rows B (x ++ y) tk con o where
  ri := rowsIn_push h.ri y hy
  mp := get_push h.mp y
  mv := get_push h.mv y
  out := by obtain ⟨u, z, h1, h2⟩ := h.out; exact ⟨u, z, get_push h1 y, h2⟩
  fn := get_push h.fn y
  lo := h.lo
  bel := h.bel
  con := h.con
theorem walkIn_out {T : List Bool} {l : List ElemR} {rows : List RowR} {B : Nat} {x : List (Sh × D)} {tk z : List Bool} {con : MarkR → List ElemR} {o o' : List ElemR} (h : WalkIn T l rows B x tk con o) (u : Tok) (hu : liveH u T z) : WalkIn T l rows B (x.set B (.leaf, .lst 69 (o'.map elD) u)) (T ++ z) con o' where
  ri := rowsIn_set h.ri (fun r hr => by have := h.bel r hr; omega) _ (by intro N s L e; simp at e)
  mp := by rw [List.getElem?_set_ne (by have := h.lo; omega)]; exact h.mp
  mv := by rw [List.getElem?_set_ne (by have := h.lo; omega)]; exact h.mv
  out := ⟨u, z, by obtain ⟨u', _, h1, _⟩ := h.out; exact List.getElem?_set_self (lt_of_some h1), rfl, hu⟩
  fn := by rw [List.getElem?_set_ne (by omega)]; exact h.fn
  lo := h.lo
  bel := h.bel
  con := h.con
theorem walkIn_row {T : List Bool} {l : List ElemR} {rows : List RowR} {B : Nat} {x : List (Sh × D)} {tk : List Bool} {con : MarkR → List ElemR} {o : List ElemR} (h : WalkIn T l rows B x tk con o) {r : RowR} (hr : r ∈ rows) (hl : (kidsL l r.k).length = (con r.k).length) {L : List D} (hb : x[r.b]? = some (.arr r.N ((.pair (.pair (.pair .leaf (.pair .leaf .unit)) (.pair .leaf .unit)) (.pair .leaf (.pair (.pair (.pair .leaf (.pair .leaf .unit)) (.pair .leaf .unit)) (.pair .leaf (.pair .leaf .unit)))))), .agg L)) :
    WalkIn T l rows B (x.set r.b (.arr r.N ((.pair (.pair (.pair .leaf (.pair .leaf .unit)) (.pair .leaf .unit)) (.pair .leaf (.pair (.pair (.pair .leaf (.pair .leaf .unit)) (.pair .leaf .unit)) (.pair .leaf (.pair .leaf .unit)))))), .agg (overL L 0 ((kidsL l r.k).map elD)))) tk (fun k => if k = r.k then kidsL l r.k else con k) o := by
  have h3 := h.ri.lo r hr
  have h4 := h.bel r hr
  refine ⟨rowsIn_row h.ri hr _ hl hb, ?_, ?_, ?_, ?_, h.lo, h.bel, fun m => ?_⟩
  · rw [List.getElem?_set_ne (by omega)]; exact h.mp
  · rw [List.getElem?_set_ne (by omega)]; exact h.mv
  · obtain ⟨u, z, h1, h2⟩ := h.out
    exact ⟨u, z, by rw [List.getElem?_set_ne (by omega)]; exact h1, h2⟩
  · rw [List.getElem?_set_ne (by omega)]; exact h.fn
  · show (if m = r.k then kidsL l r.k else con m) = kidsL l m ∨ (if m = r.k then kidsL l r.k else con m) = _
    split
    · rename_i e; subst e; exact .inl rfl
    · exact h.con m
def beh (l : List ElemR) (n : Nat) (o : List ElemR) : List ElemR := o.flatMap fun e => e :: behindE l n e.m
theorem beh_snoc (l : List ElemR) (n : Nat) (o : List ElemR) {k : Nat} (hk : k < o.length) : beh l n (o.take (k + 1)) = beh l n (o.take k) ++ ((o.getD k default) :: behindE l n (o.getD k default).m) := by
  rw [take_snocG o k hk, beh, beh, List.flatMap_append]; simp
theorem beh_le (l : List ElemR) (n : Nat) (o : List ElemR) (k : Nat) : (beh l n (o.take k)).length ≤ (beh l n o).length := by
  conv => rhs; rw [← List.take_append_drop k o]
  rw [beh, beh, List.flatMap_append, List.length_append]; omega

set_option maxRecDepth 8000 in
set_option maxHeartbeats 4000000 in
theorem there_walk (T : List Bool) (l : List ElemR) (hn : (l.map ElemR.m).Nodup) (hl : l.length < 1000000) (rows : List RowR) (B : Nat) : ∀ (n : Nat) (m : MarkR) (x : List (Sh × D)) (tk : List Bool) (con : MarkR → List ElemR) (o : List ElemR), FinB l n m → o.length + (behindE l n m).length ≤ l.length → WalkIn T l rows B x tk con o →
    ASpec Tryz.prog CT 226 ([m.d] ++ walkQ B) ⟨x, tk⟩ fun r h' => ∃ x' tk' con', h' = ⟨x', tk'⟩ ∧ WalkIn T l rows B x' tk' con' (o ++ (behindE l n m).filter liveE) ∧ ∀ k, con k = kidsL l k → con' k = kidsL l k := by
  intro n
  induction n with
  | zero => exact fun m x tk con o hf => hf.elim
  | succ n0 ih =>
    intro m x tk con o hf ho hw
    obtain ⟨k1, k2⟩ := kids_spec hn m
    refine ASpec.of hT Tryz.func226 rfl (by kernel_rfl) rfl rfl ?_
    simp only [Tryz.f226, go_sem, simprocAttr]
    have hw1 := walkIn_push hw [((.pair (.pair .leaf (.pair .leaf .unit)) (.pair .leaf .unit)), m.d)] (by simp)
    have gm := fun y => get_push hw.mp y
    have gv := fun y => get_push hw.mv y
    simp only [go_sem, simprocAttr, gm, gv]
    rw [lookup_g keyMk (t := 208) (e := 25) rfl (gm _) false m rfl]
    have hcm := hw.con m
    have hmem : ∀ z, z ∈ con m ↔ z ∈ l ∧ z.ref = m := fun z => by
      rcases hcm with e | e
      · rw [e, k2]
      · rw [e]; simp
    rcases look_rows hw.ri m with ⟨r, hr, hrk, hg⟩ | ⟨hc, hg⟩
    · rw [hg]
      obtain ⟨hr1, hr2, L, hr3, hr4⟩ := hw1.ri.at_ r hr
      rw [hrk] at hr1 hr4
      simp only [packD_no, go_sem, simprocAttr]
      rw [hr1] at hr2 hr4 ⊢
      have hperm : (con m).length = (kidsL l m).length := by
        refine Nat.le_antisymm ?_ ?_
        · refine sub_len (?_ : (con m).Nodup) fun z hz => (k2 z).2 ((hmem z).1 hz)
          rcases hcm with e | e
          · rw [e]; exact firstL_nodup k1
          · rw [e]; exact ((List.pairwise_map.1 hn).imp fun h e => h (by rw [e])).filter _
        · exact sub_len (firstL_nodup k1) fun z hz => (hmem z).2 ((k2 z).1 hz)
      have hcl : (kidsL l m).length ≤ l.length := sub_len (firstL_nodup k1) fun z hz => ((k2 z).1 hz).1
      refine callK_a (sort_elem (con m) (by omega) (L := L) (N := r.N) (b := r.b) tk hr3 hr2 hr4) ?_
      rintro _ _ ⟨rfl, m', hp, hsrt, rfl⟩
      obtain rfl := sorted_kids hn hcm hp hsrt
      subst hrk
      have hw2 := walkIn_row hw1 hr hperm.symm hr3
      have hmon : ∀ k, con k = kidsL l k → (if k = r.k then kidsL l r.k else con k) = kidsL l k := fun k hk => by
        split
        · rename_i e; subst e; rfl
        · exact hk
      simp only [sh_el] at *
      obtain ⟨con1, hcon1⟩ : ∃ c : MarkR → List ElemR, c = fun k => if k = r.k then kidsL l r.k else con k := ⟨_, rfl⟩
      rw [← hcon1] at hw2
      have hmon1 : ∀ k, con k = kidsL l k → con1 k = kidsL l k := fun k hk => by rw [hcon1]; exact hmon k hk
      have hself1 : con1 r.k = kidsL l r.k := by rw [hcon1]; exact if_pos rfl
      clear hmon
      rw [hperm] at hr2
      simp only [go_sem, simprocAttr, hperm]
      refine awp_loop (fun n s => ∃ (k : Nat) (y : List (Sh × D)) (q : List Bool) (c : MarkR → List ElemR) (g : Nat → D), s = ⟨[g 0, g 1, .ptr B [], .ptr (B + 1) [], g 4, g 5, g 6, g 7, g 8, g 9, g 10, g 11, g 12, .sl 69 r.b 0 (kidsL l r.k).length r.N, .lit (.int .i64 (kidsL l r.k).length), .lit (.int .i64 k), g 16, g 17, g 18, g 19, g 20, g 21, g 22, g 23, g 24, g 25, g 26, g 27, g 28, g 29, g 30, g 31], ⟨y, q⟩⟩ ∧ n = (kidsL l r.k).length - k ∧ k ≤ (kidsL l r.k).length ∧ WalkIn T l rows B y q c (o ++ (beh l n0 ((kidsL l r.k).take k)).filter liveE) ∧ c r.k = kidsL l r.k ∧ ∀ k, con k = kidsL l k → c k = kidsL l k) (kidsL l r.k).length ⟨0, _, _, con1, reg_intro rfl rfl ⟨by simp, by omega, by simpa [beh] using hw2, hself1, hmon1⟩⟩ ?_
      clear hw2 hself1 hmon1 hcon1 con1
      rintro n st ⟨k, y, q, c, g, rfl, hm, hk, hw3, hself, hmon⟩
      simp only [go_sem, simprocAttr]
      refine condK_split (fun hc => ?_) (fun hc => ?_)
      · have hk' : k < (kidsL l r.k).length := by have := of_decide_eq_true hc; omega
        have hsnoc := beh_snoc l n0 (kidsL l r.k) hk'
        obtain ⟨q1, q2, L', q3, q4⟩ := hw3.ri.at_ r hr
        rw [hself] at q1 q4
        rw [q1] at q4
        have hLk : L'[k]? = some (elD ((kidsL l r.k).getD k default)) := by
          have h5 : (L'.take (kidsL l r.k).length)[k]? = some (elD ((kidsL l r.k).getD k default)) := by
            rw [q4, List.getElem?_map, List.getElem?_eq_getElem hk', List.getD_eq_getElem?_getD, List.getElem?_eq_getElem hk']; rfl
          rwa [List.getElem?_take_of_lt hk'] at h5
        have hkN : k < r.N := by omega
        have hem := getD_mem hk'
        obtain ⟨e, he⟩ : ∃ e, e = (kidsL l r.k).getD k default := ⟨_, rfl⟩
        rw [← he] at hLk hem hsnoc
        obtain ⟨hel, her⟩ := (k2 e).1 hem
        have hw4 := walkIn_push hw3 [((.pair (.pair (.pair .leaf (.pair .leaf .unit)) (.pair .leaf .unit)) (.pair .leaf (.pair (.pair (.pair .leaf (.pair .leaf .unit)) (.pair .leaf .unit)) (.pair .leaf (.pair .leaf .unit))))), elD e)] (by simp)
        obtain ⟨u, z, hout, hq, hu⟩ := hw3.out
        have gB := get_push hout
        have gF := get_push hw3.fn
        have gE : (y ++ [(((.pair (.pair (.pair .leaf (.pair .leaf .unit)) (.pair .leaf .unit)) (.pair .leaf (.pair (.pair (.pair .leaf (.pair .leaf .unit)) (.pair .leaf .unit)) (.pair .leaf (.pair .leaf .unit))))) : Sh), elD e)])[y.length]? = some ((.pair (.pair (.pair .leaf (.pair .leaf .unit)) (.pair .leaf .unit)) (.pair .leaf (.pair (.pair (.pair .leaf (.pair .leaf .unit)) (.pair .leaf .unit)) (.pair .leaf (.pair .leaf .unit))))), elD e) := by simp
        have hBy : B ≠ y.length := by have := lt_of_some hout; omega
        have gE2 : ∀ z, ((y ++ [(((.pair (.pair (.pair .leaf (.pair .leaf .unit)) (.pair .leaf .unit)) (.pair .leaf (.pair (.pair (.pair .leaf (.pair .leaf .unit)) (.pair .leaf .unit)) (.pair .leaf (.pair .leaf .unit))))) : Sh), elD e)]).set B z)[y.length]? = some ((.pair (.pair (.pair .leaf (.pair .leaf .unit)) (.pair .leaf .unit)) (.pair .leaf (.pair (.pair (.pair .leaf (.pair .leaf .unit)) (.pair .leaf .unit)) (.pair .leaf (.pair .leaf .unit))))), elD e) := fun z => by rw [List.getElem?_set_ne hBy]; exact gE
        have gF2 : ∀ z, ((y ++ [(((.pair (.pair (.pair .leaf (.pair .leaf .unit)) (.pair .leaf .unit)) (.pair .leaf (.pair (.pair (.pair .leaf (.pair .leaf .unit)) (.pair .leaf .unit)) (.pair .leaf (.pair .leaf .unit))))) : Sh), elD e)]).set B z)[B + 1]? = some (.leaf, .fn (.func 226) (walkQ B)) := fun z => by rw [List.getElem?_set_ne (by omega)]; exact gF _
        have hlen := beh_le l n0 (kidsL l r.k) (k + 1)
        rw [hsnoc] at hlen
        rw [show behindE l (n0 + 1) r.k = beh l n0 (kidsL l r.k) from rfl] at ho
        simp only [List.length_append, List.length_cons] at hlen
        have hfl := List.length_filter_le liveE (beh l n0 ((kidsL l r.k).take k))
        have hfin := hf e hel her
        simp only [go_sem, simprocAttr, hk', hkN, hLk, q3, indexAddr_sl_t, Nat.zero_add]
        refine condK_split (fun h1 => ?_) (fun h1 => ?_)
        · have hlive : liveE e = true := by simpa [liveE] using h1
          simp only [go_sem, simprocAttr, gB, gE]
          rw [hq]
          refine appK_liveH 69 _ _ u _ _ T z hu (by simp) (by simp only [go_sem, simprocAttr]) (by simp only [go_sem, simprocAttr, List.length_map, List.length_append]; omega) fun u' z' hu' => ?_
          have hsn : (o ++ (beh l n0 ((kidsL l r.k).take k)).filter liveE).map elD ++ [elD e] = (o ++ (beh l n0 ((kidsL l r.k).take k)).filter liveE ++ [e]).map elD := by simp
          rw [show [D.agg [.agg [dotD e.m.p e.m.s, .lit (.int .i64 e.m.i)], .lit (.int .i64 e.time), .agg [dotD e.ref.p e.ref.s, .lit (.int .i64 e.ref.i)], .lit (.string e.text), .lst 36 (e.gone.map MarkR.d) .no]] = [elD e] from rfl, hsn]
          have hw5 := walkIn_out (o' := o ++ (beh l n0 ((kidsL l r.k).take k)).filter liveE ++ [e]) hw4 u' hu'
          simp only [go_sem, simprocAttr, gB, gE, gE2, gF2]
          refine callK_a (ih e.m _ _ c _ hfin ?_ hw5) ?_
          · simp only [List.length_append, List.length_cons, List.length_nil]; omega
          rintro _ _ ⟨x', tk', con', rfl, hw6, hmon6⟩
          simp only [go_sem, simprocAttr, wrapNat k (by omega)]
          refine ⟨(kidsL l r.k).length - (k + 1), by omega, k + 1, x', tk', con', reg_intro rfl rfl ⟨rfl, by omega, ?_, hmon6 _ hself, fun j hj => hmon6 _ (hmon j hj)⟩⟩
          rw [hsnoc, List.filter_append, List.filter_cons, if_pos hlive]
          simpa using hw6
        · have hlive : ¬ liveE e = true := by simpa [liveE] using h1
          simp only [go_sem, simprocAttr, gF, gE]
          refine callK_a (ih e.m _ _ c _ hfin ?_ hw4) ?_
          · simp only [List.length_append]; omega
          rintro _ _ ⟨x', tk', con', rfl, hw6, hmon6⟩
          simp only [go_sem, simprocAttr, wrapNat k (by omega)]
          refine ⟨(kidsL l r.k).length - (k + 1), by omega, k + 1, x', tk', con', reg_intro rfl rfl ⟨rfl, by omega, ?_, hmon6 _ hself, fun j hj => hmon6 _ (hmon j hj)⟩⟩
          rw [hsnoc, List.filter_append, List.filter_cons, if_neg hlive]
          simpa using hw6
      · have hi := of_decide_eq_false hc
        obtain rfl : k = (kidsL l r.k).length := by omega
        rw [List.take_length] at hw3
        simp only [go_sem, simprocAttr]
        exact ⟨_, _, c, rfl, hw3, hmon⟩
    · have hk0 : kidsL l m = [] := by
        rw [List.eq_nil_iff_forall_not_mem]
        intro z hz
        have := (hmem z).2 ((k2 z).1 hz)
        rw [hc] at this; simp at this
      have hb0 : behindE l (n0 + 1) m = [] := by rw [behindE, hk0]; rfl
      rw [hg]
      simp only [packD_no, go_sem, simprocAttr]
      refine callK_a (sortF_nil _ _ _ _) ?_
      rintro r h' ⟨rfl, rfl⟩
      simp only [go_sem, simprocAttr]
      refine awp_loop (fun n s => ∃ (z : Nat) (g : Nat → D), s = ⟨[g 0, g 1, g 2, g 3, g 4, g 5, g 6, g 7, g 8, g 9, g 10, g 11, g 12, .lst 69 [] .full, .lit (.int .i64 0), .lit (.int .i64 0), g 16, g 17, g 18, g 19, g 20, g 21, g 22, g 23, g 24, g 25, g 26, g 27, g 28, g 29, g 30, g 31], ⟨x ++ [((.pair (.pair .leaf (.pair .leaf .unit)) (.pair .leaf .unit)), m.d)], tk⟩⟩ ∧ n = 0 - z) 0 ⟨0, reg_intro rfl rfl (by simp)⟩ ?_
      rintro n st ⟨z, g, rfl, hn⟩
      simp only [go_sem, simprocAttr]
      exact ⟨_, tk, con, rfl, by rw [hb0]; simpa using hw1, fun _ h => h⟩
end Go.Ab
set_option linter.unusedSimpArgs false
namespace Go.Ab
open Go.Proofs

theorem map_set_key {rows : List RowR} {j : Nat} {r r' : RowR} (hj : rows[j]? = some r) (hk : r'.k = r.k) : (rows.set j r').map RowR.k = rows.map RowR.k := by
  apply List.ext_getElem?
  intro i
  rw [List.getElem?_map, List.getElem?_map, List.getElem?_set]
  split
  · rename_i e; subst e
    rw [if_pos (lt_of_some hj), hj]; simp [hk]
  · rfl
theorem mem_set_row {rows : List RowR} {j : Nat} {r r' q : RowR} (hn : (rows.map RowR.k).Nodup) (hj : rows[j]? = some r) (hq : q ∈ rows.set j r') : q = r' ∨ (q ∈ rows ∧ q.k ≠ r.k) := by
  obtain ⟨i, hi, rfl⟩ := List.getElem_of_mem hq
  rw [List.getElem_set]
  split
  · exact .inl rfl
  · rename_i e
    have hi' : i < rows.length := by simpa using hi
    refine .inr ⟨List.getElem_mem hi', fun ek => e ?_⟩
    have hjl := lt_of_some hj
    have hjr : rows[j] = r := by have := hj; rw [List.getElem?_eq_getElem hjl] at this; simpa using this
    rcases Nat.lt_trichotomy i j with h | h | h
    · have := List.pairwise_iff_getElem.1 hn i j (by simpa using hi') (by simpa using hjl) h
      rw [List.getElem_map, List.getElem_map, hjr, ek] at this
      exact absurd rfl this
    · exact h.symm
    · have := List.pairwise_iff_getElem.1 hn j i (by simpa using hjl) (by simpa using hi') h
      rw [List.getElem_map, List.getElem_map, hjr, ek] at this
      exact absurd rfl this
theorem set_row_mem {rows : List RowR} {j : Nat} {r r' : RowR} (hj : rows[j]? = some r) : r' ∈ rows.set j r' := List.mem_of_getElem? (i := j) (List.getElem?_set_self (lt_of_some hj))
theorem set_row_keep {rows : List RowR} {j : Nat} {r r' q : RowR} (hj : rows[j]? = some r) (hq : q ∈ rows) (hk : q.k ≠ r.k) : q ∈ rows.set j r' := by
  obtain ⟨i, hi⟩ := List.getElem?_of_mem hq
  refine List.mem_of_getElem? (i := i) ?_
  rw [List.getElem?_set_ne]; · exact hi
  · rintro rfl
    rw [hj] at hi; cases hi; exact hk rfl
def conA (con : MarkR → List ElemR) (m : MarkR) (e : ElemR) : MarkR → List ElemR := fun k => if k = m then con k ++ [e] else con k
/-- One row becomes longer. -/
theorem rowsIn_upd {x x' : List (Sh × D)} {rows : List RowR} {con : MarkR → List ElemR} (h : RowsIn x 3 rows con) {j : Nat} {r r' : RowR} (hj : rows[j]? = some r) (hk : r'.k = r.k) (e : ElemR)
    (h1 : ∀ q ∈ rows, q.k ≠ r.k → x'[q.b]? = x[q.b]?) (h2 : 3 ≤ r'.b) (h3 : ∀ q ∈ rows, q.k ≠ r.k → q.b ≠ r'.b) (h4 : r'.n = (con r.k).length + 1) (h5 : r'.n ≤ r'.N) {L : List D} (h6 : x'[r'.b]? = some (.arr r'.N ((.pair (.pair (.pair .leaf (.pair .leaf .unit)) (.pair .leaf .unit)) (.pair .leaf (.pair (.pair (.pair .leaf (.pair .leaf .unit)) (.pair .leaf .unit)) (.pair .leaf (.pair .leaf .unit)))))), .agg L)) (h7 : L.take r'.n = (con r.k ++ [e]).map elD)
    (h8 : ∀ N s L, (Sh.arr N s, D.agg L) ∈ x' → pureL L) : RowsIn x' 3 (rows.set j r') (conA con r.k e) where
  nd := by rw [map_set_key hj hk]; exact h.nd
  nb := fun q hq q' hq' hb => by
    rcases mem_set_row h.nd hj hq with e1 | ⟨h9, hqk⟩ <;> rcases mem_set_row h.nd hj hq' with e2 | ⟨h10, hqk'⟩
    · rw [e1, e2]
    · exact absurd (by rw [← hb, e1]) (h3 q' h10 hqk')
    · exact absurd (by rw [hb, e2]) (h3 q h9 hqk)
    · exact h.nb q h9 q' h10 hb
  lo := fun q hq => by
    rcases mem_set_row h.nd hj hq with rfl | ⟨hq, _⟩
    · exact h2
    · exact h.lo q hq
  cov := fun m hm => by
    by_cases e : m = r.k
    · exact ⟨r', set_row_mem hj, by rw [hk, e]⟩
    · rw [conA, if_neg e] at hm
      obtain ⟨q, hq, hqm⟩ := h.cov m hm
      exact ⟨q, set_row_keep hj hq (by rw [hqm]; exact e), hqm⟩
  at_ := fun q hq => by
    rcases mem_set_row h.nd hj hq with rfl | ⟨hq, hqk⟩
    · rw [conA, if_pos hk, hk]
      exact ⟨by rw [h4]; simp, h5, L, h6, h7⟩
    · rw [conA, if_neg hqk, h1 q hq hqk]
      exact h.at_ q hq
  pur := h8
/-- One row is new. -/
theorem rowsIn_new {x x' : List (Sh × D)} {rows : List RowR} {con : MarkR → List ElemR} (h : RowsIn x 3 rows con) {r' : RowR} (hn : ∀ q ∈ rows, q.k ≠ r'.k) (e : ElemR)
    (h1 : ∀ q ∈ rows, x'[q.b]? = x[q.b]?) (h2 : 3 ≤ r'.b) (h3 : ∀ q ∈ rows, q.b ≠ r'.b) (h4 : r'.n = 1) (h5 : r'.n ≤ r'.N) {L : List D} (h6 : x'[r'.b]? = some (.arr r'.N ((.pair (.pair (.pair .leaf (.pair .leaf .unit)) (.pair .leaf .unit)) (.pair .leaf (.pair (.pair (.pair .leaf (.pair .leaf .unit)) (.pair .leaf .unit)) (.pair .leaf (.pair .leaf .unit)))))), .agg L)) (h7 : L.take r'.n = [elD e])
    (h8 : ∀ N s L, (Sh.arr N s, D.agg L) ∈ x' → pureL L) : RowsIn x' 3 (rows ++ [r']) (conA con r'.k e) := by
  have hc : con r'.k = [] := Classical.byContradiction fun hne => by
    obtain ⟨q, hq, hqk⟩ := h.cov _ hne
    exact hn q hq hqk
  constructor
  case nd =>
    rw [List.map_append, List.nodup_append]
    refine ⟨h.nd, by simp, ?_⟩
    rintro a ha b hb rfl
    simp at hb
    obtain ⟨q, hq, rfl⟩ := List.mem_map.1 ha
    exact hn q hq hb
  case nb =>
    intro q hq q' hq' hb
    rcases List.mem_append.1 hq with h9 | h9 <;> rcases List.mem_append.1 hq' with h10 | h10
    · exact h.nb q h9 q' h10 hb
    · rw [List.mem_singleton] at h10; exact absurd (by rw [hb, h10]) (h3 q h9)
    · rw [List.mem_singleton] at h9; exact absurd (by rw [← hb, h9]) (h3 q' h10)
    · rw [List.mem_singleton] at h9 h10; rw [h9, h10]
  case lo =>
    intro q hq
    rcases List.mem_append.1 hq with hq | hq
    · exact h.lo q hq
    · rw [List.mem_singleton] at hq; subst hq; exact h2
  case cov =>
    intro m hm
    by_cases e : m = r'.k
    · exact ⟨r', by simp, e.symm⟩
    · rw [conA, if_neg e] at hm
      obtain ⟨q, hq, hqm⟩ := h.cov m hm
      exact ⟨q, by simp [hq], hqm⟩
  case at_ =>
    intro q hq
    rcases List.mem_append.1 hq with hq | hq
    · rw [conA, if_neg (hn q hq), h1 q hq]
      exact h.at_ q hq
    · rw [List.mem_singleton] at hq; subst hq
      rw [conA, if_pos rfl, hc]
      exact ⟨by rw [h4]; rfl, h5, L, h6, h7⟩
  case pur => exact h8
theorem pure_zeroEl (n : Nat) : pureL (List.replicate n (CT.zero 69)) := by
  apply pureL_rep
  simp only [go_sem, simprocAttr, pureD, pureL, and_self]
theorem app_row {x : List (Sh × D)} {rows : List RowR} {con : MarkR → List ElemR} (h : RowsIn x 3 rows con) (h3 : 3 ≤ x.length) {j : Nat} {r : RowR} (hj : rows[j]? = some r) (e : ElemR) (t' : Tok) (hl : (con r.k).length < 1000000) {K : St → Prop} {dst : Option Tmp} {ts : List D} {tk : List Bool}
    (hk : ∀ r' x', r'.k = r.k → RowsIn x' 3 (rows.set j r') (conA con r.k e) → (∀ i, i < 3 → x'[i]? = x[i]?) → K (St.put ⟨ts, ⟨x', tk⟩⟩ dst r'.d)) : appK CT true K dst ts x tk (.slice 69) r.d (.lst 69 [elD e] t') := by
  have hr : r ∈ rows := List.mem_of_getElem? hj
  obtain ⟨q1, q2, L, q3, q4⟩ := h.at_ r hr
  have hb3 := h.lo r hr
  have hcl : ((con r.k).map elD).length = r.n := by rw [List.length_map, q1]
  refine appK_mut _ _ _ _ _ _ _ _ ⟨(con r.k).map elD, [elD e], ?_, rfl, by simp only [go_sem, simprocAttr], by simp only [go_sem, simprocAttr, hcl, List.length_cons, List.length_nil]; omega, trivial, fun h => by simp at h, ?_, ?_⟩
  · simp only [rowOf, q3, List.drop_zero, q4]
  · intro b lo n c N s L' hsl _ hroom hb
    cases hsl
    rw [q3] at hb
    cases hb
    simp only [List.length_cons, List.length_nil, Nat.zero_add] at hroom ⊢
    refine hk ⟨r.k, r.b, r.N, r.n + 1⟩ _ rfl (rowsIn_upd (r' := ⟨r.k, r.b, r.N, r.n + 1⟩) (L := overL L r.n [elD e]) h hj rfl e (fun q hq hqk => ?_) hb3 (fun q hq hqk hb => hqk (h.nb q hq r hr hb)) (by show r.n + 1 = _; rw [q1]) hroom (List.getElem?_set_self (lt_of_some q3)) ?_ ?_) fun i hi => List.getElem?_set_ne (by omega)
    · rw [List.getElem?_set_ne (fun hb => hqk (h.nb q hq r hr hb.symm))]
    · have hLn : (L.take r.n).length = r.n := by rw [q4, hcl]
      have h1 : (L.take r.n ++ [elD e]).length = r.n + 1 := by rw [List.length_append, hLn]; rfl
      show (overL L r.n [elD e]).take (r.n + 1) = _
      unfold overL
      rw [List.take_append_of_le_length (by omega), List.take_of_length_le (by omega), q4]; simp
    · intro N s L' hm
      rcases List.mem_or_eq_of_mem_set hm with hm | hm
      · exact h.pur _ _ _ hm
      · cases hm
        exact pureL_over (h.pur _ _ _ (List.mem_of_getElem? q3)) ⟨pure_elD e, trivial⟩
  · intro _ _ N hN hN2
    simp only [hcl, List.length_cons, List.length_nil] at hN hN2 ⊢
    refine hk ⟨r.k, x.length, N, r.n + 1⟩ _ rfl (rowsIn_upd (r' := ⟨r.k, x.length, N, r.n + 1⟩) h hj rfl e (fun q hq hqk => ?_) h3 (fun q hq hqk hb => by have := rowsIn_lt h hq; have hb : q.b = x.length := hb; omega) (by show r.n + 1 = _; rw [q1]) hN (L := (con r.k).map elD ++ [elD e] ++ List.replicate (N - (r.n + 1)) (CT.zero 69)) (by simp [Heap.var, sh_el]) ?_ ?_) fun i hi => ?_
    · exact List.getElem?_append_left (rowsIn_lt h hq)
    · rw [List.take_append_of_le_length (by simp [q1]), List.take_of_length_le (by simp [q1])]; simp
    · intro N' s L' hm
      rcases List.mem_append.1 hm with hm | hm
      · exact h.pur _ _ _ hm
      · simp only [List.mem_singleton, Prod.mk.injEq, D.agg.injEq] at hm
        obtain ⟨_, rfl⟩ := hm
        exact pureL_cat (pureL_cat (pure_el _) ⟨pure_elD e, trivial⟩) (pure_zeroEl _)
    · exact List.getElem?_append_left (show i < x.length by omega)
theorem app_new {x : List (Sh × D)} {rows : List RowR} {con : MarkR → List ElemR} (h : RowsIn x 3 rows con) (h3 : 3 ≤ x.length) {m : MarkR} (hm : ∀ q ∈ rows, q.k ≠ m) (e : ElemR) (t' : Tok) {K : St → Prop} {dst : Option Tmp} {ts : List D} {tk : List Bool}
    (hk : ∀ r' x', r'.k = m → RowsIn x' 3 (rows ++ [r']) (conA con m e) → (∀ i, i < 3 → x'[i]? = x[i]?) → K (St.put ⟨ts, ⟨x', tk⟩⟩ dst r'.d)) : appK CT true K dst ts x tk (.slice 69) (.lst 69 [] .full) (.lst 69 [elD e] t') := by
  refine appK_mut _ _ _ _ _ _ _ _ ⟨[], [elD e], rfl, rfl, by simp only [go_sem, simprocAttr], by simp only [go_sem, simprocAttr, List.length_cons, List.length_nil], trivial, fun h => by simp at h, (fun _ _ _ _ _ _ _ h => by cases h), ?_⟩
  intro _ _ N hN hN2
  simp only [List.length_cons, List.length_nil, List.nil_append, Nat.zero_add] at hN hN2 ⊢
  refine hk ⟨m, x.length, N, 1⟩ _ rfl (rowsIn_new (r' := ⟨m, x.length, N, 1⟩) h hm e (fun q hq => List.getElem?_append_left (rowsIn_lt h hq)) h3 (fun q hq hb => by have := rowsIn_lt h hq; have hb : q.b = x.length := hb; omega) rfl hN (L := [elD e] ++ List.replicate (N - 1) (CT.zero 69)) (by simp [Heap.var, sh_el]) rfl ?_) fun i hi => ?_
  · intro N' s L' hm
    rcases List.mem_append.1 hm with hm | hm
    · exact h.pur _ _ _ hm
    · simp only [List.mem_singleton, Prod.mk.injEq, D.agg.injEq] at hm
      obtain ⟨_, rfl⟩ := hm
      exact pureL_cat ⟨pure_elD e, trivial⟩ (pure_zeroEl _)
  · exact List.getElem?_append_left (show i < x.length by omega)
end Go.Ab
