/- Each operation does in the machine what is said of it at the level of values (8: slices whose cells are written). Conditions: the table fits the program. -/
import Derived.Test.YtehcjnendfpbaaaGreatAbJm
import Derived.Laws.MakeOwn
import Derived.Lib.AppendZerosOnto
namespace Go.Ab
section
variable {P : Program} {C : Tab} {ρ : Env} {h h' : Heap} {w : World} {o : Oper} {a : Act} {e : Operand → D} {d : D}

theorem leavesL_take {s : Sh} {L : List D} (hs : ∀ d ∈ L, hasSh s d) {k : Nat} (hk : k ≤ L.length) : leavesL (L.take k) = (leavesL L).take (k * s.size) ∧ leavesL (L.drop k) = (leavesL L).drop (k * s.size) := by
  have h1 : (leavesL (L.take k)).length = k * s.size := by
    rw [leavesL_length_const (n := s.size) fun x hx => leaves_length (hs x (List.mem_of_mem_take hx)), List.length_take, Nat.min_eq_left hk]
  have h2 : leavesL L = leavesL (L.take k) ++ leavesL (L.drop k) := by rw [← leavesL_append, List.take_append_drop]
  rw [h2, ← h1]
  simp

theorem over_leaves {s : Sh} {L m : List D} (hs : ∀ d ∈ L, hasSh s d) (hm : ∀ d ∈ m, hasSh s d) {k : Nat} (hk : k + m.length ≤ L.length) :
    leavesL (overL L k m) = (leavesL L).take (k * s.size) ++ leavesL m ++ (leavesL L).drop (k * s.size + (leavesL m).length) ∧ (overL L k m).length = L.length ∧ ∀ d ∈ overL L k m, hasSh s d := by
  have h1 : (leavesL m).length = m.length * s.size := leavesL_length_const fun x hx => leaves_length (hm x hx)
  refine ⟨?_, by simp [overL]; omega, ?_⟩
  · unfold overL
    rw [leavesL_append, leavesL_append, (leavesL_take hs (k := k) (by omega)).1, (leavesL_take hs (k := k + m.length) (by omega)).2, h1, Nat.add_mul]
  · intro d hd
    simp only [overL, List.mem_append] at hd
    rcases hd with (hd | hd) | hd
    · exact hs d (List.mem_of_mem_take hd)
    · exact hm d hd
    · exact hs d (List.mem_of_mem_drop hd)

/-- A part of a block's cells. -/
theorem block_row {B : Nat} {c : Array Value} {t : TypeId} {s : Sh} {L : List D} (hw : w.heap[B]? = some (.cells c t (0, 0))) (ha : All2 (VV C.sh ρ) c.toList (leavesL L)) (hs : ∀ d ∈ L, hasSh s d) {lo n : Nat} (hl : lo + n ≤ L.length) :
    ∃ cs, cs = (c.toList.drop (lo * s.size)).take (n * s.size) ∧ cs.length = n * s.size ∧ All2 (VV C.sh ρ) cs (leavesL ((L.drop lo).take n)) ∧ Rd w ⟨B, lo * s.size, none⟩ cs ∧ ((L.drop lo).take n).length = n ∧ ∀ d ∈ (L.drop lo).take n, hasSh s d := by
  have h1 : ∀ d ∈ L.drop lo, hasSh s d := fun d hd => hs d (List.mem_of_mem_drop hd)
  have h2 : ∀ d ∈ (L.drop lo).take n, hasSh s d := fun d hd => h1 d (List.mem_of_mem_take hd)
  have hlen : ((L.drop lo).take n).length = n := by simp; omega
  have h3 : All2 (VV C.sh ρ) ((c.toList.drop (lo * s.size)).take (n * s.size)) (leavesL ((L.drop lo).take n)) := by
    rw [(leavesL_take h1 (k := n) (by simp; omega)).1, (leavesL_take hs (k := lo) (by omega)).2]
    exact (ha.drop _).take _
  refine ⟨_, rfl, ?_, h3, rd_of_block hw _ _, hlen, h2⟩
  rw [h3.1, leavesL_length_const (n := s.size) (fun x hx => leaves_length (h2 x hx)), hlen]

/-- A slice's cells, whichever it is. -/
theorem row_parts (hT : TabOk P C) (r : Real C.sh ρ h w) {x : D} {v : Value} {u : TypeId} {l : List D} (hv : VV C.sh ρ v x) (hr : rowOf h x = some (u, l)) :
    (v = .slice none 0 0 ∧ l = []) ∨ ∃ ad cap cs, v = .slice (some ad) l.length cap ∧ (l ≠ [] → Rd w ad cs) ∧ cs.length = l.length * (C.sh u).size ∧ All2 (VV C.sh ρ) cs (leavesL l) ∧ (∀ d ∈ l, hasSh (C.sh u) d) ∧ l.length ≤ cap := by
  unfold rowOf at hr
  split at hr
  · cases hr
    rcases vv_lst hv with ⟨h1, h2⟩ | ⟨ad, cap, cs, h1, h2, h3, h4, h5, h6, _⟩
    · exact .inl ⟨h1, h2⟩
    · exact .inr ⟨ad, cap, cs, h1, fun _ => rd_of_row r h2, by rw [h3, cells_rd h5], ⟨h3, fun i c y hc hy => .pure (h4 i c y hc hy)⟩, h5, h6⟩
  · rename_i u' b lo n c
    split at hr
    case h_2 => cases hr
    rename_i N s L hbx
    cases hr
    obtain ⟨B, N', oo, hve, hbox, hc, hn, hm, hoo⟩ := vv_sl hv
    obtain ⟨e1, hsh, cc, t, hw, ha⟩ := real_box r hbox hbx rfl
    cases e1
    obtain ⟨hL, hsL⟩ := hsh
    simp only [leaves] at ha
    obtain ⟨cs, _, k1, k2, k3, k4, k5⟩ := block_row (s := C.sh u) hw ha hsL (lo := lo) (n := n) (by omega)
    refine .inr ⟨_, c, cs, by rw [k4]; exact hve, ?_, by rw [k4]; exact k1, k2, k5, by rw [k4]; exact hn⟩
    intro hne
    have : n ≠ 0 := by
      rintro rfl
      exact hne (by simp)
    rw [hoo (by omega)]; exact k3
  · cases hr

/-- A part of an own variable is written. -/
theorem over_set (r : Real C.sh ρ h w) {b B N : Nat} {u : TypeId} {L m : List D} {cs : List Value} {s : Sh} {k : Nat} (hbox : ρ.box[b]? = some (B, .arr N (C.sh u))) (hbx : h.boxes[b]? = some (.arr N s, .agg L))
    (hcs : All2 (VV C.sh ρ) cs (leavesL m)) (hm : ∀ d ∈ m, hasSh (C.sh u) d) (hk : k + m.length ≤ N) :
    ∃ w', (storeCells ⟨B, k * (C.sh u).size, none⟩ cs).run P w = .ok () w' ∧ Ext ρ w ρ w' ∧ Real C.sh ρ { h with boxes := h.boxes.set b (.arr N s, .agg (overL L k m)) } w' := by
  obtain ⟨e1, hsh, cc, t, hw, ha⟩ := real_box r hbox hbx rfl
  cases e1
  obtain ⟨hL, hsL⟩ := hsh
  simp only [leaves] at ha
  obtain ⟨k1, k2, k3⟩ := over_leaves hsL hm (k := k) (by omega)
  have hml : (leavesL m).length = m.length * (C.sh u).size := leavesL_length_const fun x hx => leaves_length (hm x hx)
  have hsz : cc.size = N * (C.sh u).size := by rw [← Array.length_toList, ha.1, cells_rd hsL, hL]
  have hfit : k * (C.sh u).size + cs.length ≤ cc.size := by
    rw [hcs.1, hml, hsz, ← Nat.add_mul]; exact Nat.mul_le_mul_right _ hk
  have hone : ∀ v ∈ cs, v.oneCell' = true := by
    have hsl : hasSh (.arr m.length (C.sh u)) (.agg m) := ⟨rfl, hm⟩
    exact cells_one (T := C.sh) (ρ := ρ) hsl (by simpa [leaves] using hcs)
  have hst := run_storeCells_at P B (k * (C.sh u).size) t cs 0 cc w hw (by omega) hone
  simp only [Nat.add_zero] at hst
  refine ⟨_, hst, box_ext r hbox rfl rfl rfl (by simp) (fun k hk => setRow_other w B k _ hk), ?_⟩
  refine box_set r hbox hbx rfl (show hasSh (.arr N (C.sh u)) (.agg (overL L k m)) from ⟨by rw [k2]; exact hL, k3⟩) _ ?_ _ t (setRow_heap w B cc _ t _ hw) (by simp) (fun k hk => setRow_other w B k _ hk)
  simp only [leaves]
  rw [k1, ← hcs.1]
  exact ((ha.take _).append hcs).append (ha.drop _)

theorem did_append_mut (hT : TabOk P C) (r : Real C.sh ρ h w) (he : ∀ x, VV C.sh ρ (a.eval x) (e x)) {t u : TypeId} {c : Call} {x y : Operand} {R : D → Heap → Prop} (ho : o.op = .call c) (hb : c.callee = .builtin .append) (hts : c.argTypes = #[t, t]) (has : c.args = #[x, y])
    (hty : C.ty t = .slice u) (hd : appendN C u h (nrm C t (e x)) (nrm C t (e y)) R) : DidN P C o a w ρ R := by
  have ht : C.ty t ≠ .bad := by rw [hty]; simp
  have hf := (hT t ht).desc
  rw [hty] at hf
  obtain ⟨_, hu, hub, husz⟩ := hf
  obtain ⟨i, z, hi, hsz, hby, hz, hvz⟩ := (hT u hub).info
  have hzc := vv_cells (VV.pure (hvz ρ.S)) (hT u hub).zsh
  have hzs : z.cells.size = (C.sh u).size := by rw [← Array.length_toList, hzc.1]; exact leaves_length (hT u hub).zsh
  have hx := vv_nrm (t := t) (he x)
  have hy := vv_nrm (t := t) (he y)
  obtain ⟨l, m, rx, ry, hbp, hlen, hkind, hnone, hroom, hgrow⟩ := hd
  have fin : ∀ {v w' ρ' d h'}, (Builtin.append_ #[t, t] o.type #[a.eval x, a.eval y]).run P w = .ok v w' → R d h' → Ext ρ w ρ' w' → Real C.sh ρ' h' w' → VV C.sh ρ' v d → DidN P C o a w ρ R := by
    intro v w' ρ' d h' hr hR h1 h2 h3
    refine ⟨d, h', hR, v, ρ', w', .inl ?_, h1, h2, h3⟩
    rw [execOp, ho]
    simp only [resolve, hb, hts, has, Sem.run_bind, Sem.run_pure, Result.andThen_ok, invoke, builtin, List.map_toArray, List.map_cons, List.map_nil, hr]
  have hszi : i.size = (C.sh u).size := hsz
  by_cases hm0 : m = []
  · -- nothing is added
    subst hm0
    have hzero : ∀ base n cap, a.eval x = .slice base n cap → n ≤ cap → (Builtin.append_ #[t, t] o.type #[a.eval x, a.eval y]).run P w = .ok (a.eval x) w := by
      intro base n cap hv hle
      rcases row_parts hT r hy ry with ⟨hvy, _⟩ | ⟨ad, cy, csy, hvy, _⟩
      · rw [hv, hvy]
        cases base <;> simp [Builtin.append_, run_underlying hu, (hT u hub).run_sizeOf, Builtin.lenOf, hle, Builtin.firstCells, storeCells]
      · rw [hv, hvy]
        cases base <;> simp [Builtin.append_, run_underlying hu, (hT u hub).run_sizeOf, Builtin.lenOf, hle, Builtin.firstCells, storeCells, loadCells, loadCellsFrom]
    rcases row_parts hT r hx rx with ⟨hv, _⟩ | ⟨ad2, cap, csl, hv, _, _, _, _, hl4⟩
    · exact fin (hzero _ _ _ hv (Nat.le_refl _)) (hnone rfl) (.refl _ _) r hx
    · exact fin (hzero _ _ _ hv hl4) (hnone rfl) (.refl _ _) r hx
  have hmpos : 0 < m.length := List.length_pos_iff.2 hm0
  rcases row_parts hT r hy ry with ⟨_, h0⟩ | ⟨ad, cy, csy, hvy, rowy, hlmy, ally, shy, _⟩
  · exact absurd h0 hm0
  have rdy := rowy hm0
  have rdyd : ∀ (j : Nat) (v : Value), csy[j]? = some v → w.cell? (ad.add j) = some v := rdy
  have hlm : csy.length = m.length * i.size := by rw [hlmy, hszi]
  have hbytes : (l.length + m.length) * i.bytes ≤ 140737488355328 := by rw [hby]; exact hlen
  have hmax : l.length + m.length ≤ 9223372036854775807 := by
    have := Nat.le_mul_of_pos_right (l.length + m.length) hbp
    omega
  -- a new block
  have grow : ∀ (old : Nat) (csl : List Value), old < l.length + m.length → All2 (VV C.sh ρ) csl (leavesL l) → (∀ d ∈ l, hasSh (C.sh u) d) → (∀ b lo n c, nrm C t (e x) = .sl u b lo n c → c < n + m.length) →
      (Builtin.append_ #[t, t] o.type #[a.eval x, a.eval y]).run P w = .ok (.slice (some ⟨w.heap.size, 0, none⟩) (l.length + m.length) (grownCap w (l.length + m.length) old u))
        (w.drew.alloc (.cells (csl.toArray ++ csy.toArray ++ Builtin.zeroCells z.cells (grownCap w (l.length + m.length) old u - (l.length + m.length))) u)) → DidN P C o a w ρ R := by
    intro old csl ho hl1 hl3 hk hrun
    have hge := grownCap_ge w (l.length + m.length) old u
    have hcm := grownCap_le_maxLen w (l.length + m.length) old u hmax
    generalize grownCap w (l.length + m.length) old u = N at hge hcm hrun
    have hzr := zeros_rep (n := N - (l.length + m.length)) hzc (leaves_length (hT u hub).zsh) (Builtin.zeroCells z.cells (N - (l.length + m.length))).toList (by rw [Array.length_toList, size_zeroCells, hzs]) (by
      intro i hi
      simp only [Builtin.zeroCells, hzs, Array.toList_map, Array.toList_range, List.getElem?_map, List.getElem?_range hi, Option.map_some, Array.getElem?_toList]
      have hpos : 0 < (C.sh u).size := Nat.pos_of_ne_zero husz
      have := Nat.mod_lt i hpos
      simp [hzs, this])
    have hall : All2 (VV C.sh ρ) (csl.toArray ++ csy.toArray ++ Builtin.zeroCells z.cells (N - (l.length + m.length))).toList (leaves (.agg (l ++ m ++ List.replicate (N - (l.length + m.length)) (C.zero u)))) := by
      simp only [leaves, leavesL_append, Array.toList_append]
      exact (hl1.append ally).append hzr
    have hshN : hasSh (.arr N (C.sh u)) (.agg (l ++ m ++ List.replicate (N - (l.length + m.length)) (C.zero u))) := by
      refine ⟨by simp; omega, fun d hd => ?_⟩
      simp only [List.mem_append] at hd
      rcases hd with (hd | hd) | hd
      · exact hl3 d hd
      · exact shy d hd
      · rw [List.eq_of_mem_replicate hd]; exact (hT u hub).zsh
    refine fin hrun (hgrow hk hm0 N hge hcm) ((Ext.drew ρ w).trans (var_ext ρ w.drew (.arr N (C.sh u)) _)) (var_real r.drew u rfl hshN hall) ?_
    refine .sl (N := N) ?_ (by omega) hge hcm (fun _ => by simp)
    exact var_box r.drew _ _
  rcases row_parts hT r hx rx with ⟨hv, hl⟩ | ⟨ad2, cap, csl, hv, hrow, hl1, hl2, hl3, hl4⟩
  · subst hl
    refine grow 0 [] (by simp; omega) (by simp [leavesL]; exact All2.nil) (by simp) ?_ ?_
    · intro b lo n c hxe
      rw [hxe] at hx
      obtain ⟨B, N, oo, hve, _⟩ := vv_sl hx
      rw [hv] at hve; cases hve
    · rw [hv, hvy]
      simp only [List.length_nil, Nat.zero_add] at hmax hbytes ⊢
      have := run_append_nil (P := P) w t o.type u i z hu hi hz ad m.length cy csy hlm rdyd hmpos (by omega) (by omega)
      simpa using this
  · have hgrowing : cap < l.length + m.length → (∀ b lo n c, nrm C t (e x) = .sl u b lo n c → c < n + m.length) → DidN P C o a w ρ R := by
      intro hcap hk
      refine grow cap csl hcap hl2 hl3 hk ?_
      rw [hv, hvy]
      refine run_append_grow (P := P) w t o.type u i z hu hi hz ad2 l.length cap csl (by rw [hl1, hszi]) ?_ ad m.length cy csy hlm rdyd hcap (by omega) (growslice_fits (by omega) hbytes)
      intro j v hj
      have : l ≠ [] := by
        rintro rfl
        simp at hl1; subst hl1; simp at hj
      exact hrow this j v hj
    generalize hxd : nrm C t (e x) = dx at hx rx hkind hnone hroom hgrow hgrowing
    cases dx <;> try (exact False.elim hkind)
    case lst u' l' tk =>
      cases tk <;> try (exact False.elim hkind)
      cases rx
      rcases vv_lst hx with ⟨hv', _⟩ | ⟨_, cap', _, hv', _, _, _, _, _, _, hfl⟩
      · rw [hv] at hv'; cases hv'
      · rw [hv] at hv'
        simp only [Value.slice.injEq] at hv'
        have := hfl rfl
        exact hgrowing (by omega) (by intro b lo n c h; cases h)
    case sl u' b lo n cc =>
      obtain ⟨B, N, oo, hve, hbox, hc, hn, hmm, hoo⟩ := vv_sl hx
      have rx' : (match h.boxes[b]? with | some (.arr _ _, .agg L) => some (u', (L.drop lo).take n) | _ => none) = some (u, l) := rx
      clear rx
      split at rx'
      case h_2 => cases rx'
      rename_i N' s L hbx
      cases rx'
      obtain ⟨e1, hsh, cc0, tt, hw, ha⟩ := real_box r hbox hbx rfl
      cases e1
      obtain ⟨hL, hsL⟩ := hsh
      have hll : ((L.drop lo).take n).length = n := by simp; omega
      rw [hll] at hv
      rw [hve] at hv
      simp only [Value.slice.injEq, Option.some.injEq] at hv
      obtain ⟨rfl, -, rfl⟩ := hv
      by_cases hfit : n + m.length ≤ cc
      · have hoo := hoo (by omega)
        subst hoo
        obtain ⟨w', hst, k1, k2⟩ := over_set r (k := lo + n) hbox hbx ally shy (by omega)
        refine fin ?_ (hroom b lo n cc N _ L rfl hm0 hfit hbx) k1 k2 (.sl hbox hc (by omega) hmm fun _ => rfl)
        have hfc := run_firstCells_some (P := P) w (C.sh u).size m.length ad m.length cy csy (by rw [hlm, hszi]) rdyd
        have hadd : (⟨B, lo * (C.sh u).size, none⟩ : Addr).add (n * (C.sh u).size) = ⟨B, (lo + n) * (C.sh u).size, none⟩ := by rw [addr_add _ _ rfl, Nat.add_mul]
        rw [hve, hvy]
        simp [Builtin.append_, run_underlying hu, (hT u hub).run_sizeOf, Builtin.lenOf, hfit, hfc, hadd]
        rw [hst]
        rfl
      · refine hgrowing (by rw [hll]; omega) ?_
        intro b' lo' n' c' hh; cases hh; omega

theorem did_copy (hT : TabOk P C) (r : Real C.sh ρ h w) (he : ∀ x, VV C.sh ρ (a.eval x) (e x)) {t u : TypeId} {cl : Call} {x y : Operand} (ho : o.op = .call cl) (hb : cl.callee = .builtin .copy) (hts : cl.argTypes = #[t, t]) (has : cl.args = #[x, y])
    (hty : C.ty t = .slice u) {b lo n c N : Nat} {s : Sh} {L m : List D} (hxe : nrm C t (e x) = .sl u b lo n c) (hbx : h.boxes[b]? = some (.arr N s, .agg L)) (hye : rowOf h (nrm C t (e y)) = some (u, m)) :
    Did P C o a w ρ { h with boxes := h.boxes.set b (.arr N s, .agg (overL L lo (m.take n))) } (.int (min m.length n : Nat)) := by
  have ht : C.ty t ≠ .bad := by rw [hty]; simp
  have hf := (hT t ht).desc
  rw [hty] at hf
  obtain ⟨_, hu, hub, husz⟩ := hf
  have hx := vv_nrm (t := t) (he x)
  have hy := vv_nrm (t := t) (he y)
  rw [hxe] at hx
  obtain ⟨B, N', oo, hve, hbox, hc, hn, hmm, hoo⟩ := vv_sl hx
  obtain ⟨e1, hsh, _⟩ := real_box r hbox hbx rfl
  cases e1
  obtain ⟨hL, hsL⟩ := hsh
  have fin : ∀ {w' v}, (Builtin.copy_ #[t, t] o.type #[a.eval x, a.eval y]).run P w = .ok v w' → (execOp a.eval o).run P w = .ok (.value v) w' := by
    intro w' v hr
    rw [execOp, ho]
    simp only [resolve, hb, hts, has, Sem.run_bind, Sem.run_pure, Result.andThen_ok, invoke, builtin, List.map_toArray, List.map_cons, List.map_nil, hr]
  rcases row_parts hT r hy hye with ⟨hvy, hm⟩ | ⟨ad, cap, cs, hvy, hrd, hcl, hall, hsm, _⟩
  · subst hm
    refine ⟨.int .i64 0, ρ, w, .inl (fin ?_), .refl _ _, ?_, .lit _⟩
    · rw [hve, hvy]
      simp [Builtin.copy_, run_underlying hu, (hT u hub).run_sizeOf, Builtin.lenOf, Builtin.firstCells, storeCells, goInt]
    · have : overL L lo (([] : List D).take n) = L := by simp [overL]
      rw [this]
      have h2 : h.boxes.set b (.arr N (C.sh u), .agg L) = h.boxes := by
        apply List.ext_getElem?
        intro j
        rw [List.getElem?_set]
        split
        · rename_i e; subst e; rw [hbx]; simp [(List.getElem?_eq_some_iff.1 hbx).1]
        · rfl
      rw [h2]; exact r
  · have hk : (m.take n).length = min m.length n := by rw [List.length_take, Nat.min_comm]
    have hsm' : ∀ d ∈ m.take n, hasSh (C.sh u) d := fun d hd => hsm d (List.mem_of_mem_take hd)
    have hall' : All2 (VV C.sh ρ) (cs.take (min m.length n * (C.sh u).size)) (leavesL (m.take n)) := by
      have := hall.take (min m.length n * (C.sh u).size)
      rw [← (leavesL_take hsm (k := min m.length n) (Nat.min_le_left _ _)).1] at this
      have e : m.take (min m.length n) = m.take n := by
        rw [List.take_eq_take_iff]
        try omega
      rwa [e] at this
    obtain ⟨w', hst, k1, k2⟩ := over_set r (k := lo) hbox hbx hall' hsm' (by rw [hk]; omega)
    refine ⟨.int .i64 (min m.length n : Nat), ρ, w', .inl (fin ?_), k1, k2, .lit _⟩
    have hfc : (Builtin.firstCells (C.sh u).size (Nat.min m.length n) (.slice (some ad) m.length cap)).run P w = .ok (cs.take (min m.length n * (C.sh u).size)).toArray w := by
      refine run_firstCells_some (P := P) w (C.sh u).size (Nat.min m.length n) ad m.length cap _ ?_ ?_
      · rw [List.length_take, hcl, Nat.min_eq_left (Nat.mul_le_mul_right _ (Nat.min_le_left _ _))]
        try rfl
      · intro j v hj
        rw [List.getElem?_take] at hj
        split at hj
        · have hne : m ≠ [] := by rintro rfl; simp at hcl; subst hcl; simp at hj
          exact hrd hne j v hj
        · cases hj
    by_cases hz : min m.length n = 0
    · have hstz : ∀ A : Addr, (storeCells A (cs.take (min m.length n * (C.sh u).size)) 0).run P w = .ok () w' := by
        have h0 : cs.take (min m.length n * (C.sh u).size) = [] := by rw [hz]; simp
        rw [h0] at hst ⊢
        intro A
        simpa [storeCells] using hst
      rw [hve, hvy]
      simp [Builtin.copy_, run_underlying hu, (hT u hub).run_sizeOf, Builtin.lenOf, hfc, hstz, goInt]
      try rfl
    · have hoo := hoo (by omega)
      subst hoo
      rw [hve, hvy]
      simp [Builtin.copy_, run_underlying hu, (hT u hub).run_sizeOf, Builtin.lenOf, hfc, goInt]
      rw [hst]
      rfl

theorem run_append_zero_zeros (w : World) (t tn ty e : TypeId) (i : TypeInfo) (z : Value) (k kn : IntKind) (ht : P.underlying t = some (.slice e)) (htn : P.underlying tn = some (.int kn)) (hi : P.info? e = some i) (hz : i.zero = some z)
    (b : Addr) (n : Nat) (h0 : 0 < n) (hs : 0 < i.size) (h63 : (n : Int) ≤ 9223372036854775807) (h48 : n * i.bytes ≤ 281474976710656) :
    (Builtin.append_ #[t, tn] ty #[.slice (some b) 0 0, .int k n]).run P w =
      .ok (.slice (some ⟨w.heap.size, 0, none⟩) n (grownCap w n 0 e)) (w.drew.alloc (.cells (Builtin.zeroCells z.cells n ++ Builtin.zeroCells z.cells (grownCap w n 0 e - n)) e)) := by
  have hn : n ≠ 0 := by omega
  have hw : IntKind.i64.wrap (n : Int) = n := by rw [IntKind.wrap_i64]; omega
  have h63' : ¬ (9223372036854775807 < (n : Int)) := by omega
  have h48' : ¬ (281474976710656 < Builtin.nextslicecap n 0 * i.bytes) := by rw [nextslicecap_zero h0]; omega
  have h48i : ¬ (281474976710656 < (n : Int) * (i.bytes : Int)) := by
    rw [← Int.natCast_mul]
    omega
  have hneg : ¬ ((n : Int) < 0) := by omega
  have hns : ¬ (n * i.size = 0) := Nat.mul_ne_zero hn (by omega)
  have hfo := run_firstCells_some (P := P) w.drew i.size 0 b 0 0 [] (by simp) (by simp)
  simp [Builtin.append_, run_underlying ht, run_underlying htn, sizeOf, typeInfo, zeroValue, hi, hz, asInt, asIntOf, hw, hn, hneg, hns, h63', h48', h48i, Question.forced, hfo, newRow, grownCap]

theorem did_grow (hT : TabOk P C) (r : Real C.sh ρ h w) (he : ∀ x, VV C.sh ρ (a.eval x) (e x)) {t t' u : TypeId} {kn : IntKind} {c : Call} {x y : Operand} {R : D → Heap → Prop} (ho : o.op = .call c) (hb : c.callee = .builtin .append) (hts : c.argTypes = #[t, t']) (has : c.args = #[x, y])
    (hty : C.ty t = .slice u) (hty' : C.ty t' = .int kn) (hd : growN C u h (nrm C t (e x)) (e y) R) : DidN P C o a w ρ R := by
  obtain ⟨kk, n, hx0, hy0, h0, hl, hb0, hR⟩ := hd
  have ht : C.ty t ≠ .bad := by rw [hty]; simp
  have ht' : C.ty t' ≠ .bad := by rw [hty']; simp
  have hf := (hT t ht).desc
  rw [hty] at hf
  obtain ⟨_, hu, hub, husz⟩ := hf
  have hf' := (hT t' ht').desc
  rw [hty'] at hf'
  obtain ⟨_, hu'⟩ := hf'
  obtain ⟨i, z, hi, hsz, hby, hz, hvz⟩ := (hT u hub).info
  have hzc := vv_cells (VV.pure (hvz ρ.S)) (hT u hub).zsh
  have hzs : z.cells.size = (C.sh u).size := by rw [← Array.length_toList, hzc.1]; exact leaves_length (hT u hub).zsh
  have hx := vv_nrm (t := t) (he x)
  rw [hx0] at hx
  have hy := he y
  rw [hy0] at hy
  have hyv := vv_lit hy
  have hszi : 0 < i.size := by rw [hsz]; exact Nat.pos_of_ne_zero husz
  have hmax : n ≤ 140737488355328 := by
    have := Nat.le_mul_of_pos_right n hb0
    omega
  have h63 : (n : Int) ≤ 9223372036854775807 := by omega
  have h48 : n * i.bytes ≤ 281474976710656 := by rw [hby]; omega
  have hge := grownCap_ge w n 0 u
  have hcm := grownCap_le_maxLen w n 0 u (show n ≤ 9223372036854775807 by omega)
  have hrun : (Builtin.append_ #[t, t'] o.type #[a.eval x, a.eval y]).run P w =
      .ok (.slice (some ⟨w.heap.size, 0, none⟩) n (grownCap w n 0 u)) (w.drew.alloc (.cells (Builtin.zeroCells z.cells n ++ Builtin.zeroCells z.cells (grownCap w n 0 u - n)) u)) := by
    rw [hyv]
    rcases vv_lst hx with ⟨hv, _⟩ | ⟨ad, cap, cs, hv, _, _, _, _, _, _, hfl⟩
    · rw [hv]
      exact Go.Lib.run_append_nil_zeros w t t' o.type u i z kk kn hu hu' hi hz n h0 hszi h63 h48
    · have hc0 := hfl rfl
      simp only [List.length_nil] at hc0 hv
      subst hc0
      rw [hv]
      exact run_append_zero_zeros w t t' o.type u i z kk kn hu hu' hi hz ad n h0 hszi h63 h48
  generalize grownCap w n 0 u = N at hge hcm hrun
  have hzr : ∀ m, All2 (VV C.sh ρ) (Builtin.zeroCells z.cells m).toList (leavesL (List.replicate m (C.zero u))) := fun m =>
    zeros_rep (n := m) hzc (leaves_length (hT u hub).zsh) (Builtin.zeroCells z.cells m).toList (by rw [Array.length_toList, size_zeroCells, hzs]) (by
      intro i hi
      simp only [Builtin.zeroCells, hzs, Array.toList_map, Array.toList_range, List.getElem?_map, List.getElem?_range hi, Option.map_some, Array.getElem?_toList]
      have hpos : 0 < (C.sh u).size := Nat.pos_of_ne_zero husz
      have := Nat.mod_lt i hpos
      simp [hzs, this])
  have hall : All2 (VV C.sh ρ) (Builtin.zeroCells z.cells n ++ Builtin.zeroCells z.cells (N - n)).toList (leaves (.agg (List.replicate N (C.zero u)))) := by
    have e1 : List.replicate N (C.zero u) = List.replicate n (C.zero u) ++ List.replicate (N - n) (C.zero u) := by rw [List.replicate_append_replicate]; congr 1; omega
    rw [e1]
    simp only [leaves, leavesL_append, Array.toList_append]
    exact (hzr n).append (hzr (N - n))
  have hshN : hasSh (.arr N (C.sh u)) (.agg (List.replicate N (C.zero u))) := ⟨by simp, fun d hd => by rw [List.eq_of_mem_replicate hd]; exact (hT u hub).zsh⟩
  refine ⟨_, _, hR N hge hcm, .slice (some ⟨w.heap.size, 0, none⟩) n N, _, _, .inl ?_, (Ext.drew ρ w).trans (var_ext ρ w.drew (.arr N (C.sh u)) _), var_real r.drew u rfl hshN hall, ?_⟩
  · rw [execOp, ho]
    simp only [resolve, hb, hts, has, Sem.run_bind, Sem.run_pure, Result.andThen_ok, invoke, builtin, List.map_toArray, List.map_cons, List.map_nil, hrun]
  · refine .sl (N := N) ?_ (by omega) hge hcm (fun _ => by simp)
    exact var_box r.drew _ _

theorem did_growS (hT : TabOk P C) (r : Real C.sh ρ h w) (he : ∀ x, VV C.sh ρ (a.eval x) (e x)) {t t' u : TypeId} {kn : IntKind} {c : Call} {x y : Operand} {R : D → Heap → Prop} (ho : o.op = .call c) (hb : c.callee = .builtin .append) (hts : c.argTypes = #[t, t']) (has : c.args = #[x, y])
    (hty : C.ty t = .slice u) (hty' : C.ty t' = .int kn) (hd : growS C u h (nrm C t (e x)) (e y) R) : DidN P C o a w ρ R := by
  obtain ⟨kk, n, b, lo, i, cc, N0, s, L, hx0, hy0, hbx, h0, hci, hl, hb0, hR⟩ := hd
  have ht : C.ty t ≠ .bad := by rw [hty]; simp
  have ht' : C.ty t' ≠ .bad := by rw [hty']; simp
  have hf := (hT t ht).desc
  rw [hty] at hf
  obtain ⟨_, hu, hub, husz⟩ := hf
  have hf' := (hT t' ht').desc
  rw [hty'] at hf'
  obtain ⟨_, hu'⟩ := hf'
  obtain ⟨ti, z, hi, hsz, hby, hz, hvz⟩ := (hT u hub).info
  have hzc := vv_cells (VV.pure (hvz ρ.S)) (hT u hub).zsh
  have hzs : z.cells.size = (C.sh u).size := by rw [← Array.length_toList, hzc.1]; exact leaves_length (hT u hub).zsh
  have hx := vv_nrm (t := t) (he x)
  rw [hx0] at hx
  have hy := he y
  rw [hy0] at hy
  have hyv := vv_lit hy
  have hszi : 0 < ti.size := by rw [hsz]; exact Nat.pos_of_ne_zero husz
  have hmax : i + n ≤ 140737488355328 := by
    have := Nat.le_mul_of_pos_right (i + n) hb0
    omega
  have hbytes : (i + n) * ti.bytes ≤ 140737488355328 := by rw [hby]; exact hl
  have hnb : n * ti.bytes ≤ 281474976710656 := by
    have := Nat.mul_le_mul_right ti.bytes (show n ≤ i + n by omega)
    omega
  have hr0 : rowOf h (.sl u b lo i cc) = some (u, (L.drop lo).take i) := by simp only [rowOf, hbx]
  obtain ⟨B, N, oo, hve, hbox, hc, hn, hmm, hoo⟩ := vv_sl hx
  obtain ⟨e1, hsh, _⟩ := real_box r hbox hbx rfl
  cases e1
  obtain ⟨hL, hsL⟩ := hsh
  have hli : ((L.drop lo).take i).length = i := by simp; omega
  rcases row_parts hT r hx hr0 with ⟨hv, _⟩ | ⟨ad, cap, csl, hv, hrow, hl1, hl2, hl3, hl4⟩
  · rw [hve] at hv; cases hv
  rw [hve] at hv
  rw [hli] at hv hl1 hl4
  simp only [Value.slice.injEq, Option.some.injEq] at hv
  obtain ⟨rfl, -, rfl⟩ := hv
  have hge := grownCap_ge w (i + n) cc u
  have hcm := grownCap_le_maxLen w (i + n) cc u (show i + n ≤ 9223372036854775807 by omega)
  have hfirst : (Builtin.firstCells ti.size i (.slice (some ⟨B, oo, none⟩) i cc)).run P w.drew = .ok csl.toArray w.drew := by
    refine run_firstCells_some (P := P) w.drew ti.size i _ i cc csl (by rw [hl1]; rw [show ti.size = (C.sh u).size from hsz]) ?_
    intro j v hj
    have hne : (L.drop lo).take i ≠ [] := by
      intro e0
      have := congrArg List.length e0
      rw [hli] at this
      simp only [List.length_nil] at this
      subst this
      simp at hl1; subst hl1; simp at hj
    exact hrow hne j v hj
  have hrun := Go.Lib.run_append_grow_zeros (P := P) w t t' o.type u ti z kk kn hu hu' hi hz (some ⟨B, oo, none⟩) i cc csl hfirst n h0 hszi hci (by omega) hnb (growslice_fits (by omega) hbytes)
  generalize grownCap w (i + n) cc u = M at hge hcm hrun
  have hzr : ∀ m, All2 (VV C.sh ρ) (Builtin.zeroCells z.cells m).toList (leavesL (List.replicate m (C.zero u))) := fun m =>
    zeros_rep (n := m) hzc (leaves_length (hT u hub).zsh) (Builtin.zeroCells z.cells m).toList (by rw [Array.length_toList, size_zeroCells, hzs]) (by
      intro i hi
      simp only [Builtin.zeroCells, hzs, Array.toList_map, Array.toList_range, List.getElem?_map, List.getElem?_range hi, Option.map_some, Array.getElem?_toList]
      have hpos : 0 < (C.sh u).size := Nat.pos_of_ne_zero husz
      have := Nat.mod_lt i hpos
      simp [hzs, this])
  have hall : All2 (VV C.sh ρ) (csl.toArray ++ Builtin.zeroCells z.cells n ++ Builtin.zeroCells z.cells (M - (i + n))).toList (leaves (.agg ((L.drop lo).take i ++ List.replicate (M - i) (C.zero u)))) := by
    have e1 : List.replicate (M - i) (C.zero u) = List.replicate n (C.zero u) ++ List.replicate (M - (i + n)) (C.zero u) := by rw [List.replicate_append_replicate]; congr 1; omega
    rw [e1]
    simp only [leaves, leavesL_append, Array.toList_append]
    rw [← List.append_assoc]
    exact (hl2.append (hzr n)).append (hzr (M - (i + n)))
  have hshN : hasSh (.arr M (C.sh u)) (.agg ((L.drop lo).take i ++ List.replicate (M - i) (C.zero u))) := by
    refine ⟨by rw [List.length_append, hli, List.length_replicate]; omega, fun d hd => ?_⟩
    rcases List.mem_append.1 hd with hd | hd
    · exact hl3 d hd
    · rw [List.eq_of_mem_replicate hd]; exact (hT u hub).zsh
  refine ⟨_, _, hR M hge hcm, .slice (some ⟨w.heap.size, 0, none⟩) (i + n) M, _, _, .inl ?_, (Ext.drew ρ w).trans (var_ext ρ w.drew (.arr M (C.sh u)) _), var_real r.drew u rfl hshN hall, ?_⟩
  · rw [execOp, ho]
    simp only [resolve, hb, hts, has, Sem.run_bind, Sem.run_pure, Result.andThen_ok, invoke, builtin, List.map_toArray, List.map_cons, List.map_nil, hyv, hve, hrun]
  · refine .sl (N := M) ?_ (by omega) hge hcm (fun _ => by simp)
    exact var_box r.drew _ _

theorem run_equal_slice_nil {t u : TypeId} (hu : P.underlying t = some (.slice u)) (base : Option Addr) (n c : Nat) : (Op.equal t (.slice base n c) (.slice none 0 0)).run P w = .ok base.isNone w := by
  obtain ⟨k, hk⟩ : ∃ k, Op.maxDepth = k + 1 := ⟨_, rfl⟩
  unfold Op.equal
  rw [hk, Op.equalIn, Sem.run_bind, run_underlying hu]
  cases base <;> rfl
theorem run_bin_slice_nil {t u : TypeId} (hu : P.underlying t = some (.slice u)) (base : Option Addr) (n c : Nat) {op : BinOp} (hop : op = .eql ∨ op = .neq) : (binOp op t (.slice base n c) (.slice none 0 0)).run P w = .ok (.bool (if op = .eql then base.isNone else !base.isNone)) w := by
  have h := run_equal_slice_nil (P := P) (w := w) hu base n c
  rcases hop with rfl | rfl
  · rw [binOp]
    · simp [h]
    all_goals (intros; simp_all)
  · rw [binOp]
    · simp [h]
    all_goals (intros; simp_all)

theorem did_nilcmp (hT : TabOk P C) (r : Real C.sh ρ h w) (he : ∀ x, VV C.sh ρ (a.eval x) (e x)) {op : BinOp} {t t' : TypeId} {x y : Operand} {R : D → Heap → Prop} (ho : o.op = .binOp op t x y t') (hy : isNilC y = true) (hd : nilN C op t h (nrm C t (e x)) R) :
    ∃ d h', R d h' ∧ Did P C o a w ρ h' d := by
  obtain ⟨⟨u, hu⟩, hop, hsl, hR⟩ := hd
  have ht : C.ty t ≠ .bad := by rw [hu]; simp
  have hf := (hT t ht).desc
  rw [hu] at hf
  have hus := hf.2.1
  have hx := vv_nrm (t := t) (he x)
  have hyv : a.eval y = .slice none 0 0 := by
    unfold isNilC at hy
    split at hy
    · rfl
    · cases hy
  have hv : ∃ base n c, a.eval x = .slice base n c ∧ nilOk (nrm C t (e x)) base.isNone := by
    generalize nrm C t (e x) = dx at hx hsl
    cases dx <;> try (cases hsl; done)
    · rcases vv_lst hx with ⟨h1, h2⟩ | ⟨ad, cap, cs, h1, _⟩
      · exact ⟨_, _, _, h1, fun _ => h2⟩
      · exact ⟨_, _, _, h1, fun h => by cases h⟩
    · obtain ⟨B, N, o, h1, _⟩ := vv_sl hx
      exact ⟨_, _, _, h1, rfl⟩
  obtain ⟨base, n, c, hv, hok⟩ := hv
  refine ⟨_, h, hR _ hok, ?_⟩
  refine Did.quiet r (v := .bool (if op = .eql then base.isNone else !base.isNone)) ?_ (.lit _)
  simp only [execOp, ho]
  rw [Sem.run_bind, hv, hyv]
  have hq : ((do eqGuard op t x y (.slice base n c) (.slice none 0 0); binOp op t (.slice base n c) (.slice none 0 0) : Sem Value)).run P w = .ok (.bool (if op = .eql then base.isNone else !base.isNone)) w := by
    rw [Sem.run_bind, run_eqGuard_lit _ _ _ _ _ _ (by simp) (by simp)]
    exact run_bin_slice_nil hus base n c hop
  rw [hq]
  rfl

theorem did_clear (hT : TabOk P C) (r : Real C.sh ρ h w) (he : ∀ x, VV C.sh ρ (a.eval x) (e x)) {t u : TypeId} {cl : Call} {x : Operand} (ho : o.op = .call cl) (hb : cl.callee = .builtin .clear) (hts : cl.argTypes = #[t]) (has : cl.args = #[x])
    (hty : C.ty t = .slice u) {b lo n c N : Nat} {s : Sh} {L : List D} (hxe : nrm C t (e x) = .sl u b lo n c) (hbx : h.boxes[b]? = some (.arr N s, .agg L)) :
    Did P C o a w ρ { h with boxes := h.boxes.set b (.arr N s, .agg (overL L lo (List.replicate n (C.zero u)))) } (.tup []) := by
  have ht : C.ty t ≠ .bad := by rw [hty]; simp
  have hf := (hT t ht).desc
  rw [hty] at hf
  obtain ⟨_, hu, hub, husz⟩ := hf
  have hx := vv_nrm (t := t) (he x)
  have hxr := he x
  have hxl : a.eval x = a.eval x := rfl
  rw [hxe] at hx
  obtain ⟨B, N', oo, hve, hbox, hc, hn, hmm, hoo⟩ := vv_sl hx
  obtain ⟨e1, hsh, _⟩ := real_box r hbox hbx rfl
  cases e1
  obtain ⟨hL, hsL⟩ := hsh
  obtain ⟨z, hz, hvz⟩ := (hT u hub).run_zeroValue w
  have hzc := vv_cells (VV.pure (hvz ρ.S)) (hT u hub).zsh
  have hzs : z.cells.size = (C.sh u).size := by rw [← Array.length_toList, hzc.1]; exact leaves_length (hT u hub).zsh
  have fin : ∀ {w' v}, (Builtin.clear_ #[t] o.type #[a.eval x]).run P w = .ok v w' → (execOp a.eval o).run P w = .ok (.value v) w' := by
    intro w' v hr
    rw [execOp, ho]
    simp only [resolve, hb, hts, has, Sem.run_bind, Sem.run_pure, Result.andThen_ok, invoke, builtin, List.map_toArray, List.map_cons, List.map_nil, hr]
  have htup : VV C.sh ρ (.tuple #[]) (.tup []) := .tup (vs := []) (l := []) rfl (by simp)
  have hzr := zeros_rep (n := n) hzc (leaves_length (hT u hub).zsh) (Builtin.zeroCells z.cells n).toList (by rw [Array.length_toList, size_zeroCells, hzs]) (by
    intro i hi
    simp only [Builtin.zeroCells, hzs, Array.toList_map, Array.toList_range, List.getElem?_map, List.getElem?_range hi, Option.map_some, Array.getElem?_toList]
    have hpos : 0 < (C.sh u).size := Nat.pos_of_ne_zero husz
    have := Nat.mod_lt i hpos
    simp [hzs, this])
  obtain ⟨w', hst, k1, k2⟩ := over_set r (k := lo) hbox hbx hzr (by intro d hd; rw [List.eq_of_mem_replicate hd]; exact (hT u hub).zsh) (by simp; omega)
  by_cases h0 : n = 0
  · subst h0
    have hw : w' = w := by
      have hz0 : (Builtin.zeroCells z.cells 0).toList = [] := List.eq_nil_of_length_eq_zero (by rw [Array.length_toList, size_zeroCells]; simp)
      rw [hz0] at hst
      have h1 : (storeCells (⟨B, lo * (C.sh u).size, none⟩ : Addr) []).run P w = .ok () w' := hst
      simp [storeCells] at h1
      exact h1.symm
    rw [hw] at k1 k2
    clear hst hw
    refine ⟨.tuple #[], ρ, w, .inl (fin ?_), k1, k2, htup⟩
    rw [hve]
    simp [Builtin.clear_, run_underlying hu]
  · have hoo := hoo (by omega)
    subst hoo
    refine ⟨.tuple #[], ρ, w', .inl (fin ?_), k1, k2, htup⟩
    rw [hve]
    simp [Builtin.clear_, run_underlying hu, hz]
    rw [hst]
    rfl

theorem did_makeSlice (hT : TabOk P C) (r : Real C.sh ρ h w) (he : ∀ x, VV C.sh ρ (a.eval x) (e x)) {t u : TypeId} {x y : Operand} (ho : o.op = .makeSlice t x y) (hty : C.ty t = .slice u) {n c : Nat} (hx : e x = .int n) (hy : e y = .int c)
    (hnc : n ≤ c) (hm : c ≤ 9223372036854775807) (hbytes : c * C.bytes u ≤ 281474976710656) :
    Did P C o a w ρ (h.var (.arr c (C.sh u)) (.agg (List.replicate c (C.zero u)))) (.sl u h.boxes.length 0 n c) := by
  have ht : C.ty t ≠ .bad := by rw [hty]; simp
  have hf := (hT t ht).desc
  rw [hty] at hf
  obtain ⟨_, hu, hub, husz⟩ := hf
  obtain ⟨i, z, hi, hsz, hby, hz, hvz⟩ := (hT u hub).info
  have hzc := vv_cells (VV.pure (hvz ρ.S)) (hT u hub).zsh
  have hzs : z.cells.size = (C.sh u).size := by rw [← Array.length_toList, hzc.1]; exact leaves_length (hT u hub).zsh
  have hxv := he x
  have hyv := he y
  rw [hx] at hxv
  rw [hy] at hyv
  have hrun := run_make (P := P) w t u i z hu hi hz .i64 .i64 (n : Int) (c : Int) (by omega) (by omega) (by
    have : (i.bytes : Int) * (c : Int) = ((c * C.bytes u : Nat) : Int) := by rw [hby, Int.natCast_mul, Int.mul_comm]
    rw [this]; omega) (by omega)
  have hpos : 0 < (C.sh u).size := Nat.pos_of_ne_zero husz
  have hzr := zeros_rep (n := c) hzc (leaves_length (hT u hub).zsh) (madeCells z.cells (c * (C.sh u).size)).toList (by simp [madeCells]) (by
    intro j hj
    have := Nat.mod_lt j hpos
    simp only [madeCells, hzs, Array.toList_map, Array.toList_range, List.getElem?_map, List.getElem?_range hj, Option.map_some, Array.getElem?_toList]
    simp [hzs, this])
  refine ⟨.slice (some ⟨w.heap.size, 0, none⟩) n c, ρ.var w.heap.size (.arr c (C.sh u)), w.alloc (.cells (madeCells z.cells (c * (C.sh u).size)) u), .inl ?_, var_ext _ _ _ _, var_real r u rfl ⟨by simp, fun d hd => by rw [List.eq_of_mem_replicate hd]; exact (hT u hub).zsh⟩ (by simpa [leaves] using hzr), .sl (N := c) (var_box r _ _) (by omega) hnc (by simp [maxLen]; omega) (fun _ => by simp)⟩
  rw [execOp, ho]
  simp only [vv_lit hxv, vv_lit hyv]
  have hsz' : i.size = (C.sh u).size := hsz
  simp only [Int.toNat_natCast, hsz'] at hrun
  simp [hrun]

/-- A slice whose cells are written no more. -/
theorem freeze_real (r : Real C.sh ρ h w) {v : Value} {u : TypeId} {b lo n c N : Nat} {s : Sh} {L : List D} (hxv : VV C.sh ρ v (.sl u b lo n c)) (hbx : h.boxes[b]? = some (.arr N s, .agg L))
    (hp : ∀ d ∈ (L.drop lo).take n, pureD d) : ∃ ρ', Ext ρ w ρ' w ∧ Real C.sh ρ' { h with boxes := h.boxes.set b (.obj 0, .tup []) } w ∧ VV C.sh ρ' v (.lst u ((L.drop lo).take n) .no) := by
  obtain ⟨B, N', oo, hve, hbox, hc, hn, hmm, hoo⟩ := vv_sl hxv
  obtain ⟨_, _, hS, _⟩ := r.box b B _ _ _ hbox hbx (by simp)
  obtain ⟨e1, hsh, cc, tt, hw, ha⟩ := real_box r hbox hbx rfl
  cases e1
  obtain ⟨hL, hsL⟩ := hsh
  simp only [leaves] at ha
  obtain ⟨cs, hcs, k1, k2, k3, k4, k5⟩ := block_row (s := C.sh u) hw ha hsL (lo := lo) (n := n) (by omega)
  have hown := r.bown b B _ hbox
  let ρ' : Env := { ρ with S := fun k i => if k = B then cc[i]? else ρ.S k i }
  have hle : ρ.le ρ' := by
    refine ⟨fun k i v hv => ?_, fun _ _ h => h, fun _ _ h => h⟩
    show (if k = B then cc[i]? else ρ.S k i) = some v
    rw [if_neg]
    · exact hv
    · rintro rfl; rw [hS i] at hv; cases hv
  have hreal : Real C.sh ρ' { h with boxes := h.boxes.set b (.obj 0, .tup []) } w := by
    refine ⟨?_, by simp [ρ', r.lenB], r.lenT, r.bown, ?_, r.inj, ?_, r.tinj, r.lt⟩
    · intro k i v hv
      have hv' : (if k = B then cc[i]? else ρ.S k i) = some v := hv
      split at hv'
      · rename_i hk; subst hk; exact ⟨cc, tt, _, hw, hv'⟩
      · exact r.st k i v hv'
    · intro b' B' s1 s2 y hb' hy' hne
      simp only at hy'
      rw [List.getElem?_set] at hy'
      by_cases hbb : b = b'
      · rw [if_pos hbb] at hy'
        split at hy'
        · cases hy'; exact absurd rfl hne
        · cases hy'
      · rw [if_neg hbb] at hy'
        have hBB : B' ≠ B := fun e' => hbb (r.inj b b' B _ s1 hbox (e' ▸ hb'))
        obtain ⟨q1, q2, q4, q5⟩ := r.box b' B' s1 s2 y hb' hy' hne
        refine ⟨q1, q2, ?_, q5.keep hle (fun _ h => h) fun m Bm hm => ⟨fun _ h => h, fun z hz => ?_⟩⟩
        · intro j
          show (if B' = B then cc[j]? else ρ.S B' j) = none
          rw [if_neg hBB]; exact q4 j
        · simp only at hz
          have hmb : b ≠ m := by
            rintro rfl
            rw [hbox] at hm; cases hm
          rw [List.getElem?_set, if_neg hmb] at hz; exact hz
    · intro t B' n' lim ht hl
      obtain ⟨q1, q2, q3, q4⟩ := r.tok t B' n' lim ht hl
      refine ⟨q1, ?_, q3, q4⟩
      intro j hj
      have hBB : B' ≠ B := fun e' => q4 b _ (e' ▸ hbox)
      show (if B' = B then cc[j]? else ρ.S B' j) = none
      rw [if_neg hBB]; exact q2 j hj
  subst hve
  refine ⟨ρ', ⟨hle, rfl, rfl, rfl, Nat.le_refl _, fun _ _ _ => rfl, fun _ _ h => h, fun k i v _ hv => ?_, Nat.le_refl _⟩, hreal, .pure ?_⟩
  · have hv' : (if k = B then cc[i]? else ρ.S k i) = some v := hv
    split at hv'
    · rename_i hk; subst hk; exact .inl hown
    · exact .inr hv'
  · have hpl : ∀ y ∈ leavesL ((L.drop lo).take n), pureD y := by
      intro y hy
      rw [leavesL_flatMap, List.mem_flatMap] at hy
      obtain ⟨z, hz, hy⟩ := hy
      exact pureD_leaves z (hp z hz) y hy
    have key : VP C.sh ρ'.S (.slice (some ⟨B, oo, none⟩) ((L.drop lo).take n).length c) (.lst u ((L.drop lo).take n) .no) := by
      refine .lst cs ?_ k2.1 (fun i c y hc hy => (vp_of_vv (k2.2 i c y hc hy) (hpl y (List.mem_of_getElem? hy))).mono hle.S) k5 (by rw [k4]; exact hn) (by omega) (by simp) (by simp)
      intro i v hv
      have hi := (List.getElem?_eq_some_iff.1 hv).1
      have hn0 : n ≠ 0 := by rintro rfl; rw [k1] at hi; simp at hi
      refine ⟨rfl, ?_⟩
      show (if B = B then cc[oo + i]? else ρ.S B (oo + i)) = some v
      rw [if_pos rfl, hoo (by omega)]
      rw [hcs, List.getElem?_take] at hv
      split at hv
      · rw [List.getElem?_drop] at hv; simpa using hv
      · cases hv
    rwa [k4] at key

end
end Go.Ab
