/- Each operation does in the machine what is said of it at the level of values (6: own variables, append; all of them). Conditions: the table fits the program. -/
import Derived.Test.YtehcjnendfpbaaaGreatAbI
namespace Go.Ab
section
variable {P : Program} {C : Tab} {ρ : Env} {h h' : Heap} {w : World} {o : Oper} {a : Act} {e : Operand → D} {d : D}

theorem did_alloc (hT : TabOk P C) (r : Real C.sh ρ h w) {t : TypeId} (ho : o.op = .alloc t) (ht : C.ty t ≠ .bad) : Did P C o a w ρ (h.var (C.sh t) (C.zero t)) (.ptr h.boxes.length []) := by
  have hf := hT t ht
  obtain ⟨z, hz, hvz⟩ := hf.run_zeroValue w
  have hzc := vv_cells (VV.pure (hvz ρ.S)) hf.zsh
  refine ⟨.pointer (some ⟨w.heap.size, 0, none⟩), ρ.var w.heap.size (C.sh t), w.alloc (.cells z.cells t), .inl ?_, var_ext _ _ _ _, var_real r t hf.cellular hf.zsh hzc, ?_⟩
  · rw [execOp, ho]
    simp [Instr.alloc, hz, newVar, newRow]
  · refine VV.ptr (p := []) (B := w.heap.size) (sh := C.sh t) (s := C.sh t) ?_ rfl
    simp [Env.var, r.lenB]

theorem did_box (hT : TabOk P C) (r : Real C.sh ρ h w) (he : ∀ x, VV C.sh ρ (a.eval x) (e x)) {t : TypeId} {x : Operand} (ho : o.op = .box t x) (ht : C.ty t ≠ .bad) (hs : hasSh (C.sh t) (nrm C t (e x))) :
    Did P C o a w ρ (h.var (C.sh t) (nrm C t (e x))) (.ptr h.boxes.length []) := by
  have hc := vv_cells (vv_nrm (t := t) (he x)) hs
  refine ⟨.pointer (some ⟨w.heap.size, 0, none⟩), ρ.var w.heap.size (C.sh t), w.alloc (.cells (a.eval x).cells t), .inl ?_, var_ext _ _ _ _, var_real r t (hT t ht).cellular hs hc, ?_⟩
  · rw [execOp, ho]
    simp [Instr.box, newVar, newRow]
  · refine VV.ptr (p := []) (B := w.heap.size) (sh := C.sh t) (s := C.sh t) ?_ rfl
    simp [Env.var, r.lenB]

theorem did_store (hT : TabOk P C) (r : Real C.sh ρ h w) (he : ∀ x, VV C.sh ρ (a.eval x) (e x)) {t : TypeId} {ad x : Operand} (ho : o.op = .store t ad x) {b : Nat} {p : List Nat} {sh : Sh} {y : D}
    (had : e ad = .ptr b p) (hb : h.boxes[b]? = some (sh, y)) (ht : C.ty t ≠ .bad) (hat : sh.at p = some (C.sh t)) (hs : hasSh (C.sh t) (nrm C t (e x))) :
    Did P C o a w ρ { h with boxes := h.boxes.set b (sh, y.put p (nrm C t (e x))) } (.lit undef) := by
  have h1 := he ad
  rw [had] at h1
  obtain ⟨B, sh', s, hv, hbox, hs'⟩ := vv_ptr h1
  have hcl := Sh.at_cellular hat (hT t ht).cellular
  obtain ⟨rfl, hsh, c, tt, hw, ha⟩ := real_box r hbox hb hcl
  have hx := vv_nrm (t := t) (he x)
  have hxc := vv_cells hx hs
  obtain ⟨z, hz, hsz, hsp, hle⟩ := way_get hsh hat
  have hcs : c.size = sh.size := by rw [← Array.length_toList, ha.1]; exact leaves_length hsh
  have hst := run_storeVar (P := P) (t := t) (w := w) (hT t ht) (B := B) (o := sh.off p) hs hx hw (by omega)
  obtain ⟨k1, k2⟩ := way_put hsh hat _ hs
  refine ⟨undef, ρ, w.setRow B (c.toList.take (sh.off p) ++ (a.eval x).cells.toList ++ c.toList.drop (sh.off p + (C.sh t).size)).toArray, .inr ⟨?_, rfl⟩, ?_, ?_, .lit _⟩
  · rw [execOp, ho]
    simp [Instr.storeAt, Instr.sureAddr, hv, hst]
  · exact box_ext r hbox rfl rfl rfl (by simp) (fun k hk => setRow_other w B k _ hk)
  · refine box_set r hbox hb hcl k1 _ ?_ _ tt (setRow_heap w B c _ tt _ hw) (by simp) (fun k hk => setRow_other w B k _ hk)
    rw [k2]
    exact ((ha.take _).append hxc).append (ha.drop _)

/-- New tokens. -/
def Env.tk (ρ : Env) (x : Option (Nat × Nat × Nat)) : Env := { ρ with tok := ρ.tok ++ [x] }

theorem tok_old {l : List (Option (Nat × Nat × Nat))} {x y : Option (Nat × Nat × Nat)} {t : Nat} (h : (l ++ [x])[t]? = some y) : (l[t]? = some y ∧ t < l.length) ∨ (t = l.length ∧ y = x) := by
  rcases Nat.lt_or_ge t l.length with hlt | hge
  · rw [List.getElem?_append_left hlt] at h; exact .inl ⟨h, hlt⟩
  · rw [List.getElem?_append_right hge] at h
    rcases Nat.eq_or_lt_of_le hge with he | hgt
    · subst he; simp at h; exact .inr ⟨rfl, h.symm⟩
    · rw [List.getElem?_eq_none (by simp; omega)] at h; cases h

theorem bool_old {l : List Bool} {x y : Bool} {t : Nat} (h : (l ++ [x])[t]? = some y) : (l[t]? = some y ∧ t < l.length) ∨ (t = l.length ∧ y = x) := by
  rcases Nat.lt_or_ge t l.length with hlt | hge
  · rw [List.getElem?_append_left hlt] at h; exact .inl ⟨h, hlt⟩
  · rw [List.getElem?_append_right hge] at h
    rcases Nat.eq_or_lt_of_le hge with he | hgt
    · subst he; simp at h; exact .inr ⟨rfl, h.symm⟩
    · rw [List.getElem?_eq_none (by simp; omega)] at h; cases h

theorem cells_rd {T : TypeId → Sh} {l : List D} {u : TypeId} (hs : ∀ d ∈ l, hasSh (T u) d) : (leavesL l).length = l.length * (T u).size :=
  leavesL_length_const fun x hx => leaves_length (hs x hx)

/-- A new block with a list's cells, and room behind: the list's own. -/
theorem own_new (r : Real C.sh ρ h w) {u : TypeId} {l : List D} {cs rest : List Value} {cap : Nat} (hcs : cs.length = (leavesL l).length)
    (hall : ∀ (i : Nat) (c : Value) (y : D), cs[i]? = some c → (leavesL l)[i]? = some y → VP C.sh ρ.S c y) (hs : ∀ d ∈ l, hasSh (C.sh u) d) (hc : l.length ≤ cap) (hm : cap ≤ maxLen)
    (hrest : cs.length + rest.length = cap * (C.sh u).size) (toks : List Bool) (htl : toks.length = h.toks.length) (hto : ∀ t : Nat, toks[t]? = some true → h.toks[t]? = some true) :
    ∃ ρ', Ext ρ w ρ' (w.drew.alloc (.cells (cs ++ rest).toArray u)) ∧ Real C.sh ρ' { h with toks := toks ++ [true] } (w.drew.alloc (.cells (cs ++ rest).toArray u)) ∧
      VV C.sh ρ' (.slice (some ⟨w.heap.size, 0, none⟩) l.length cap) (.lst u l (.own h.toks.length)) := by
  have hle0 : ρ.le (ρ.row w.heap.size cs) := row_le r cs
  let ρ' : Env := { (ρ.row w.heap.size cs) with tok := ρ.tok ++ [some (w.heap.size, l.length * (C.sh u).size, cap * (C.sh u).size)], own := fun b => ρ.own b ∨ b = w.heap.size }
  have hle1 : (ρ.row w.heap.size cs).le ρ' := by
    refine ⟨fun _ _ _ h => h, fun _ _ h => h, ?_⟩
    intro t x hx
    have hx' : ρ.tok[t]? = some x := hx
    show (ρ.tok ++ _)[t]? = some x
    rw [List.getElem?_append_left (List.getElem?_eq_some_iff.1 hx').1]; exact hx'
  have hle := hle0.trans hle1
  have hnew := heap_alloc_new w.drew (.cells (cs ++ rest).toArray u)
  have hold : ∀ k, k < w.heap.size → (w.drew.alloc (.cells (cs ++ rest).toArray u)).heap[k]? = w.heap[k]? := fun k hk => heap_alloc_old w.drew _ k hk
  have hlt : ∀ B, ρ.own B → B < w.heap.size := r.lt
  refine ⟨ρ', ⟨hle, rfl, rfl, rfl, by simp, fun k hk _ => hold k hk, fun k hk ho => ho.elim id (fun h => by omega), (fun B i v hB hv => by
    have hv' : (if B = w.heap.size then cs[i]? else ρ.S B i) = some v := hv
    rw [if_neg (by omega)] at hv'; exact .inr hv'), by first | exact Nat.le_refl _ | exact Nat.le_succ _ | (simp; done)⟩, ?_, ?_⟩
  · refine ⟨?_, r.lenB, by simp [ρ', htl, r.lenT], fun b B sh hb => .inl (r.bown b B sh hb), ?_, r.inj, ?_, ?_, ?_⟩
    · intro B i v hv
      have hv' : (if B = w.heap.size then cs[i]? else ρ.S B i) = some v := hv
      split at hv'
      · rename_i hB
        subst hB
        refine ⟨_, u, (0, 0), hnew, ?_⟩
        have hi := (List.getElem?_eq_some_iff.1 hv').1
        simp [List.getElem?_append_left hi, hv']
      · obtain ⟨c, ee, fr, hb, hcv⟩ := r.st B i v hv'
        exact ⟨c, ee, fr, by rw [hold B (Array.getElem?_eq_some_iff.1 hb).1]; exact hb, hcv⟩
    · intro b B sh sh' x hb hx hne
      obtain ⟨k1, k2, k4, k5⟩ := r.box b B sh sh' x hb hx hne
      have hBlt := hlt B (r.bown b B sh hb)
      refine ⟨k1, k2, ?_, k5.keep hle (fun y hy => by rw [hold B hBlt]; exact hy) fun m Bm hm => ⟨fun y hy => by rw [hold Bm (hlt Bm (r.bown m Bm _ hm))] at hy; exact hy, fun _ h => h⟩⟩
      intro j
      show (if B = w.heap.size then cs[j]? else ρ.S B j) = none
      rw [if_neg (by omega)]; exact k4 j
    · intro t B n lim ht hl
      rcases tok_old ht with ⟨h1, h2⟩ | ⟨h1, h2⟩
      · rcases bool_old hl with ⟨h3, h4⟩ | ⟨h3, _⟩
        · obtain ⟨k1, k2, ⟨c, ee, k3, k4⟩, k5⟩ := r.tok t B n lim h1 (hto t h3)
          have hBlt := hlt B k1
          refine ⟨.inl k1, ?_, ⟨c, ee, by rw [hold B hBlt]; exact k3, k4⟩, k5⟩
          intro j hj
          show (if B = w.heap.size then cs[j]? else ρ.S B j) = none
          rw [if_neg (by omega)]; exact k2 j hj
        · have := r.lenT; omega
      · cases h2
        refine ⟨.inr rfl, ?_, ⟨_, u, hnew, by simp only [List.size_toArray, List.length_append]; exact hrest⟩, ?_⟩
        · intro j hj
          show (if w.heap.size = w.heap.size then cs[j]? else ρ.S w.heap.size j) = none
          rw [if_pos rfl]
          exact List.getElem?_eq_none (by rw [hcs, cells_rd hs]; exact hj)
        · intro b sh hb
          have := hlt _ (r.bown b _ sh hb)
          omega
    · intro t t' B n n' lim lim' ht ht' hl hl'
      rcases tok_old ht with ⟨h1, h2⟩ | ⟨h1, h2⟩ <;> rcases tok_old ht' with ⟨g1, g2⟩ | ⟨g1, g2⟩
      · rcases bool_old hl with ⟨h3, _⟩ | ⟨h3, _⟩ <;> rcases bool_old hl' with ⟨g3, _⟩ | ⟨g3, _⟩
        · exact r.tinj t t' B n n' lim lim' h1 g1 (hto t h3) (hto t' g3)
        all_goals (have := r.lenT; omega)
      · cases g2
        rcases bool_old hl with ⟨h3, _⟩ | ⟨h3, _⟩
        · have := hlt _ (r.tok t _ _ _ h1 (hto t h3)).1; omega
        · have := r.lenT; omega
      · cases h2
        rcases bool_old hl' with ⟨h3, _⟩ | ⟨h3, _⟩
        · have := hlt _ (r.tok t' _ _ _ g1 (hto t' h3)).1; omega
        · have := r.lenT; omega
      · omega
    · intro B hB
      rcases hB with hB | hB
      · have := hlt B hB; simp; omega
      · subst hB; simp
  · refine .own (o := 0) ?_ (fun _ => ⟨(Nat.zero_add _).symm, (Nat.zero_add _).symm⟩) ?_
    · show (ρ.tok ++ _)[h.toks.length]? = _
      rw [r.lenT]; simp
    · refine .lst cs ?_ hcs (fun i c y hc hy => (hall i c y hc hy).mono hle.S) hs hc hm (by simp) (by simp)
      exact row_at ρ w.heap.size cs

/-- More is written into the room behind an own list. -/
theorem own_more (r : Real C.sh ρ h w) {u : TypeId} {l m : List D} {B o q lim cap id : Nat} {cs : List Value} (htk : ρ.tok[id]? = some (some (B, q, lim))) (hq : q = o + l.length * (C.sh u).size) (hlm : lim = o + cap * (C.sh u).size) (hlive : h.toks[id]? = some true)
    (hv : VP C.sh ρ.S (.slice (some ⟨B, o, none⟩) l.length cap) (.lst u l .no)) (hcs : cs.length = (leavesL m).length)
    (hall : ∀ (i : Nat) (c : Value) (y : D), cs[i]? = some c → (leavesL m)[i]? = some y → VP C.sh ρ.S c y) (hs : ∀ d ∈ m, hasSh (C.sh u) d) (hc : l.length + m.length ≤ cap) {cur : Array Value} {tt : TypeId}
    (hcur : w.heap[B]? = some (.cells cur tt (0, 0))) :
    ∃ ρ', Ext ρ w ρ' (w.setRow B (cur.toList.take (q) ++ cs ++ cur.toList.drop (q + cs.length)).toArray) ∧
      Real C.sh ρ' { h with toks := h.toks.set id false ++ [true] } (w.setRow B (cur.toList.take (q) ++ cs ++ cur.toList.drop (q + cs.length)).toArray) ∧
      VV C.sh ρ' (.slice (some ⟨B, o, none⟩) (l ++ m).length cap) (.lst u (l ++ m) (.own h.toks.length)) := by
  obtain ⟨t1, t2, ⟨c0, e0, t3, t4⟩, t5⟩ := r.tok id B _ _ htk hlive
  rw [hcur] at t3; cases t3
  have hcl : cs.length = m.length * (C.sh u).size := by rw [hcs, cells_rd hs]
  have hfit : q + cs.length ≤ cur.size := by
    rw [t4, hcl, hq, hlm, Nat.add_assoc, ← Nat.add_mul]; exact Nat.add_le_add_left (Nat.mul_le_mul_right _ hc) _
  generalize hrow : (cur.toList.take (q) ++ cs ++ cur.toList.drop (q + cs.length)).toArray = row
  have hget : ∀ j, row[j]? = if q ≤ j ∧ j < q + cs.length then cs[j - q]? else cur[j]? := by
    intro j
    subst hrow
    simp only [List.getElem?_toArray]
    rcases Nat.lt_or_ge j (q) with hj | hj
    · rw [if_neg (by omega), List.append_assoc, List.getElem?_append_left (by simp; omega), List.getElem?_take, if_pos hj]; simp
    · rcases Nat.lt_or_ge j (q + cs.length) with hj2 | hj2
      · have hlt : (cur.toList.take (q)).length = q := by simp; omega
        rw [if_pos ⟨hj, hj2⟩, List.append_assoc, List.getElem?_append_right (by omega), hlt, List.getElem?_append_left (by omega)]
      · rw [if_neg (by omega), List.getElem?_append_right (by simp; omega)]
        simp only [List.length_append, List.length_take, Array.length_toList, Nat.min_eq_left (show q ≤ cur.size by omega), List.getElem?_drop]
        rw [show q + cs.length + (j - (q + cs.length)) = j by omega]; simp
  have hrsz : row.size = cur.size := by
    subst hrow
    simp only [List.size_toArray, List.length_append, List.length_take, List.length_drop, Array.length_toList]
    omega
  have hnew := setRow_heap w B cur row tt _ hcur
  have hold : ∀ k, k ≠ B → (w.setRow B row).heap[k]? = w.heap[k]? := fun k hk => setRow_other w B k row hk
  let ρ' : Env := { S := fun b i => if b = B ∧ q ≤ i ∧ i < q + cs.length then cs[i - q]? else ρ.S b i,
                    box := ρ.box, tok := ρ.tok ++ [some (B, o + (l ++ m).length * (C.sh u).size, lim)], own := ρ.own }
  have hle : ρ.le ρ' := by
    refine ⟨?_, fun _ _ h => h, ?_⟩
    · intro b i v hbv
      show (if b = B ∧ _ then _ else ρ.S b i) = some v
      rw [if_neg]
      · exact hbv
      · rintro ⟨rfl, h1, _⟩
        rw [t2 i h1] at hbv; cases hbv
    · intro t x hx
      show (ρ.tok ++ _)[t]? = some x
      rw [List.getElem?_append_left (List.getElem?_eq_some_iff.1 hx).1]; exact hx
  have hlen2 : o + (l ++ m).length * (C.sh u).size = q + cs.length := by rw [List.length_append, Nat.add_mul, hcl, hq, Nat.add_assoc]
  have hidlt : id < h.toks.length := (List.getElem?_eq_some_iff.1 hlive).1
  have hto : ∀ t : Nat, (h.toks.set id false)[t]? = some true → h.toks[t]? = some true ∧ t ≠ id := by
    intro t ht
    rw [List.getElem?_set] at ht
    by_cases hti : id = t
    · rw [if_pos hti] at ht; split at ht <;> cases ht
    · rw [if_neg hti] at ht; exact ⟨ht, fun h => hti h.symm⟩
  refine ⟨ρ', ⟨hle, rfl, rfl, rfl, by simp, fun k _ hk => hold k (fun e => hk (e ▸ t1)), fun _ _ h => h, (fun b i v _ hv => by
    have hv' : (if b = B ∧ q ≤ i ∧ i < q + cs.length then cs[i - q]? else ρ.S b i) = some v := hv
    split at hv'
    · rename_i hc'; exact .inl (hc'.1 ▸ t1)
    · exact .inr hv'), by first | exact Nat.le_refl _ | exact Nat.le_succ _ | (simp; done)⟩, ?_, ?_⟩
  · refine ⟨?_, r.lenB, by simp [ρ', r.lenT], r.bown, ?_, r.inj, ?_, ?_, ?_⟩
    · intro b i v hbv
      have hbv' : (if b = B ∧ q ≤ i ∧ i < q + cs.length then cs[i - q]? else ρ.S b i) = some v := hbv
      split at hbv'
      · rename_i hc'
        obtain ⟨rfl, h1, h2⟩ := hc'
        exact ⟨row, tt, _, hnew, by rw [hget, if_pos ⟨h1, h2⟩]; exact hbv'⟩
      · rename_i hc'
        by_cases hbB : b = B
        · subst hbB
          obtain ⟨c, ee, fr, hb1, hb2⟩ := r.st b i v hbv'
          rw [hcur] at hb1; cases hb1
          exact ⟨row, tt, _, hnew, by rw [hget, if_neg (fun hh => hc' ⟨rfl, hh⟩)]; exact hb2⟩
        · obtain ⟨c, ee, fr, hb1, hb2⟩ := r.st b i v hbv'
          exact ⟨c, ee, fr, by rw [hold b hbB]; exact hb1, hb2⟩
    · intro b B' sh sh' x hb hx hne0
      obtain ⟨k1, k2, k4, k5⟩ := r.box b B' sh sh' x hb hx hne0
      have hne : B' ≠ B := fun e => t5 b sh (e ▸ hb)
      refine ⟨k1, k2, ?_, k5.keep hle (fun y hy => by rw [hold B' hne]; exact hy) fun m Bm hm => ⟨fun y hy => by rw [hold Bm (fun e => t5 m _ (e ▸ hm))] at hy; exact hy, fun _ h => h⟩⟩
      intro j
      show (if B' = B ∧ _ then _ else ρ.S B' j) = none
      rw [if_neg (fun hh => hne hh.1)]; exact k4 j
    · intro t B' n lim ht hl
      rcases tok_old ht with ⟨h1, h2⟩ | ⟨h1, h2⟩
      · rcases bool_old hl with ⟨h3, h4⟩ | ⟨h3, _⟩
        · obtain ⟨h3, hne⟩ := hto t h3
          obtain ⟨k1, k2, ⟨c, ee, k3, k4⟩, k5⟩ := r.tok t B' n lim h1 h3
          have hBne : B' ≠ B := fun e => hne (r.tinj t id B n _ lim _ (e ▸ h1) htk h3 hlive)
          refine ⟨k1, ?_, ⟨c, ee, by rw [hold B' hBne]; exact k3, k4⟩, k5⟩
          intro j hj
          show (if B' = B ∧ _ then _ else ρ.S B' j) = none
          rw [if_neg (fun hh => hBne hh.1)]; exact k2 j hj
        · have := r.lenT; simp at h3; omega
      · cases h2
        refine ⟨t1, ?_, ⟨row, tt, hnew, by rw [hrsz]; exact t4⟩, t5⟩
        intro j hj
        rw [hlen2] at hj
        show (if B = B ∧ _ then _ else ρ.S B j) = none
        rw [if_neg (by omega)]
        exact t2 j (by omega)
    · intro t t' B' n n' lim lim' ht ht' hl hl'
      have livel : ∀ t : Nat, t < ρ.tok.length → (h.toks.set id false ++ [true])[t]? = some true → h.toks[t]? = some true ∧ t ≠ id := by
        intro t htl hlv
        rcases bool_old hlv with ⟨h3, _⟩ | ⟨h3, _⟩
        · exact hto t h3
        · have := r.lenT; simp at h3; omega
      rcases tok_old ht with ⟨h1, h2⟩ | ⟨h1, h2⟩ <;> rcases tok_old ht' with ⟨g1, g2⟩ | ⟨g1, g2⟩
      · exact r.tinj t t' B' n n' lim lim' h1 g1 (livel t h2 hl).1 (livel t' g2 hl').1
      · cases g2
        obtain ⟨h3, hne⟩ := livel t h2 hl
        exact absurd (r.tinj t id B n _ lim _ h1 htk h3 hlive) hne
      · cases h2
        obtain ⟨h3, hne⟩ := livel t' g2 hl'
        exact absurd (r.tinj t' id B n' _ lim' _ g1 htk h3 hlive) hne
      · omega
    · intro B' hB'; simp; exact r.lt B' hB'
  · rcases vp_lst hv with ⟨hh, _⟩ | ⟨ad, cap', cs0, k1, k2, k3, k4, k5, k6, k7, k8⟩
    · cases hh
    · simp only [Value.slice.injEq, Option.some.injEq] at k1
      obtain ⟨rfl, -, rfl⟩ := k1
      refine .own ?_ (fun _ => ⟨rfl, hlm⟩) ?_
      · show (ρ.tok ++ _)[h.toks.length]? = _
        rw [r.lenT]; simp
      · have h0l : cs0.length = l.length * (C.sh u).size := by rw [k3, cells_rd k5]
        refine .lst (cs0 ++ cs) ?_ (by rw [List.length_append, leavesL_append, List.length_append, k3, hcs]) ?_ ?_ (by rw [List.length_append]; exact hc) k7 (by simp) (by simp)
        · intro i c hic
          refine ⟨rfl, ?_⟩
          show (if B = B ∧ q ≤ o + i ∧ o + i < q + cs.length then cs[o + i - q]? else ρ.S B (o + i)) = some c
          rcases Nat.lt_or_ge i cs0.length with hi | hi
          · rw [List.getElem?_append_left hi] at hic
            rw [if_neg (by omega)]
            exact (k2 i c hic).2
          · rw [List.getElem?_append_right hi, h0l] at hic
            have hi2 := (List.getElem?_eq_some_iff.1 hic).1
            rw [if_pos ⟨rfl, by omega, by omega⟩, show o + i - q = i - l.length * (C.sh u).size by omega]; exact hic
        · intro i c y hic hy
          rw [leavesL_append] at hy
          rcases Nat.lt_or_ge i cs0.length with hi | hi
          · rw [List.getElem?_append_left hi] at hic
            rw [List.getElem?_append_left (by omega)] at hy
            exact (k4 i c y hic hy).mono hle.S
          · rw [List.getElem?_append_right hi] at hic
            rw [List.getElem?_append_right (by omega), ← k3] at hy
            exact (hall _ c y hic hy).mono hle.S
        · intro x hx
          rcases List.mem_append.1 hx with hx | hx
          · exact k5 x hx
          · exact hs x hx

theorem did_append (hT : TabOk P C) (r : Real C.sh ρ h w) (he : ∀ x, VV C.sh ρ (a.eval x) (e x)) {t u : TypeId} {c : Call} {x y : Operand} (ho : o.op = .call c) (hb : c.callee = .builtin .append) (hts : c.argTypes = #[t, t]) (has : c.args = #[x, y])
    (hty : C.ty t = .slice u) (hd : appendD C u h (nrm C t (e x)) (nrm C t (e y)) d h') : Did P C o a w ρ h' d := by
  have ht : C.ty t ≠ .bad := by rw [hty]; simp
  have hf := (hT t ht).desc
  rw [hty] at hf
  obtain ⟨_, hu, hub, husz⟩ := hf
  obtain ⟨i, z, hi, hsz, hby, hz, hvz⟩ := (hT u hub).info
  have hzs : z.cells.size = (C.sh u).size := by
    rw [← Array.length_toList, (vv_cells (VV.pure (hvz ρ.S)) (hT u hub).zsh).1]; exact leaves_length (hT u hub).zsh
  have hx := vv_nrm (t := t) (he x)
  have hy := vv_nrm (t := t) (he y)
  obtain ⟨l, m, tk, tk', ex, ey, hbp, hlen, htk, hcase⟩ := hd
  rw [ex] at hx
  rw [ey] at hy
  have fin : ∀ {v w' ρ'}, (Builtin.append_ #[t, t] o.type #[a.eval x, a.eval y]).run P w = .ok v w' → Ext ρ w ρ' w' → Real C.sh ρ' h' w' → VV C.sh ρ' v d → Did P C o a w ρ h' d := by
    intro v w' ρ' hr h1 h2 h3
    refine ⟨v, ρ', w', .inl ?_, h1, h2, h3⟩
    rw [execOp, ho]
    simp only [resolve, hb, hts, has, Sem.run_bind, Sem.run_pure, Result.andThen_ok, invoke, builtin, List.map_toArray, List.map_cons, List.map_nil, hr]
  have hszi : i.size = (C.sh u).size := hsz
  -- the list that is added
  rcases hcase with ⟨hm, rfl, rfl⟩ | ⟨rfl, rfl, rfl⟩
  · -- something is added
    rcases vv_lst hy with ⟨_, h0⟩ | ⟨ad, cy, csy, hvy, rowy, ly, ally, shy, _⟩
    · exact absurd h0 hm
    have hlm : csy.length = m.length * i.size := by rw [ly, hszi, cells_rd shy]
    have rdy := rd_of_row r rowy
    have rdyd : ∀ (j : Nat) (v : Value), csy[j]? = some v → w.cell? (ad.add j) = some v := rdy
    have hmpos : 0 < m.length := List.length_pos_iff.2 hm
    have hbytes : (l.length + m.length) * i.bytes ≤ 140737488355328 := by rw [hby]; exact hlen
    have hmax : l.length + m.length ≤ 9223372036854775807 := by
      have := Nat.le_mul_of_pos_right (l.length + m.length) hbp
      omega
    have grow : ∀ (old : Nat) (csl : List Value), old < l.length + m.length → csl.length = (leavesL l).length → (∀ (i : Nat) (c : Value) (y : D), csl[i]? = some c → (leavesL l)[i]? = some y → VP C.sh ρ.S c y) → (∀ d ∈ l, hasSh (C.sh u) d) →
        ∀ toks : List Bool, toks.length = h.toks.length → (∀ t : Nat, toks[t]? = some true → h.toks[t]? = some true) →
        ∃ ρ', Ext ρ w ρ' (w.drew.alloc (.cells ((csl.toArray ++ csy.toArray ++ Builtin.zeroCells z.cells (grownCap w (l.length + m.length) old u - (l.length + m.length)))) u)) ∧
          Real C.sh ρ' { h with toks := toks ++ [true] } (w.drew.alloc (.cells ((csl.toArray ++ csy.toArray ++ Builtin.zeroCells z.cells (grownCap w (l.length + m.length) old u - (l.length + m.length)))) u)) ∧
          VV C.sh ρ' (.slice (some ⟨w.heap.size, 0, none⟩) (l.length + m.length) (grownCap w (l.length + m.length) old u)) (.lst u (l ++ m) (.own h.toks.length)) := by
      intro old csl ho hl1 hl2 hl3 toks htl hto
      have hge := grownCap_ge w (l.length + m.length) old u
      have hcm := grownCap_le_maxLen w (l.length + m.length) old u hmax
      have hcsl : csl.length = l.length * (C.sh u).size := by rw [hl1, cells_rd hl3]
      have hcsm : csy.length = m.length * (C.sh u).size := by rw [ly, cells_rd shy]
      obtain ⟨ρ', g1, g2, g3⟩ := own_new r (u := u) (l := l ++ m) (cs := csl ++ csy) (rest := (Builtin.zeroCells z.cells (grownCap w (l.length + m.length) old u - (l.length + m.length))).toList) (cap := grownCap w (l.length + m.length) old u)
        (by rw [List.length_append, leavesL_append, List.length_append, hl1, ly]) (by
          intro i c y hc hy
          rw [leavesL_append] at hy
          rcases Nat.lt_or_ge i csl.length with hi | hi
          · rw [List.getElem?_append_left hi] at hc
            rw [List.getElem?_append_left (by omega)] at hy
            exact hl2 i c y hc hy
          · rw [List.getElem?_append_right hi] at hc
            rw [List.getElem?_append_right (by omega), ← hl1] at hy
            exact ally _ c y hc hy) (by
          intro x hx
          rcases List.mem_append.1 hx with hx | hx
          · exact hl3 x hx
          · exact shy x hx) (by rw [List.length_append]; exact hge) hcm (by
          have hzl : (Builtin.zeroCells z.cells (grownCap w (l.length + m.length) old u - (l.length + m.length))).toList.length = (grownCap w (l.length + m.length) old u - (l.length + m.length)) * (C.sh u).size := by
            rw [Array.length_toList, size_zeroCells, hzs]
          rw [hzl, List.length_append, hcsl, hcsm, ← Nat.add_mul, ← Nat.add_mul]
          congr 1; omega) toks htl hto
      have hcells : (csl ++ csy ++ (Builtin.zeroCells z.cells (grownCap w (l.length + m.length) old u - (l.length + m.length))).toList).toArray =
          csl.toArray ++ csy.toArray ++ Builtin.zeroCells z.cells (grownCap w (l.length + m.length) old u - (l.length + m.length)) := by
        apply Array.ext'; simp
      rw [hcells] at g1 g2
      rw [List.length_append] at g3
      exact ⟨ρ', g1, g2, g3⟩
    have hgrowing : ∀ {ad2 : Addr} {cap : Nat} {csl : List Value}, a.eval x = .slice (some ad2) l.length cap → cap < l.length + m.length → RowAt ρ.S ad2 csl → csl.length = (leavesL l).length →
        (∀ d ∈ l, hasSh (C.sh u) d) → (Builtin.append_ #[t, t] o.type #[a.eval x, a.eval y]).run P w = .ok (.slice (some ⟨w.heap.size, 0, none⟩) (l.length + m.length) (grownCap w (l.length + m.length) cap u))
          (w.drew.alloc (.cells (csl.toArray ++ csy.toArray ++ Builtin.zeroCells z.cells (grownCap w (l.length + m.length) cap u - (l.length + m.length))) u)) := by
      intro ad2 cap csl hv hcap hrow hl1 hl3
      rw [hv, hvy]
      exact run_append_grow (P := P) w t o.type u i z hu hi hz ad2 l.length cap csl (by rw [hl1, hszi, cells_rd hl3]) (rd_of_row r hrow) ad m.length cy csy hlm rdyd hcap (by omega) (growslice_fits (by omega) hbytes)
    have hnil : l = [] → a.eval x = .slice none 0 0 → (Builtin.append_ #[t, t] o.type #[a.eval x, a.eval y]).run P w = .ok (.slice (some ⟨w.heap.size, 0, none⟩) (l.length + m.length) (grownCap w (l.length + m.length) 0 u))
          (w.drew.alloc (.cells (([] : List Value).toArray ++ csy.toArray ++ Builtin.zeroCells z.cells (grownCap w (l.length + m.length) 0 u - (l.length + m.length))) u)) := by
      intro hl hv
      subst hl
      rw [hv, hvy]
      simp only [List.length_nil, Nat.zero_add] at hmax hbytes ⊢
      have := run_append_nil (P := P) w t o.type u i z hu hi hz ad m.length cy csy hlm rdyd hmpos (by omega) (by omega)
      simpa using this
    cases tk with
    | no => exact htk.elim
    | full =>
      rcases vv_lst hx with ⟨hv, hl⟩ | ⟨ad2, cap, csl, hv, hrow, hl1, hl2, hl3, hl4, hl5, hl6⟩
      · obtain ⟨ρ', g1, g2, g3⟩ := grow 0 [] (by omega) (by subst hl; rfl) (by simp) (by subst hl; simp) h.toks rfl (fun _ h => h)
        exact fin (hnil hl hv) g1 g2 g3
      · have := hl6 rfl
        subst this
        obtain ⟨ρ', g1, g2, g3⟩ := grow l.length csl (by omega) hl1 hl2 hl3 h.toks rfl (fun _ h => h)
        exact fin (hgrowing hv (by omega) hrow hl1 hl3) g1 g2 g3
    | own id =>
      have hto : ∀ t : Nat, (h.toks.set id false)[t]? = some true → h.toks[t]? = some true := by
        intro t ht
        rw [List.getElem?_set] at ht
        by_cases hti : id = t
        · rw [if_pos hti] at ht; split at ht <;> cases ht
        · rw [if_neg hti] at ht; exact ht
      rcases vv_own hx with ⟨hv, hl, _⟩ | ⟨B, o2, q2, lim2, cap, hv, htk2, hnn, hvp⟩
      · obtain ⟨ρ', g1, g2, g3⟩ := grow 0 [] (by omega) (by subst hl; rfl) (by simp) (by subst hl; simp) (h.toks.set id false) (by simp) hto
        exact fin (hnil hl hv) g1 g2 g3
      · rcases vp_lst hvp with ⟨hh, _⟩ | ⟨ad2, cap', csl, k1, hrow, hl1, hl2, hl3, hl4, hl5, hl6⟩
        · cases hh
        simp only [Value.slice.injEq, Option.some.injEq] at k1
        obtain ⟨rfl, -, rfl⟩ := k1
        by_cases hroom : l.length + m.length ≤ cap
        · obtain ⟨t1, t2, ⟨cur, tt, t3, t4⟩, t5⟩ := r.tok id B _ _ htk2 htk
          obtain ⟨hq2, hlm2⟩ := hnn (by omega)
          obtain ⟨ρ', g1, g2, g3⟩ := own_more r htk2 hq2 hlm2 htk hvp ly ally shy hroom t3
          rw [List.length_append] at g3
          refine fin ?_ g1 g2 g3
          have hfit : q2 + csy.length ≤ cur.size := by
            rw [t4, ly, cells_rd shy, hq2, hlm2, Nat.add_assoc, ← Nat.add_mul]; exact Nat.add_le_add_left (Nat.mul_le_mul_right _ hroom) _
          have hfc := run_firstCells_some (P := P) w (C.sh u).size m.length ad m.length cy csy (by rw [hlm, hszi]) rdyd
          have hone : ∀ v ∈ csy, v.oneCell' = true := by
            have hsl : hasSh (.arr m.length (C.sh u)) (.agg m) := ⟨rfl, shy⟩
            exact cells_one (T := C.sh) (ρ := ρ) hsl ⟨by simpa [leaves] using ly, fun i c d hc hd => .pure (ally i c d hc (by simpa [leaves] using hd))⟩
          have hst := run_storeCells_at P B q2 tt csy 0 cur w t3 (by omega) hone
          simp only [Nat.add_zero] at hst
          rw [hv, hvy]
          have hadd : (⟨B, o2, none⟩ : Addr).add (l.length * (C.sh u).size) = ⟨B, q2, none⟩ := by rw [addr_add _ _ rfl, hq2]
          simp [Builtin.append_, run_underlying hu, (hT u hub).run_sizeOf, Builtin.lenOf, hroom, hfc, hadd, hst]
        · obtain ⟨ρ', g1, g2, g3⟩ := grow cap csl (by omega) hl1 hl2 hl3 (h.toks.set id false) (by simp) hto
          exact fin (hgrowing hv (by omega) hrow hl1 hl3) g1 g2 g3
  · -- nothing is added
    have hzero : ∀ base n cap, a.eval x = .slice base n cap → n ≤ cap → (Builtin.append_ #[t, t] o.type #[a.eval x, a.eval y]).run P w = .ok (a.eval x) w := by
      intro base n cap hv hle
      rcases vv_lst hy with ⟨hvy, _⟩ | ⟨ad, cy, csy, hvy, _⟩
      · rw [hv, hvy]
        cases base <;> simp [Builtin.append_, run_underlying hu, (hT u hub).run_sizeOf, Builtin.lenOf, hle, Builtin.firstCells, storeCells]
      · rw [hv, hvy]
        cases base <;> simp [Builtin.append_, run_underlying hu, (hT u hub).run_sizeOf, Builtin.lenOf, hle, Builtin.firstCells, storeCells, loadCells, loadCellsFrom]
    have hx' : VV C.sh ρ (a.eval x) (nrm C t (e x)) := by rw [ex]; exact hx
    rcases vv_lst hx with ⟨hv, _⟩ | ⟨ad2, cap, csl, hv, _, _, _, _, hl4, _⟩
    · exact fin (hzero _ _ _ hv (Nat.le_refl _)) (.refl _ _) r hx'
    · exact fin (hzero _ _ _ hv hl4) (.refl _ _) r hx'

end
end Go.Ab
