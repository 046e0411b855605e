/- Each operation does in the machine what is said of it at the level of values (5: composite values, own variables). Conditions: the table fits the program. -/
import Derived.Test.YtehcjnendfpbaaaGreatAbH
import Derived.Laws.Tables
import Derived.Great.FillDense
namespace Go.Ab
section
variable {P : Program} {C : Tab} {ρ : Env} {h : Heap} {w : World} {o : Oper} {a : Act} {e : Operand → D} {d : D}

theorem put_cells (v : Value) (off : Nat) (cells : Array Value) (hle : off + v.cells.size ≤ cells.size) :
    (v.cells.zipIdx.foldl (fun cs (x : Value × Nat) => cs.setIfInBounds (off + x.2) x.1) cells).toList = cells.toList.take off ++ v.cells.toList ++ cells.toList.drop (off + v.cells.size) := by
  obtain ⟨h1, h2⟩ := Great.foldl_set off v.cells.toList 0 cells
  have e1 : v.cells.zipIdx.foldl (fun cs (x : Value × Nat) => cs.setIfInBounds (off + x.2) x.1) cells = (v.cells.toList.zipIdx 0).foldl (fun cs (x : Value × Nat) => cs.setIfInBounds (off + x.2) x.1) cells := by
    rw [← Array.foldl_toList]; simp
  rw [e1]
  apply List.ext_getElem?
  intro k
  rw [Array.getElem?_toList, h2 k]
  simp only [Nat.add_zero, Array.length_toList]
  rcases Nat.lt_or_ge k off with hk | hk
  · rw [if_neg (by omega)]
    rw [List.append_assoc, List.getElem?_append_left (by simp; omega), List.getElem?_take, if_pos hk]; simp
  · rcases Nat.lt_or_ge k (off + v.cells.size) with hk2 | hk2
    · rw [if_pos ⟨hk, hk2, by omega⟩]
      rw [List.append_assoc, List.getElem?_append_right (by simp; omega)]
      rw [List.length_take, Array.length_toList, Nat.min_eq_left (by omega)]
      rw [List.getElem?_append_left (by simp; omega)]
    · rw [if_neg (by omega)]
      rw [List.getElem?_append_right (by simp; omega)]
      simp only [List.length_append, List.length_take, Array.length_toList, Nat.min_eq_left (show off ≤ cells.size by omega), List.getElem?_drop]
      rw [show off + v.cells.size + (k - (off + v.cells.size)) = k by omega]; simp

theorem fill_one {S s' : Sh} {x y : D} {i : Nat} {v : Value} {cells : Array Value} (hx : hasSh S x) (hk : S.kid i = some s') (hv : VV C.sh ρ v y) (hy : hasSh s' y) (ha : All2 (VV C.sh ρ) cells.toList (leaves x)) :
    v.cells.size = s'.size ∧ S.kidOff i + v.cells.size ≤ cells.size ∧ hasSh S (x.setKid i y) ∧
      All2 (VV C.sh ρ) (v.cells.zipIdx.foldl (fun cs (x : Value × Nat) => cs.setIfInBounds (S.kidOff i + x.2) x.1) cells).toList (leaves (x.setKid i y)) := by
  have hvc := vv_cells hv hy
  have h1 : v.cells.size = s'.size := by rw [← Array.length_toList, hvc.1]; exact leaves_length hy
  obtain ⟨z, l, _, _, _, _, hle⟩ := kid_split hx hk
  have h2 : cells.size = S.size := by rw [← Array.length_toList, ha.1]; exact leaves_length hx
  obtain ⟨k1, k2⟩ := kid_set hx hk y hy
  refine ⟨h1, by omega, k1, ?_⟩
  rw [put_cells v _ cells (by omega), k2, h1]
  exact ((ha.take _).append hvc).append (ha.drop _)

theorem fill_parts (hT : TabOk P C) (he : ∀ x, VV C.sh ρ (a.eval x) (e x)) {t : TypeId} {place : Nat → Option (Nat × Nat)} (hp : ∀ i u, C.kidTy t i = some u → place i = some ((C.sh t).kidOff i, (C.sh u).size)) :
    ∀ (parts : List (Nat × Operand)) (cells : Array Value) (x : D), hasSh (C.sh t) x → All2 (VV C.sh ρ) cells.toList (leaves x) → partsOk C t e parts →
      ∃ r, Instr.fill place cells (parts.map fun y => (y.1, a.eval y.2)) = some r ∧ hasSh (C.sh t) (partsIn C t e parts x) ∧ All2 (VV C.sh ρ) r.toList (leaves (partsIn C t e parts x)) := by
  intro parts
  induction parts with
  | nil => intro cells x hx ha _; exact ⟨cells, rfl, hx, ha⟩
  | cons y r ih =>
    intro cells x hx ha hok
    obtain ⟨i, y⟩ := y
    simp only [partsOk] at hok
    obtain ⟨h1, h2⟩ := hok
    cases hk : C.kidTy t i with
    | none => rw [hk] at h1; exact h1.elim
    | some u =>
      rw [hk] at h1
      simp only at h1
      obtain ⟨_, _, hkid, _⟩ := kidTy_kid hT hk
      obtain ⟨k1, k2, k3, k4⟩ := fill_one hx hkid (vv_nrm (he y)) h1 ha
      obtain ⟨r', g1, g2, g3⟩ := ih _ _ k3 k4 h2
      refine ⟨r', ?_, ?_, ?_⟩
      · simp only [List.map_cons, Instr.fill, hp i u hk]
        rw [if_neg (by simp [k1]; omega)]
        exact g1
      · simp only [partsIn, hk, Option.getD_some]; exact g2
      · simp only [partsIn, hk, Option.getD_some]; exact g3

theorem did_build (hT : TabOk P C) (r : Real C.sh ρ h w) (he : ∀ x, VV C.sh ρ (a.eval x) (e x)) {t : TypeId} {parts : Array (Nat × Operand)} (ho : o.op = .build t parts) (ht : C.ty t ≠ .bad)
    (hagg : (C.ty t).isAgg = true) (hok : partsOk C t e parts.toList) : Did P C o a w ρ h (partsIn C t e parts.toList (C.zero t)) := by
  have hf := hT t ht
  obtain ⟨i, z, hi, hsz, hby, hz, hvz⟩ := hf.info
  have hzc := vv_cells (VV.pure (hvz ρ.S)) hf.zsh
  have hd := hf.desc
  have fin : ∀ cells, P.built t (parts.toList.map fun y => (y.1, a.eval y.2)) = some cells → hasSh (C.sh t) (partsIn C t e parts.toList (C.zero t)) →
      All2 (VV C.sh ρ) cells.toList (leaves (partsIn C t e parts.toList (C.zero t))) → Did P C o a w ρ h (partsIn C t e parts.toList (C.zero t)) := by
    intro cells hb hs ha
    obtain ⟨l, hl⟩ := hf.sh_agg hagg hs
    refine Did.quiet r (v := .agg cells) ?_ ?_
    · rw [execOp, ho]
      have hm : (parts.map fun (x : Nat × Operand) => (x.1, a.eval x.2)).toList = parts.toList.map fun y => (y.1, a.eval y.2) := by simp
      have := run_build (P := P) w t (parts.map fun (x : Nat × Operand) => (x.1, a.eval x.2)) cells (by rw [hm]; exact hb)
      simp only [Sem.run_bind, this, Result.andThen_ok, Sem.run_pure]
    · rw [hl] at ha ⊢
      simp only [leaves] at ha
      have := VV.agg (T := C.sh) (ρ := ρ) (cs := cells.toList) (l := l) ha.1 ha.2
      simpa using this
  cases hty : C.ty t <;> rw [hty] at hd hagg <;> first | (simp [Ty.isAgg] at hagg; done) | skip
  · rename_i n u
    obtain ⟨h1, hu, hub, _⟩ := hd
    obtain ⟨iu, _, hiu, hszu, _⟩ := (hT u hub).info
    obtain ⟨rr, g1, g2, g3⟩ := fill_parts (t := t) (place := fun i => some (i * (C.sh u).size, (C.sh u).size)) hT he (by
      intro i u' hk
      simp only [Tab.kidTy, hty] at hk
      split at hk
      · cases hk; rw [h1]; rfl
      · cases hk) parts.toList z.cells (C.zero t) hf.zsh hzc hok
    refine fin rr ?_ g2 g3
    simp only [Program.built, hi, hu, hz, hiu, hszu]
    exact g1
  · rename_i fs
    obtain ⟨h1, flds, hu, hfsz, hsi, hall⟩ := hd
    have hpl : flds.toList.mapM (fun f => (P.info? f.type).map fun i => (f.offset, i.size)) = some (flds.toList.map fun f => (f.offset, (C.sh f.type).size)) := by
      have hall' : ∀ f ∈ flds.toList, (P.info? f.type).map (fun i => (f.offset, i.size)) = some (f.offset, (C.sh f.type).size) := by
        intro f hf'
        obtain ⟨k, hk, rfl⟩ := List.getElem_of_mem hf'
        have hk' : k < flds.size := by simpa using hk
        obtain ⟨k1, k2, k3, k4, k5, k6⟩ := hall k flds[k] (Array.getElem?_eq_getElem hk')
        obtain ⟨iu, _, hiu, hszu, _⟩ := (hT _ k5).info
        rw [Array.getElem_toList]
        simp only [hiu, Option.map_some, hszu]
      generalize flds.toList = L at hall'
      induction L with
      | nil => rfl
      | cons f r ih =>
        simp only [List.mapM_cons, hall' f (by simp), ih (fun g hg => hall' g (by simp [hg]))]
        rfl
    obtain ⟨rr, g1, g2, g3⟩ := fill_parts (t := t) (place := ((flds.toList.map fun f => (f.offset, (C.sh f.type).size)).toArray[·]?)) hT he (by
      intro i u' hk
      simp only [Tab.kidTy, hty] at hk
      have hil : i < flds.size := by rw [hfsz]; exact (List.getElem?_eq_some_iff.1 hk).1
      obtain ⟨k1, k2, k3, k4, k5, k6⟩ := hall i flds[i] (Array.getElem?_eq_getElem hil)
      have hfu : flds[i].type = u' := by rw [hk] at k1; exact (Option.some.inj k1).symm
      simp [hil, k2, hfu]) parts.toList z.cells (C.zero t) hf.zsh hzc hok
    refine fin rr ?_ g2 g3
    simp only [Program.built, hi, hu, hz, hpl]
    exact g1

theorem fill_elems (he : ∀ x, VV C.sh ρ (a.eval x) (e x)) {u : TypeId} {n : Nat} :
    ∀ (parts : List (Nat × Operand)) (cells : Array Value) (l : List D), l.length = n → (∀ x ∈ l, hasSh (C.sh u) x) → (∀ x ∈ l, pureD x) → All2 (VV C.sh ρ) cells.toList (leavesL l) → elemsOk C u n e parts →
      ∃ r, Instr.fill (fun i => some (i * (C.sh u).size, (C.sh u).size)) cells (parts.map fun y => (y.1, a.eval y.2)) = some r ∧ (elemsIn C u e parts l).length = n ∧ (∀ x ∈ elemsIn C u e parts l, hasSh (C.sh u) x) ∧
        (∀ x ∈ elemsIn C u e parts l, pureD x) ∧ All2 (VV C.sh ρ) r.toList (leavesL (elemsIn C u e parts l)) := by
  intro parts
  induction parts with
  | nil => intro cells l h1 h2 h3 h4 _; exact ⟨cells, rfl, h1, h2, h3, h4⟩
  | cons y r ih =>
    intro cells l h1 h2 h3 h4 hok
    obtain ⟨i, y⟩ := y
    simp only [elemsOk] at hok
    obtain ⟨o1, o2, o3, o4⟩ := hok
    have hsl : hasSh (.arr n (C.sh u)) (.agg l) := ⟨h1, h2⟩
    have hkid : (Sh.arr n (C.sh u)).kid i = some (C.sh u) := by simp [Sh.kid, o1]
    obtain ⟨k1, k2, k3, k4⟩ := fill_one hsl hkid (vv_nrm (t := u) (he y)) o2 (by simpa [leaves] using h4)
    simp only [D.setKid, leaves, Sh.kidOff] at k2 k3 k4
    obtain ⟨r', g⟩ := ih _ (l.set i (nrm C u (e y))) k3.1 k3.2 (by
      intro x hx
      rcases List.mem_or_eq_of_mem_set hx with h' | h'
      · exact h3 x h'
      · subst h'; exact o3) k4 o4
    refine ⟨r', ?_, g.2⟩
    simp only [List.map_cons, Instr.fill]
    rw [if_neg (by simp [k1]; omega)]
    exact g.1

theorem zeros_rep {u : TypeId} {z : Value} {n : Nat} (hz : All2 (VV C.sh ρ) z.cells.toList (leaves (C.zero u))) (hl : (leaves (C.zero u)).length = (C.sh u).size) (cells : List Value)
    (hc : cells.length = n * (C.sh u).size) (hg : ∀ i, i < n * (C.sh u).size → cells[i]? = z.cells.toList[i % (C.sh u).size]?) : All2 (VV C.sh ρ) cells (leavesL (List.replicate n (C.zero u))) := by
  have hlen : (leavesL (List.replicate n (C.zero u))).length = n * (C.sh u).size := by
    rw [leavesL_length_const (n := (C.sh u).size) (by intro x hx; rw [List.eq_of_mem_replicate hx]; exact hl), List.length_replicate]
  have hget : ∀ i, i < n * (C.sh u).size → (leavesL (List.replicate n (C.zero u)))[i]? = (leaves (C.zero u))[i % (C.sh u).size]? := by
    clear hc hg hlen
    induction n with
    | zero => intro i hi; simp at hi
    | succ n ih =>
      intro i hi
      simp only [List.replicate_succ, leavesL]
      rcases Nat.lt_or_ge i (C.sh u).size with h1 | h1
      · rw [List.getElem?_append_left (by omega), Nat.mod_eq_of_lt h1]
      · rw [List.getElem?_append_right (by omega), hl]
        rw [Nat.add_mul, Nat.one_mul] at hi
        rw [ih (i - (C.sh u).size) (by omega)]
        rw [Nat.mod_eq_sub_mod h1]
  refine ⟨by rw [hc, hlen], ?_⟩
  intro i c d h1 h2
  have hi : i < n * (C.sh u).size := by rw [← hc]; exact (List.getElem?_eq_some_iff.1 h1).1
  rw [hg i hi] at h1
  rw [hget i hi] at h2
  exact hz.2 _ c d h1 h2

theorem did_buildSlice (hT : TabOk P C) (r : Real C.sh ρ h w) (he : ∀ x, VV C.sh ρ (a.eval x) (e x)) {t u : TypeId} {n : Nat} {parts : Array (Nat × Operand)} (ho : o.op = .buildSlice t n parts) (hty : C.ty t = .slice u)
    (hn : n * (C.sh u).size ≤ 16777216) (hpz : pureD (C.zero u)) (hok : elemsOk C u n e parts.toList) :
    Did P C o a w ρ h (.lst u (elemsIn C u e parts.toList (List.replicate n (C.zero u))) .full) := by
  have ht : C.ty t ≠ .bad := by rw [hty]; simp
  have hf := (hT t ht).desc
  rw [hty] at hf
  obtain ⟨h1, hu, hub, husz⟩ := hf
  have hfu := hT u hub
  obtain ⟨i, z, hi, hsz, hby, hz, hvz⟩ := hfu.info
  have hzc := vv_cells (VV.pure (hvz ρ.S)) hfu.zsh
  have hzl := leaves_length hfu.zsh
  have hzs : z.cells.size = (C.sh u).size := by rw [← Array.length_toList, hzc.1]; exact hzl
  let zc : Array Value := if n * (C.sh u).size = 0 then #[] else z.cells
  let cells : Array Value := (Array.range (n * (C.sh u).size)).map (zc[· % zc.size]!)
  have hcl : cells.toList.length = n * (C.sh u).size := by simp [cells]
  have hcg : ∀ i, i < n * (C.sh u).size → cells.toList[i]? = z.cells.toList[i % (C.sh u).size]? := by
    intro i hi
    have hne : n * (C.sh u).size ≠ 0 := by omega
    have hm : i % (C.sh u).size < (C.sh u).size := Nat.mod_lt _ (by omega)
    simp [cells, zc, hne, hi, hzs, hm]
  have hrep := zeros_rep (u := u) hzc hzl cells.toList hcl hcg
  obtain ⟨rr, g1, g2, g3, g4, g5⟩ := fill_elems (u := u) he parts.toList cells (List.replicate n (C.zero u)) (by simp) (by intro x hx; rw [List.eq_of_mem_replicate hx]; exact hfu.zsh)
    (by intro x hx; rw [List.eq_of_mem_replicate hx]; exact hpz) hrep hok
  have hpl : pureL (elemsIn C u e parts.toList (List.replicate n (C.zero u))) := by
    generalize elemsIn C u e parts.toList (List.replicate n (C.zero u)) = L at g4
    induction L with
    | nil => trivial
    | cons d r ih => exact ⟨g4 d (by simp), ih (fun x hx => g4 x (by simp [hx]))⟩
  refine ⟨.slice (some ⟨w.heap.size, 0, none⟩) n n, ρ.row w.heap.size rr.toList, w.alloc (.cells rr.toList.toArray u), .inl ?_, row_ext r _ _, row_real r _ _, ?_⟩
  · rw [execOp, ho]
    have hm : (parts.map fun (x : Nat × Operand) => (x.1, a.eval x.2)).toList = parts.toList.map fun y => (y.1, a.eval y.2) := by simp
    have hzv : (zeroValue u).run P w = .ok z w := by simp [zeroValue, typeInfo, hi, hz]
    have hm' : (Array.map (fun (x : Nat × Operand) => match x with | (i, x) => (i, a.eval x)) parts).toList = parts.toList.map fun y => (y.1, a.eval y.2) := by simp
    have g1' : Instr.fill (fun i => some (i * (C.sh u).size, (C.sh u).size)) ((Array.range (n * (C.sh u).size)).map (zc[· % zc.size]!)) (parts.toList.map fun y => (y.1, a.eval y.2)) = some rr := g1
    simp only [Instr.buildSlice, Sem.run_bind, run_underlying hu, Result.andThen_ok, hfu.run_sizeOf, if_neg (Nat.not_lt.2 hn)]
    by_cases h0 : n * (C.sh u).size = 0
    · have hz0 : zc = #[] := by simp [zc, h0]
      rw [hz0] at g1'
      rw [if_pos h0]
      simp only [Sem.run_bind, Sem.run_pure, Result.andThen_ok, hm', g1']
      simp [newRow]
    · have hz0 : zc = z.cells := by simp [zc, h0]
      rw [hz0] at g1'
      rw [if_neg h0]
      simp only [Sem.run_bind, Sem.run_pure, Result.andThen_ok, hzv, hm', g1']
      simp [newRow]
  · have hle := row_le r rr.toList
    have key := VP.lst (T := C.sh) (S := (ρ.row w.heap.size rr.toList).S) (a := ⟨w.heap.size, 0, none⟩) (cap := n) (e := u) (l := elemsIn C u e parts.toList (List.replicate n (C.zero u))) (t := .full)
      rr.toList (row_at _ _ _) g5.1 (fun i c x hc hx => (vp_of_vv (g5.2 i c x hc hx) (pureL_leaves _ hpl x (List.mem_of_getElem? hx))).mono hle.S) g3 (by rw [g2]; exact Nat.le_refl _)
      (by
        have : n ≤ n * (C.sh u).size := Nat.le_mul_of_pos_right n (by omega)
        simp only [maxLen]; omega) (by simp) (fun _ => g2.symm)
    rw [g2] at key
    exact .pure key

theorem lenD_sound (hT : TabOk P C) {t : TypeId} {x : D} {v : Value} {tt : TypeId} {ts : Array TypeId} {vs : Array Value} (h0 : ts[0]? = some t) (h1 : vs[0]? = some v) (hv : VV C.sh ρ v x) (hr : Real C.sh ρ h w) (hd : lenD C h t x = some d) :
    ∃ y, (Builtin.len_ ts tt vs).run P w = .ok y w ∧ VV C.sh ρ y d := by
  have ht : C.ty t ≠ .bad := by intro e; simp [lenD, e] at hd
  have hf := (hT t ht).desc
  unfold lenD at hd
  split at hd
  · rename_i kt et hty
    rw [hty] at hf
    unfold lenM at hd
    split at hd
    · cases hd
      refine ⟨.int .i64 0, ?_, .lit _⟩
      simp [Builtin.len_, h0, h1, run_underlying hf.2.1, vv_lit hv, goInt]
    · rename_i b
      split at hd
      · rename_i ks vs g hbx
        cases hd
        obtain ⟨B, rfl, hbox⟩ := vv_mref hv
        obtain ⟨es, clock, k1, k2, k3, k4⟩ := real_map hr hbox hbx
        refine ⟨.int .i64 ks.length, ?_, .lit _⟩
        have : es.size = ks.length := by have := congrArg List.length k3; simpa using this
        simp [Builtin.len_, h0, h1, run_underlying hf.2.1, goInt, getObj, Sem.run, k1, this]
      · cases hd
    · cases hd
  · rename_i hty
    cases hd
    rw [hty] at hf
    refine ⟨.int .i64 _, ?_, .lit _⟩
    simp [Builtin.len_, h0, h1, run_underlying hf.2, vv_lit hv, goInt]
  · rename_i u l tk hty
    cases hd
    rw [hty] at hf
    refine ⟨.int .i64 l.length, ?_, .lit _⟩
    rcases vv_lst hv with ⟨rfl, rfl⟩ | ⟨ad, cap, cs, rfl, _⟩
    · simp [Builtin.len_, h0, h1, run_underlying hf.2.1, goInt]
    · simp [Builtin.len_, h0, h1, run_underlying hf.2.1, goInt]
  · rename_i u e b lo n c hty
    cases hd
    rw [hty] at hf
    refine ⟨.int .i64 n, ?_, .lit _⟩
    obtain ⟨B, N, oo, rfl, _⟩ := vv_sl hv
    simp [Builtin.len_, h0, h1, run_underlying hf.2.1, goInt]
  · rename_i n u hty
    cases hd
    rw [hty] at hf
    refine ⟨.int .i64 n, ?_, .lit _⟩
    simp [Builtin.len_, h0, h1, run_underlying hf.2.1, goInt]
  · cases hd

theorem capD_sound (hT : TabOk P C) {t : TypeId} {x : D} {v : Value} {tt : TypeId} {ts : Array TypeId} {vs : Array Value} (h0 : ts[0]? = some t) (h1 : vs[0]? = some v) (hv : VV C.sh ρ v x) (hd : capD C t x = some d) :
    ∃ y, (Builtin.cap_ ts tt vs).run P w = .ok y w ∧ VV C.sh ρ y d := by
  have ht : C.ty t ≠ .bad := by intro e; simp [capD, e] at hd
  have hf := (hT t ht).desc
  unfold capD at hd
  split at hd
  · rename_i u e b lo n c hty
    cases hd
    rw [hty] at hf
    refine ⟨.int .i64 c, ?_, .lit _⟩
    obtain ⟨B, N, oo, rfl, _⟩ := vv_sl hv
    simp [Builtin.cap_, h0, h1, run_underlying hf.2.1, goInt]
  · rename_i u l hty
    cases hd
    rw [hty] at hf
    refine ⟨.int .i64 _, ?_, .lit _⟩
    rcases vv_lst hv with ⟨rfl, rfl⟩ | ⟨ad, cap, cs, rfl, _, _, _, _, _, _, hfl⟩
    · simp [Builtin.cap_, h0, h1, run_underlying hf.2.1, goInt]
    · simp [Builtin.cap_, h0, h1, run_underlying hf.2.1, goInt, hfl rfl]
  · rename_i n u hty
    cases hd
    rw [hty] at hf
    refine ⟨.int .i64 n, ?_, .lit _⟩
    simp [Builtin.cap_, h0, h1, run_underlying hf.2.1, goInt]
  · cases hd

theorem fold_sound {f : D → D → Option D} {g : Value → Value → Sem Value} (hfg : ∀ {x y r : D} {v u : Value} (w : World), VV C.sh ρ v x → VV C.sh ρ u y → f x y = some r → ∃ z, (g v u).run P w = .ok z w ∧ VV C.sh ρ z r) :
    ∀ {xs : List D} {vs : List Value} {x : D} {v : Value}, VV C.sh ρ v x → All2 (VV C.sh ρ) vs xs → xs.foldlM f x = some d → ∃ z, (vs.foldlM g v).run P w = .ok z w ∧ VV C.sh ρ z d := by
  intro xs
  induction xs with
  | nil =>
    intro vs x v hv ha hd
    have : vs = [] := List.eq_nil_of_length_eq_zero (by simpa using ha.1)
    subst this
    simp at hd; subst hd
    exact ⟨v, by simp, hv⟩
  | cons y r ih =>
    intro vs x v hv ha hd
    cases vs with
    | nil => simp [All2] at ha
    | cons u vs =>
      simp only [List.foldlM_cons, Option.bind_eq_bind, Option.bind_eq_some_iff] at hd
      obtain ⟨m, hm, hd⟩ := hd
      obtain ⟨z, hz, hvz⟩ := hfg w hv ha.head.1 hm
      obtain ⟨z', hz', hvz'⟩ := ih hvz ha.head.2 hd
      exact ⟨z', by simp [hz, hz'], hvz'⟩

theorem max_sound {x y r : D} {v u : Value} (w : World) (hv : VV C.sh ρ v x) (hu : VV C.sh ρ u y) (hd : maxD x y = some r) : ∃ z, (Builtin.max2 v u).run P w = .ok z w ∧ VV C.sh ρ z r := by
  unfold maxD at hd
  split at hd
  case h_2 => cases hd
  split at hd
  case isFalse => cases hd
  rename_i k p k' q hk
  subst hk; cases hd
  refine ⟨.int k (if q > p then q else p), ?_, ?_⟩
  · rw [vv_lit hv, vv_lit hu]; simp [Builtin.max2]
  · have : (if q > p then q else p) = max p q := by split <;> omega
    rw [this]; exact .lit _

theorem min_sound {x y r : D} {v u : Value} (w : World) (hv : VV C.sh ρ v x) (hu : VV C.sh ρ u y) (hd : minD x y = some r) : ∃ z, (Builtin.min2 v u).run P w = .ok z w ∧ VV C.sh ρ z r := by
  unfold minD at hd
  split at hd
  case h_2 => cases hd
  split at hd
  case isFalse => cases hd
  rename_i k p k' q hk
  subst hk; cases hd
  refine ⟨.int k (if q < p then q else p), ?_, ?_⟩
  · rw [vv_lit hv, vv_lit hu]; simp [Builtin.min2]
  · have : (if q < p then q else p) = min p q := by split <;> omega
    rw [this]; exact .lit _

theorem did_builtin (hT : TabOk P C) (r : Real C.sh ρ h w) (he : ∀ x, VV C.sh ρ (a.eval x) (e x)) {c : Call} {b : Builtin} (ho : o.op = .call c) (hc : c.callee = .builtin b)
    (hd : builtinD C h b c.argTypes.toList (c.args.toList.map e) = some d) : Did P C o a w ρ h d := by
  have ha : All2 (VV C.sh ρ) (c.args.toList.map a.eval) (c.args.toList.map e) := by
    refine ⟨by simp, ?_⟩
    intro i x y hx hy
    simp only [List.getElem?_map, Option.map_eq_some_iff] at hx hy
    obtain ⟨p, hp, rfl⟩ := hx
    obtain ⟨q, hq, rfl⟩ := hy
    rw [hp] at hq; cases hq
    exact he p
  have hmap : (c.args.map a.eval).toList = c.args.toList.map a.eval := by simp
  have fin : ∀ (s : Sem Value) v, (∀ cs, builtin b c.argTypes o.type cs (c.args.map a.eval) = (do pure (.value (← s)))) → s.run P w = .ok v w → VV C.sh ρ v d → Did P C o a w ρ h d := by
    intro s v hs hr hv
    refine Did.quiet r (v := v) ?_ hv
    rw [execOp, ho]
    simp only [resolve, hc, Sem.run_bind, Sem.run_pure, Result.andThen_ok, invoke]
    rw [hs]
    simp [hr]
  unfold builtinD at hd
  split at hd
  · split at hd
    · rename_i t ts x xs ht hx
      cases hargs : c.args.toList with
      | nil => rw [hargs] at hx; simp at hx
      | cons p ps =>
        rw [hargs] at hx
        simp only [List.map_cons, List.cons.injEq] at hx
        obtain ⟨rfl, _⟩ := hx
        have h0 : c.argTypes[0]? = some t := by rw [← Array.getElem?_toList, ht]; rfl
        have h1 : (c.args.map a.eval)[0]? = some (a.eval p) := by rw [← Array.getElem?_toList, hmap, hargs]; rfl
        obtain ⟨y, hy, hvy⟩ := lenD_sound (w := w) (tt := o.type) hT h0 h1 (vv_nrm (he p)) r hd
        exact fin _ y (fun _ => rfl) hy hvy
    · cases hd
  · split at hd
    · rename_i t ts x xs ht hx
      cases hargs : c.args.toList with
      | nil => rw [hargs] at hx; simp at hx
      | cons p ps =>
        rw [hargs] at hx
        simp only [List.map_cons, List.cons.injEq] at hx
        obtain ⟨rfl, _⟩ := hx
        have h0 : c.argTypes[0]? = some t := by rw [← Array.getElem?_toList, ht]; rfl
        have h1 : (c.args.map a.eval)[0]? = some (a.eval p) := by rw [← Array.getElem?_toList, hmap, hargs]; rfl
        obtain ⟨y, hy, hvy⟩ := capD_sound (w := w) (tt := o.type) hT h0 h1 (vv_nrm (he p)) hd
        exact fin _ y (fun _ => rfl) hy hvy
    · cases hd
  · cases hargs : c.args.toList with
    | nil => rw [hargs] at hd; simp [foldD] at hd
    | cons p ps =>
      rw [hargs] at hd ha
      simp only [List.map_cons, foldD] at hd ha
      obtain ⟨z, hz, hvz⟩ := fold_sound (w := w) (P := P) (g := Builtin.max2) (fun w => max_sound w) ha.head.1 ha.head.2 hd
      refine fin (Builtin.max_ c.argTypes o.type (c.args.map a.eval)) z (fun _ => rfl) ?_ hvz
      unfold Builtin.max_
      rw [hmap, hargs]
      exact hz
  · cases hargs : c.args.toList with
    | nil => rw [hargs] at hd; simp [foldD] at hd
    | cons p ps =>
      rw [hargs] at hd ha
      simp only [List.map_cons, foldD] at hd ha
      obtain ⟨z, hz, hvz⟩ := fold_sound (w := w) (P := P) (g := Builtin.min2) (fun w => min_sound w) ha.head.1 ha.head.2 hd
      refine fin (Builtin.min_ c.argTypes o.type (c.args.map a.eval)) z (fun _ => rfl) ?_ hvz
      unfold Builtin.min_
      rw [hmap, hargs]
      exact hz
  · cases hd

end
end Go.Ab
