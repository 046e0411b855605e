/- The library's sort of numbers, as a function of data: the shelf's contract, laid. Conditions: none. -/
import Derived.Test.YtnagdbamieahgaaAbP
import Derived.Shelf.Sort.Plain
import Derived.Shelf.Slices.In.SortNone
set_option linter.unusedSimpArgs false
namespace Go.Ab
open Go.Proofs

def sortLay_ren : Go.Shelf.Ren := ⟨fun | 189 => 60 | 125 => 91 | 257 => 90 | 128 => 120 | 129 => 121 | 294 => 111 | 295 => 112 | 296 => 113 | 297 => 114 | 298 => 115 | 299 => 116 | 216 => 117 | 300 => 118 | 301 => 119 | 328 => 132 | 329 => 133 | 330 => 134 | 331 => 135 | 332 => 136 | 215 => 126 | 343 => 152 | n => n, fun | 28 => 25 | 3 => 3 | 46 => 124 | 0 => 0 | 51 => 145 | 53 => 147 | 4 => 4 | 183 => 137 | 182 => 136 | 131 => 142 | 5 => 5 | 9 => 9 | 218 => 156 | 222 => 160 | 228 => 173 | 229 => 174 | n => n, fun | n => n⟩
theorem sortLay : Go.Proofs.Lays.n189 Try.prog sortLay_ren where
  mixed := by kernel_rfl
  f125 := Try.func91.trans (congrArg some (by kernel_rfl))
  f128 := Try.func120.trans (congrArg some (by kernel_rfl))
  f129 := Try.func121.trans (congrArg some (by kernel_rfl))
  f189 := Try.func60.trans (congrArg some (by kernel_rfl))
  f215 := Try.func126.trans (congrArg some (by kernel_rfl))
  f216 := Try.func117.trans (congrArg some (by kernel_rfl))
  f257 := Try.func90.trans (congrArg some (by kernel_rfl))
  f294 := Try.func111.trans (congrArg some (by kernel_rfl))
  f295 := Try.func112.trans (congrArg some (by kernel_rfl))
  f296 := Try.func113.trans (congrArg some (by kernel_rfl))
  f297 := Try.func114.trans (congrArg some (by kernel_rfl))
  f298 := Try.func115.trans (congrArg some (by kernel_rfl))
  f299 := Try.func116.trans (congrArg some (by kernel_rfl))
  f300 := Try.func118.trans (congrArg some (by kernel_rfl))
  f301 := Try.func119.trans (congrArg some (by kernel_rfl))
  f328 := Try.func132.trans (congrArg some (by kernel_rfl))
  f329 := Try.func133.trans (congrArg some (by kernel_rfl))
  f330 := Try.func134.trans (congrArg some (by kernel_rfl))
  f331 := Try.func135.trans (congrArg some (by kernel_rfl))
  f332 := Try.func136.trans (congrArg some (by kernel_rfl))
  f343 := Try.func152.trans (congrArg some (by kernel_rfl))
  t0 := Try.underlying0
  a0 := Try.isAgg0
  z0 := Try.sizeOf0
  v0 := Try.zeroValue0
  t3 := Try.underlying3
  a3 := Try.isAgg3
  z3 := Try.sizeOf3
  v3 := Try.zeroValue3
  t4 := Try.underlying4
  a4 := Try.isAgg4
  z4 := Try.sizeOf4
  v4 := Try.zeroValue4
  t5 := Try.underlying5
  a5 := Try.isAgg5
  z5 := Try.sizeOf5
  v5 := Try.zeroValue5
  t9 := Try.underlying9
  a9 := Try.isAgg9
  z9 := Try.sizeOf9
  v9 := Try.zeroValue9
  t28 := Try.underlying25
  a28 := Try.isAgg25
  z28 := Try.sizeOf25
  v28 := Try.zeroValue25
  t46 := Try.underlying124
  a46 := Try.isAgg124
  z46 := Try.sizeOf124
  v46 := Try.zeroValue124
  t51 := Try.underlying145
  a51 := Try.isAgg145
  z51 := Try.sizeOf145
  v51 := Try.zeroValue145
  t53 := Try.underlying147
  a53 := Try.isAgg147
  z53 := Try.sizeOf147
  v53 := Try.zeroValue147
  t131 := Try.underlying142
  a131 := Try.isAgg142
  z131 := Try.sizeOf142
  v131 := Try.zeroValue142
  t182 := Try.underlying136
  a182 := Try.isAgg136
  z182 := Try.sizeOf136
  v182 := Try.zeroValue136
  t183 := Try.underlying137
  a183 := Try.isAgg137
  z183 := Try.sizeOf137
  v183 := Try.zeroValue137
  t218 := Try.underlying156
  a218 := Try.isAgg156
  z218 := Try.sizeOf156
  v218 := Try.zeroValue156
  t222 := Try.underlying160
  a222 := Try.isAgg160
  z222 := Try.sizeOf160
  v222 := Try.zeroValue160
  t228 := Try.underlying173
  a228 := Try.isAgg173
  z228 := Try.sizeOf173
  v228 := Try.zeroValue173
  t229 := Try.underlying174
  a229 := Try.isAgg174
  z229 := Try.sizeOf174
  v229 := Try.zeroValue174

section
variable {T : TypeId → Sh} {ρ : Env} {h : Heap} {w : World}
theorem grow_cons (w : World) (o : Obj) (os : List Obj) : Go.Sort.grow w (o :: os).toArray = Go.Sort.grow (w.alloc o) os.toArray := by
  rw [Go.Sort.alloc_eq_grow, Go.Sort.grow_grow]; congr 1; simp
theorem real_grow (os : List Obj) : ∀ {w : World}, Real T ρ h w → Real T ρ h (Go.Sort.grow w os.toArray) ∧ Ext ρ w ρ (Go.Sort.grow w os.toArray) := by
  induction os with
  | nil => intro w r; rw [show Go.Sort.grow w ([] : List Obj).toArray = w from Go.Sort.grow_empty w]; exact ⟨r, .refl _ _⟩
  | cons o os ih =>
    intro w r
    rw [grow_cons]
    obtain ⟨k1, k2⟩ := ih (r.alloc o)
    exact ⟨k1, (Ext.alloc ρ w o).trans k2⟩
theorem real_ahead (n : Nat) : ∀ {w : World}, Real T ρ h w → Real T ρ h (Go.Sort.ahead w n) ∧ Ext ρ w ρ (Go.Sort.ahead w n) := by
  induction n with
  | zero => intro w r; exact ⟨r, .refl _ _⟩
  | succ n ih =>
    intro w r
    obtain ⟨k1, k2⟩ := ih r.drew
    have e : Go.Sort.ahead w (n + 1) = Go.Sort.ahead w.drew n := by rw [Go.Sort.drew_eq_ahead, Go.Sort.ahead_ahead, Nat.add_comm]
    rw [e]
    exact ⟨k1, (Ext.drew ρ w).trans k2⟩
theorem leaves_lits (l : List Value) : leavesL (l.map D.lit) = l.map D.lit := by
  induction l with
  | nil => rfl
  | cons x r ih => simp [leavesL, leaves, ih]
theorem leaves_ints (l : List Int) : leavesL (l.map fun n => D.lit (.int .i64 n)) = l.map fun n => D.lit (.int .i64 n) := by
  have := leaves_lits (l.map fun n => Value.int .i64 n)
  rw [List.map_map] at this
  exact this
theorem put_ints (c : Array Value) (l : List Int) (h : l.length ≤ c.size) : (Go.Sort.putCells (Value.int .i64) 0 l.toArray c).toList = l.map (Value.int .i64) ++ c.toList.drop l.length := by
  apply List.ext_getElem?
  intro j
  rw [List.getElem?_append]
  simp only [List.length_map, Array.getElem?_toList, Go.Sort.putCells, Array.getElem?_mapIdx, List.getElem?_map, List.getElem?_drop]
  by_cases hj : j < l.length
  · rw [if_pos hj, Array.getElem?_eq_getElem (by omega), List.getElem?_eq_getElem hj]
    simp [hj]
  · rw [if_neg hj]
    have e : l.length + (j - l.length) = j := by omega
    rw [e]
    cases hc : c[j]? with
    | none => simp
    | some x => simp [show ¬ j < l.length from hj]
end

/-- Numbers, rising. -/
abbrev sortI (l : List Int) : List Int := l.mergeSort fun x y => decide (x ≤ y)
theorem one_arg {T : TypeId → Sh} {ρ : Env} {vs : Array Value} {d : D} (h : All2 (VV T ρ) vs.toList [d]) : ∃ v, vs = #[v] ∧ VV T ρ v d := by
  obtain ⟨h1, h2⟩ := h
  have h3 : vs.size = 1 := by simpa using h1
  refine ⟨vs[0], ?_, h2 0 _ _ (by simp [h3]) rfl⟩
  apply Array.ext
  · simp [h3]
  · intro i hi _
    have : i = 0 := by omega
    subst this; rfl

theorem sort_nil (tk' : Tok) (bs : List (Sh × D)) (tk : List Bool) : ASpec Try.prog CT 60 [.lst 3 [] tk'] ⟨bs, tk⟩ fun r h' => r = .tup [] ∧ h' = ⟨bs, tk⟩ := by
  refine ⟨⟨_, Try.func60, rfl, by kernel_rfl⟩, ?_⟩
  intro ρ w vs hr hv
  obtain ⟨v, rfl, hv1⟩ := one_arg hv
  have key : ∃ p cap, v = .slice p 0 cap := by
    rcases vv_lst hv1 with ⟨h1, h2⟩ | ⟨ad, cap, cs, h1, _⟩
    · exact ⟨none, 0, h1⟩
    · exact ⟨some ad, cap, h1⟩
  obtain ⟨p, cap, rfl⟩ := key
  have hs : Calls Try.prog 60 #[.slice p 0 cap] w fun e w' => e = .returned (.tuple #[]) ∧ w' = w := Any.slices_Sort_int_none sortLay p cap w
  refine hs.mono ?_
  rintro e w' ⟨rfl, rfl⟩
  exact ⟨_, .tup [], _, ρ, rfl, .refl _ _, hr, .tup (vs := []) (l := []) rfl (by simp), rfl, rfl⟩

theorem sort_sl (l : List Int) (hl : l.length < 4611686018427387904) {L : List D} {N b : Nat} {bs : List (Sh × D)} (tk : List Bool) (hb : bs[b]? = some (.arr N (CT.sh 3), .agg L)) (hln : l.length ≤ N) (ht : L.take l.length = l.map fun n => .lit (.int .i64 n)) :
    ASpec Try.prog CT 60 [.sl 3 b 0 l.length N] ⟨bs, tk⟩ fun r h' => r = .tup [] ∧ h' = ⟨bs.set b (.arr N (CT.sh 3), .agg (overL L 0 ((sortI l).map fun n => .lit (.int .i64 n)))), tk⟩ := by
  refine ⟨⟨_, Try.func60, rfl, by kernel_rfl⟩, ?_⟩
  intro ρ w vs hr hv
  obtain ⟨v, rfl, hv1⟩ := one_arg hv
  obtain ⟨B, N', o, rfl, hbox, hc, hn, hm, ho⟩ := vv_sl hv1
  obtain ⟨e1, hsh, cc, t, hw, ha⟩ := real_box hr hbox hb rfl
  cases e1
  obtain ⟨hL, hsL⟩ := hsh
  simp only [leaves] at ha
  have hsz1 : (CT.sh 3).size = 1 := rfl
  have hsh1 : ∀ n : Int, hasSh (CT.sh 3) (.lit (.int .i64 n)) := fun n => (by kernel_rfl : (D.lit (.int .i64 n)).isLeaf = true)
  have hcs : cc.size = N := by rw [← Array.length_toList, ha.1, cells_rd hsL, hL, hsz1, Nat.mul_one]
  have hsl : (sortI l).length = l.length := List.length_mergeSort l
  by_cases h0 : N = 0
  · have hl0 : l = [] := List.eq_nil_of_length_eq_zero (by omega)
    subst hl0
    have hs : Calls Try.prog 60 #[.slice (some ⟨B, o, none⟩) 0 N] w fun e w' => e = .returned (.tuple #[]) ∧ w' = w := Any.slices_Sort_int_none sortLay _ N w
    refine hs.mono ?_
    rintro e w' ⟨rfl, rfl⟩
    refine ⟨_, .tup [], _, ρ, rfl, .refl _ _, ?_, .tup (vs := []) (l := []) rfl (by simp), rfl, rfl⟩
    have h1 : sortI [] = [] := by simp [sortI]
    have h2 : bs.set b (.arr N (CT.sh 3), .agg (overL L 0 ((sortI []).map fun n => .lit (.int .i64 n)))) = bs := by
      rw [h1]
      simp only [overL, List.map_nil, List.take_zero, List.nil_append, List.length_nil, Nat.add_zero, List.drop_zero]
      apply List.ext_getElem?
      intro j
      rw [List.getElem?_set]
      split
      · rename_i e; subst e; rw [hb]; simp [(List.getElem?_eq_some_iff.1 hb).1]
      · rfl
    rw [h2]; exact hr
  · have hoo := ho h0
    rw [Nat.zero_mul] at hoo
    subst hoo
    have hcell : ∀ j, j < l.length → cc[j]? = some (.int .i64 (l.getD j 0)) := by
      intro j hj
      have h1 : (leavesL L)[j]? = some (.lit (.int .i64 (l.getD j 0))) := by
        have h2 := (leavesL_take hsL (k := l.length) (by omega)).1
        rw [ht, leaves_ints, hsz1, Nat.mul_one] at h2
        have h3 : ((leavesL L).take l.length)[j]? = some (.lit (.int .i64 (l.getD j 0))) := by
          rw [← h2, List.getElem?_map, List.getElem?_eq_getElem hj, List.getD_eq_getElem?_getD, List.getElem?_eq_getElem hj]; rfl
        rw [List.getElem?_take_of_lt hj] at h3
        exact h3
      have h4 : j < cc.toList.length := by rw [Array.length_toList, hcs]; omega
      have h5 := ha.2 j _ _ (List.getElem?_eq_getElem h4) h1
      rw [← Array.getElem?_toList, List.getElem?_eq_getElem h4, vv_lit h5]
    have hH : Go.Sort.Holds (Value.int .i64) w B 0 l.toArray := by
      intro j hj
      have hj' : j < l.length := by simpa using hj
      refine ⟨?_, by simp [World.frozen?, hw]⟩
      simp only [World.cell?, hw, Nat.zero_add, Option.isSome_none, Bool.false_eq_true, if_false, hcell j hj']
      simp [List.getD_eq_getElem?_getD, hj']
    have hB : B < w.heap.size := (Array.getElem?_eq_some_iff.1 hw).1
    have hs : Calls Try.prog 60 #[.slice (some ⟨B, 0, none⟩) l.length N] w fun e w' => e = .returned (.tuple #[]) ∧ ∃ n os, w' = Go.Sort.grow (Go.Sort.putRow (Value.int .i64) (Go.Sort.ahead w n) B 0 (sortI l).toArray) os :=
      Any.slices_Sort_int sortLay B 0 N l w hH hB hl
    refine hs.mono ?_
    rintro e w' ⟨rfl, n, os, rfl⟩
    obtain ⟨r1, x1⟩ := real_ahead n hr
    obtain ⟨k1, k2, k3⟩ := over_leaves hsL (m := (sortI l).map fun n => .lit (.int .i64 n)) (k := 0) (by intro d hd; obtain ⟨n, _, rfl⟩ := List.mem_map.1 hd; exact hsh1 n) (by simp [hsl]; omega)
    have hput : (Go.Sort.putRow (Value.int .i64) (Go.Sort.ahead w n) B 0 (sortI l).toArray).heap[B]? = some (.cells (Go.Sort.putCells (Value.int .i64) 0 (sortI l).toArray cc) t (0, 0)) := by
      simp [Go.Sort.putRow, Go.Sort.mapBlock, Go.Sort.ahead, Array.getElem?_modify, hw, Go.Sort.onCells]
    have hother : ∀ k, k ≠ B → (Go.Sort.putRow (Value.int .i64) (Go.Sort.ahead w n) B 0 (sortI l).toArray).heap[k]? = (Go.Sort.ahead w n).heap[k]? := by
      intro k hk
      simp only [Go.Sort.putRow, Go.Sort.mapBlock, Array.getElem?_modify]
      rw [if_neg (fun e => hk e.symm)]
    have r2 := box_set r1 hbox hb rfl (d' := .agg (overL L 0 ((sortI l).map fun n => .lit (.int .i64 n)))) ⟨by rw [k2]; exact hL, k3⟩ _ (by
      simp only [leaves]
      rw [k1, put_ints cc _ (by omega), leaves_ints, Nat.zero_mul, List.take_zero, List.nil_append, Nat.zero_add, List.length_map]
      refine All2.append ⟨by simp, ?_⟩ (ha.drop _)
      intro i c d hc hd
      rw [List.getElem?_map, Option.map_eq_some_iff] at hc hd
      obtain ⟨x, hx, rfl⟩ := hc
      obtain ⟨y, hy, rfl⟩ := hd
      rw [hx] at hy; cases hy
      exact .lit _) _ t hput (by simp [Go.Sort.putRow, Go.Sort.mapBlock]) hother
    have x2 := box_ext r1 hbox (w' := Go.Sort.putRow (Value.int .i64) (Go.Sort.ahead w n) B 0 (sortI l).toArray) rfl rfl rfl (by simp [Go.Sort.putRow, Go.Sort.mapBlock]) hother
    obtain ⟨r3, x3⟩ := real_grow os.toList r2
    exact ⟨_, .tup [], _, ρ, rfl, (x1.trans x2).trans x3, r3, .tup (vs := []) (l := []) rfl (by simp), rfl, rfl⟩
end Go.Ab
