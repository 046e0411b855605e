/- The library's sort of numbers, as a function of data: the shelf's contract, laid. Conditions: none. -/
import Derived.Test.YtjafmlbcjhoflaaGreatAbP
import Derived.Shelf.Sort.Plain
import Derived.Shelf.Slices.In.SortNone
set_option linter.unusedSimpArgs false
namespace Go.Ab
open Go.Proofs

def sortLay_ren : Go.Shelf.Ren := ⟨fun | 189 => 76 | 125 => 110 | 257 => 109 | 128 => 132 | 129 => 133 | 294 => 123 | 295 => 124 | 296 => 125 | 297 => 126 | 298 => 127 | 299 => 128 | 216 => 129 | 300 => 130 | 301 => 131 | 328 => 150 | 329 => 151 | 330 => 152 | 331 => 153 | 332 => 154 | 215 => 155 | 343 => 172 | n => n, fun | 28 => 22 | 3 => 3 | 46 => 109 | 0 => 0 | 51 => 125 | 53 => 127 | 4 => 4 | 183 => 118 | 182 => 117 | 131 => 110 | 5 => 5 | 9 => 9 | 218 => 132 | 222 => 136 | 228 => 149 | 229 => 58 | n => n, fun | n => n⟩
theorem sortLay : Go.Proofs.Lays.n189 Tryz.prog sortLay_ren where
  mixed := by kernel_rfl
  f125 := Tryz.func110.trans (congrArg some (by kernel_rfl))
  f128 := Tryz.func132.trans (congrArg some (by kernel_rfl))
  f129 := Tryz.func133.trans (congrArg some (by kernel_rfl))
  f189 := Tryz.func76.trans (congrArg some (by kernel_rfl))
  f215 := Tryz.func155.trans (congrArg some (by kernel_rfl))
  f216 := Tryz.func129.trans (congrArg some (by kernel_rfl))
  f257 := Tryz.func109.trans (congrArg some (by kernel_rfl))
  f294 := Tryz.func123.trans (congrArg some (by kernel_rfl))
  f295 := Tryz.func124.trans (congrArg some (by kernel_rfl))
  f296 := Tryz.func125.trans (congrArg some (by kernel_rfl))
  f297 := Tryz.func126.trans (congrArg some (by kernel_rfl))
  f298 := Tryz.func127.trans (congrArg some (by kernel_rfl))
  f299 := Tryz.func128.trans (congrArg some (by kernel_rfl))
  f300 := Tryz.func130.trans (congrArg some (by kernel_rfl))
  f301 := Tryz.func131.trans (congrArg some (by kernel_rfl))
  f328 := Tryz.func150.trans (congrArg some (by kernel_rfl))
  f329 := Tryz.func151.trans (congrArg some (by kernel_rfl))
  f330 := Tryz.func152.trans (congrArg some (by kernel_rfl))
  f331 := Tryz.func153.trans (congrArg some (by kernel_rfl))
  f332 := Tryz.func154.trans (congrArg some (by kernel_rfl))
  f343 := Tryz.func172.trans (congrArg some (by kernel_rfl))
  t0 := Tryz.underlying0
  a0 := Tryz.isAgg0
  z0 := Tryz.sizeOf0
  v0 := Tryz.zeroValue0
  t3 := Tryz.underlying3
  a3 := Tryz.isAgg3
  z3 := Tryz.sizeOf3
  v3 := Tryz.zeroValue3
  t4 := Tryz.underlying4
  a4 := Tryz.isAgg4
  z4 := Tryz.sizeOf4
  v4 := Tryz.zeroValue4
  t5 := Tryz.underlying5
  a5 := Tryz.isAgg5
  z5 := Tryz.sizeOf5
  v5 := Tryz.zeroValue5
  t9 := Tryz.underlying9
  a9 := Tryz.isAgg9
  z9 := Tryz.sizeOf9
  v9 := Tryz.zeroValue9
  t28 := Tryz.underlying22
  a28 := Tryz.isAgg22
  z28 := Tryz.sizeOf22
  v28 := Tryz.zeroValue22
  t46 := Tryz.underlying109
  a46 := Tryz.isAgg109
  z46 := Tryz.sizeOf109
  v46 := Tryz.zeroValue109
  t51 := Tryz.underlying125
  a51 := Tryz.isAgg125
  z51 := Tryz.sizeOf125
  v51 := Tryz.zeroValue125
  t53 := Tryz.underlying127
  a53 := Tryz.isAgg127
  z53 := Tryz.sizeOf127
  v53 := Tryz.zeroValue127
  t131 := Tryz.underlying110
  a131 := Tryz.isAgg110
  z131 := Tryz.sizeOf110
  v131 := Tryz.zeroValue110
  t182 := Tryz.underlying117
  a182 := Tryz.isAgg117
  z182 := Tryz.sizeOf117
  v182 := Tryz.zeroValue117
  t183 := Tryz.underlying118
  a183 := Tryz.isAgg118
  z183 := Tryz.sizeOf118
  v183 := Tryz.zeroValue118
  t218 := Tryz.underlying132
  a218 := Tryz.isAgg132
  z218 := Tryz.sizeOf132
  v218 := Tryz.zeroValue132
  t222 := Tryz.underlying136
  a222 := Tryz.isAgg136
  z222 := Tryz.sizeOf136
  v222 := Tryz.zeroValue136
  t228 := Tryz.underlying149
  a228 := Tryz.isAgg149
  z228 := Tryz.sizeOf149
  v228 := Tryz.zeroValue149
  t229 := Tryz.underlying58
  a229 := Tryz.isAgg58
  z229 := Tryz.sizeOf58
  v229 := Tryz.zeroValue58

section
variable {T : TypeId → Sh} {ρ : Env} {h : Heap} {w : World}
theorem grow_cons (w : World) (o : Obj) (os : List Obj) : Go.Sort.grow w (o :: os).toArray = Go.Sort.grow (w.alloc o) os.toArray := by
  rw [Go.Sort.alloc_eq_grow, Go.Sort.grow_grow]; congr 1; simp
theorem real_grow (os : List Obj) : ∀ {w : World}, Real T ρ h w → Real T ρ h (Go.Sort.grow w os.toArray) ∧ Ext ρ w ρ (Go.Sort.grow w os.toArray) := by
  induction os with
  | nil => intro w r; rw [show Go.Sort.grow w ([] : List Obj).toArray = w from Go.Sort.grow_empty w]; exact ⟨r, .refl _ _⟩
  | cons o os ih =>
    intro w r
    rw [grow_cons]
    obtain ⟨k1, k2⟩ := ih (r.alloc o)
    exact ⟨k1, (Ext.alloc ρ w o).trans k2⟩
theorem real_ahead (n : Nat) : ∀ {w : World}, Real T ρ h w → Real T ρ h (Go.Sort.ahead w n) ∧ Ext ρ w ρ (Go.Sort.ahead w n) := by
  induction n with
  | zero => intro w r; exact ⟨r, .refl _ _⟩
  | succ n ih =>
    intro w r
    obtain ⟨k1, k2⟩ := ih r.drew
    have e : Go.Sort.ahead w (n + 1) = Go.Sort.ahead w.drew n := by rw [Go.Sort.drew_eq_ahead, Go.Sort.ahead_ahead, Nat.add_comm]
    rw [e]
    exact ⟨k1, (Ext.drew ρ w).trans k2⟩
theorem leaves_lits (l : List Value) : leavesL (l.map D.lit) = l.map D.lit := by
  induction l with
  | nil => rfl
  | cons x r ih => simp [leavesL, leaves, ih]
theorem leaves_ints (l : List Int) : leavesL (l.map fun n => D.lit (.int .i64 n)) = l.map fun n => D.lit (.int .i64 n) := by
  have := leaves_lits (l.map fun n => Value.int .i64 n)
  rw [List.map_map] at this
  exact this
theorem put_ints (c : Array Value) (l : List Int) (h : l.length ≤ c.size) : (Go.Sort.putCells (Value.int .i64) 0 l.toArray c).toList = l.map (Value.int .i64) ++ c.toList.drop l.length := by
  apply List.ext_getElem?
  intro j
  rw [List.getElem?_append]
  simp only [List.length_map, Array.getElem?_toList, Go.Sort.putCells, Array.getElem?_mapIdx, List.getElem?_map, List.getElem?_drop]
  by_cases hj : j < l.length
  · rw [if_pos hj, Array.getElem?_eq_getElem (by omega), List.getElem?_eq_getElem hj]
    simp [hj]
  · rw [if_neg hj]
    have e : l.length + (j - l.length) = j := by omega
    rw [e]
    cases hc : c[j]? with
    | none => simp
    | some x => simp [show ¬ j < l.length from hj]
end

/-- Numbers, rising. -/
abbrev sortI (l : List Int) : List Int := l.mergeSort fun x y => decide (x ≤ y)
theorem one_arg {T : TypeId → Sh} {ρ : Env} {vs : Array Value} {d : D} (h : All2 (VV T ρ) vs.toList [d]) : ∃ v, vs = #[v] ∧ VV T ρ v d := by
  obtain ⟨h1, h2⟩ := h
  have h3 : vs.size = 1 := by simpa using h1
  refine ⟨vs[0], ?_, h2 0 _ _ (by simp [h3]) rfl⟩
  apply Array.ext
  · simp [h3]
  · intro i hi _
    have : i = 0 := by omega
    subst this; rfl

theorem sort_nil (tk' : Tok) (bs : List (Sh × D)) (tk : List Bool) : ASpec Tryz.prog CT 76 [.lst 3 [] tk'] ⟨bs, tk⟩ fun r h' => r = .tup [] ∧ h' = ⟨bs, tk⟩ := by
  refine ⟨⟨_, Tryz.func76, rfl, by kernel_rfl⟩, ?_⟩
  intro ρ w vs hr hv
  obtain ⟨v, rfl, hv1⟩ := one_arg hv
  have key : ∃ p cap, v = .slice p 0 cap := by
    rcases vv_lst hv1 with ⟨h1, h2⟩ | ⟨ad, cap, cs, h1, _⟩
    · exact ⟨none, 0, h1⟩
    · exact ⟨some ad, cap, h1⟩
  obtain ⟨p, cap, rfl⟩ := key
  have hs : Calls Tryz.prog 76 #[.slice p 0 cap] w fun e w' => e = .returned (.tuple #[]) ∧ w' = w := Any.slices_Sort_int_none sortLay p cap w
  refine hs.mono ?_
  rintro e w' ⟨rfl, rfl⟩
  exact ⟨_, .tup [], _, ρ, rfl, .refl _ _, hr, .tup (vs := []) (l := []) rfl (by simp), rfl, rfl⟩

theorem sort_sl (l : List Int) (hl : l.length < 4611686018427387904) {L : List D} {N b : Nat} {bs : List (Sh × D)} (tk : List Bool) (hb : bs[b]? = some (.arr N (CT.sh 3), .agg L)) (hln : l.length ≤ N) (ht : L.take l.length = l.map fun n => .lit (.int .i64 n)) :
    ASpec Tryz.prog CT 76 [.sl 3 b 0 l.length N] ⟨bs, tk⟩ fun r h' => r = .tup [] ∧ h' = ⟨bs.set b (.arr N (CT.sh 3), .agg (overL L 0 ((sortI l).map fun n => .lit (.int .i64 n)))), tk⟩ := by
  refine ⟨⟨_, Tryz.func76, rfl, by kernel_rfl⟩, ?_⟩
  intro ρ w vs hr hv
  obtain ⟨v, rfl, hv1⟩ := one_arg hv
  obtain ⟨B, N', o, rfl, hbox, hc, hn, hm, ho⟩ := vv_sl hv1
  obtain ⟨e1, hsh, cc, t, hw, ha⟩ := real_box hr hbox hb rfl
  cases e1
  obtain ⟨hL, hsL⟩ := hsh
  simp only [leaves] at ha
  have hsz1 : (CT.sh 3).size = 1 := rfl
  have hsh1 : ∀ n : Int, hasSh (CT.sh 3) (.lit (.int .i64 n)) := fun n => (by kernel_rfl : (D.lit (.int .i64 n)).isLeaf = true)
  have hcs : cc.size = N := by rw [← Array.length_toList, ha.1, cells_rd hsL, hL, hsz1, Nat.mul_one]
  have hsl : (sortI l).length = l.length := List.length_mergeSort l
  by_cases h0 : N = 0
  · have hl0 : l = [] := List.eq_nil_of_length_eq_zero (by omega)
    subst hl0
    have hs : Calls Tryz.prog 76 #[.slice (some ⟨B, o, none⟩) 0 N] w fun e w' => e = .returned (.tuple #[]) ∧ w' = w := Any.slices_Sort_int_none sortLay _ N w
    refine hs.mono ?_
    rintro e w' ⟨rfl, rfl⟩
    refine ⟨_, .tup [], _, ρ, rfl, .refl _ _, ?_, .tup (vs := []) (l := []) rfl (by simp), rfl, rfl⟩
    have h1 : sortI [] = [] := by simp [sortI]
    have h2 : bs.set b (.arr N (CT.sh 3), .agg (overL L 0 ((sortI []).map fun n => .lit (.int .i64 n)))) = bs := by
      rw [h1]
      simp only [overL, List.map_nil, List.take_zero, List.nil_append, List.length_nil, Nat.add_zero, List.drop_zero]
      apply List.ext_getElem?
      intro j
      rw [List.getElem?_set]
      split
      · rename_i e; subst e; rw [hb]; simp [(List.getElem?_eq_some_iff.1 hb).1]
      · rfl
    rw [h2]; exact hr
  · have hoo := ho h0
    rw [Nat.zero_mul] at hoo
    subst hoo
    have hcell : ∀ j, j < l.length → cc[j]? = some (.int .i64 (l.getD j 0)) := by
      intro j hj
      have h1 : (leavesL L)[j]? = some (.lit (.int .i64 (l.getD j 0))) := by
        have h2 := (leavesL_take hsL (k := l.length) (by omega)).1
        rw [ht, leaves_ints, hsz1, Nat.mul_one] at h2
        have h3 : ((leavesL L).take l.length)[j]? = some (.lit (.int .i64 (l.getD j 0))) := by
          rw [← h2, List.getElem?_map, List.getElem?_eq_getElem hj, List.getD_eq_getElem?_getD, List.getElem?_eq_getElem hj]; rfl
        rw [List.getElem?_take_of_lt hj] at h3
        exact h3
      have h4 : j < cc.toList.length := by rw [Array.length_toList, hcs]; omega
      have h5 := ha.2 j _ _ (List.getElem?_eq_getElem h4) h1
      rw [← Array.getElem?_toList, List.getElem?_eq_getElem h4, vv_lit h5]
    have hH : Go.Sort.Holds (Value.int .i64) w B 0 l.toArray := by
      intro j hj
      have hj' : j < l.length := by simpa using hj
      refine ⟨?_, by simp [World.frozen?, hw]⟩
      simp only [World.cell?, hw, Nat.zero_add, Option.isSome_none, Bool.false_eq_true, if_false, hcell j hj']
      simp [List.getD_eq_getElem?_getD, hj']
    have hB : B < w.heap.size := (Array.getElem?_eq_some_iff.1 hw).1
    have hs : Calls Tryz.prog 76 #[.slice (some ⟨B, 0, none⟩) l.length N] w fun e w' => e = .returned (.tuple #[]) ∧ ∃ n os, w' = Go.Sort.grow (Go.Sort.putRow (Value.int .i64) (Go.Sort.ahead w n) B 0 (sortI l).toArray) os :=
      Any.slices_Sort_int sortLay B 0 N l w hH hB hl
    refine hs.mono ?_
    rintro e w' ⟨rfl, n, os, rfl⟩
    obtain ⟨r1, x1⟩ := real_ahead n hr
    obtain ⟨k1, k2, k3⟩ := over_leaves hsL (m := (sortI l).map fun n => .lit (.int .i64 n)) (k := 0) (by intro d hd; obtain ⟨n, _, rfl⟩ := List.mem_map.1 hd; exact hsh1 n) (by simp [hsl]; omega)
    have hput : (Go.Sort.putRow (Value.int .i64) (Go.Sort.ahead w n) B 0 (sortI l).toArray).heap[B]? = some (.cells (Go.Sort.putCells (Value.int .i64) 0 (sortI l).toArray cc) t (0, 0)) := by
      simp [Go.Sort.putRow, Go.Sort.mapBlock, Go.Sort.ahead, Array.getElem?_modify, hw, Go.Sort.onCells]
    have hother : ∀ k, k ≠ B → (Go.Sort.putRow (Value.int .i64) (Go.Sort.ahead w n) B 0 (sortI l).toArray).heap[k]? = (Go.Sort.ahead w n).heap[k]? := by
      intro k hk
      simp only [Go.Sort.putRow, Go.Sort.mapBlock, Array.getElem?_modify]
      rw [if_neg (fun e => hk e.symm)]
    have r2 := box_set r1 hbox hb rfl (d' := .agg (overL L 0 ((sortI l).map fun n => .lit (.int .i64 n)))) ⟨by rw [k2]; exact hL, k3⟩ _ (by
      simp only [leaves]
      rw [k1, put_ints cc _ (by omega), leaves_ints, Nat.zero_mul, List.take_zero, List.nil_append, Nat.zero_add, List.length_map]
      refine All2.append ⟨by simp, ?_⟩ (ha.drop _)
      intro i c d hc hd
      rw [List.getElem?_map, Option.map_eq_some_iff] at hc hd
      obtain ⟨x, hx, rfl⟩ := hc
      obtain ⟨y, hy, rfl⟩ := hd
      rw [hx] at hy; cases hy
      exact .lit _) _ t hput (by simp [Go.Sort.putRow, Go.Sort.mapBlock]) hother
    have x2 := box_ext r1 hbox (w' := Go.Sort.putRow (Value.int .i64) (Go.Sort.ahead w n) B 0 (sortI l).toArray) rfl rfl rfl (by simp [Go.Sort.putRow, Go.Sort.mapBlock]) hother
    obtain ⟨r3, x3⟩ := real_grow os.toList r2
    exact ⟨_, .tup [], _, ρ, rfl, (x1.trans x2).trans x3, r3, .tup (vs := []) (l := []) rfl (by simp), rfl, rfl⟩
end Go.Ab
