/- The library's sort of texts, as a function of data: the shelf's contract, laid. Conditions: none. -/
import Derived.Test.YtnagdbamieahgaaSoA
set_option linter.unusedSimpArgs false
namespace Go.Ab
open Go.Proofs

def sortLayS_ren : Go.Shelf.Ren := ⟨fun | 125 => 91 | 128 => 120 | 129 => 121 | 190 => 97 | 258 => 122 | 302 => 137 | 303 => 138 | 304 => 139 | 305 => 140 | 306 => 141 | 307 => 142 | 308 => 143 | 309 => 144 | 310 => 145 | 329 => 133 | 330 => 134 | 333 => 153 | 334 => 154 | 335 => 155 | 336 => 156 | 344 => 160 | n => n, fun | 0 => 0 | 3 => 3 | 4 => 4 | 5 => 5 | 9 => 9 | 31 => 52 | 46 => 124 | 51 => 145 | 53 => 147 | 131 => 142 | 182 => 136 | 183 => 137 | 218 => 156 | 222 => 160 | 228 => 173 | 229 => 174 | n => n, fun | n => n⟩
theorem sortLayS : Go.Proofs.Lays.n190 Try.prog sortLayS_ren where
  mixed := by kernel_rfl
  f125 := Try.func91.trans (congrArg some (by kernel_rfl))
  f128 := Try.func120.trans (congrArg some (by kernel_rfl))
  f129 := Try.func121.trans (congrArg some (by kernel_rfl))
  f190 := Try.func97.trans (congrArg some (by kernel_rfl))
  f258 := Try.func122.trans (congrArg some (by kernel_rfl))
  f302 := Try.func137.trans (congrArg some (by kernel_rfl))
  f303 := Try.func138.trans (congrArg some (by kernel_rfl))
  f304 := Try.func139.trans (congrArg some (by kernel_rfl))
  f305 := Try.func140.trans (congrArg some (by kernel_rfl))
  f306 := Try.func141.trans (congrArg some (by kernel_rfl))
  f307 := Try.func142.trans (congrArg some (by kernel_rfl))
  f308 := Try.func143.trans (congrArg some (by kernel_rfl))
  f309 := Try.func144.trans (congrArg some (by kernel_rfl))
  f310 := Try.func145.trans (congrArg some (by kernel_rfl))
  f329 := Try.func133.trans (congrArg some (by kernel_rfl))
  f330 := Try.func134.trans (congrArg some (by kernel_rfl))
  f333 := Try.func153.trans (congrArg some (by kernel_rfl))
  f334 := Try.func154.trans (congrArg some (by kernel_rfl))
  f335 := Try.func155.trans (congrArg some (by kernel_rfl))
  f336 := Try.func156.trans (congrArg some (by kernel_rfl))
  f344 := Try.func160.trans (congrArg some (by kernel_rfl))
  t0 := Try.underlying0
  a0 := Try.isAgg0
  z0 := Try.sizeOf0
  v0 := Try.zeroValue0
  t3 := Try.underlying3
  a3 := Try.isAgg3
  z3 := Try.sizeOf3
  v3 := Try.zeroValue3
  t4 := Try.underlying4
  a4 := Try.isAgg4
  z4 := Try.sizeOf4
  v4 := Try.zeroValue4
  t5 := Try.underlying5
  a5 := Try.isAgg5
  z5 := Try.sizeOf5
  v5 := Try.zeroValue5
  t9 := Try.underlying9
  a9 := Try.isAgg9
  z9 := Try.sizeOf9
  v9 := Try.zeroValue9
  t31 := Try.underlying52
  a31 := Try.isAgg52
  z31 := Try.sizeOf52
  v31 := Try.zeroValue52
  t46 := Try.underlying124
  a46 := Try.isAgg124
  z46 := Try.sizeOf124
  v46 := Try.zeroValue124
  t51 := Try.underlying145
  a51 := Try.isAgg145
  z51 := Try.sizeOf145
  v51 := Try.zeroValue145
  t53 := Try.underlying147
  a53 := Try.isAgg147
  z53 := Try.sizeOf147
  v53 := Try.zeroValue147
  t131 := Try.underlying142
  a131 := Try.isAgg142
  z131 := Try.sizeOf142
  v131 := Try.zeroValue142
  t182 := Try.underlying136
  a182 := Try.isAgg136
  z182 := Try.sizeOf136
  v182 := Try.zeroValue136
  t183 := Try.underlying137
  a183 := Try.isAgg137
  z183 := Try.sizeOf137
  v183 := Try.zeroValue137
  t218 := Try.underlying156
  a218 := Try.isAgg156
  z218 := Try.sizeOf156
  v218 := Try.zeroValue156
  t222 := Try.underlying160
  a222 := Try.isAgg160
  z222 := Try.sizeOf160
  v222 := Try.zeroValue160
  t228 := Try.underlying173
  a228 := Try.isAgg173
  z228 := Try.sizeOf173
  v228 := Try.zeroValue173
  t229 := Try.underlying174
  a229 := Try.isAgg174
  z229 := Try.sizeOf174
  v229 := Try.zeroValue174

section
variable {T : TypeId → Sh} {ρ : Env} {h : Heap} {w : World}
theorem leaves_strs (l : List (List UInt8)) : leavesL (l.map fun n => D.lit (encStr n)) = l.map fun n => D.lit (encStr n) := by
  have := leaves_lits (l.map fun n => encStr n)
  rw [List.map_map] at this
  exact this
theorem put_strs (c : Array Value) (l : List (List UInt8)) (h : l.length ≤ c.size) : (Go.Sort.putCells encStr 0 l.toArray c).toList = l.map encStr ++ c.toList.drop l.length := by
  apply List.ext_getElem?
  intro j
  rw [List.getElem?_append]
  simp only [List.length_map, Array.getElem?_toList, Go.Sort.putCells, Array.getElem?_mapIdx, List.getElem?_map, List.getElem?_drop]
  by_cases hj : j < l.length
  · rw [if_pos hj, Array.getElem?_eq_getElem (by omega), List.getElem?_eq_getElem hj]
    simp [hj]
  · rw [if_neg hj]
    have e : l.length + (j - l.length) = j := by omega
    rw [e]
    cases hc : c[j]? with
    | none => simp
    | some x => simp [show ¬ j < l.length from hj]
end


/-- Texts' bytes, rising. -/
abbrev sortB (l : List (List UInt8)) : List (List UInt8) := l.mergeSort fun x y => decide (x ≤ y)
theorem sortS_nil (tk' : Tok) (bs : List (Sh × D)) (tk : List Bool) : ASpec Try.prog CT 97 [.lst 9 [] tk'] ⟨bs, tk⟩ fun r h' => r = .tup [] ∧ h' = ⟨bs, tk⟩ := by
  refine ⟨⟨_, Try.func97, rfl, by kernel_rfl⟩, ?_⟩
  intro ρ w vs hr hv
  obtain ⟨v, rfl, hv1⟩ := one_arg hv
  have key : ∃ p cap, v = .slice p 0 cap := by
    rcases vv_lst hv1 with ⟨h1, h2⟩ | ⟨ad, cap, cs, h1, _⟩
    · exact ⟨none, 0, h1⟩
    · exact ⟨some ad, cap, h1⟩
  obtain ⟨p, cap, rfl⟩ := key
  have hs : Calls Try.prog 97 #[.slice p 0 cap] w fun e w' => e = .returned (.tuple #[]) ∧ w' = w := Any.slices_Sort_string_none sortLayS p cap w
  refine hs.mono ?_
  rintro e w' ⟨rfl, rfl⟩
  exact ⟨_, .tup [], _, ρ, rfl, .refl _ _, hr, .tup (vs := []) (l := []) rfl (by simp), rfl, rfl⟩

theorem sortS_sl (l : List (List UInt8)) (hl : l.length < 4611686018427387904) {L : List D} {N b : Nat} {bs : List (Sh × D)} (tk : List Bool) (hb : bs[b]? = some (.arr N (CT.sh 9), .agg L)) (hln : l.length ≤ N) (ht : L.take l.length = l.map fun n => .lit (encStr n)) :
    ASpec Try.prog CT 97 [.sl 9 b 0 l.length N] ⟨bs, tk⟩ fun r h' => r = .tup [] ∧ h' = ⟨bs.set b (.arr N (CT.sh 9), .agg (overL L 0 ((sortB l).map fun n => .lit (encStr n)))), tk⟩ := by
  refine ⟨⟨_, Try.func97, rfl, by kernel_rfl⟩, ?_⟩
  intro ρ w vs hr hv
  obtain ⟨v, rfl, hv1⟩ := one_arg hv
  obtain ⟨B, N', o, rfl, hbox, hc, hn, hm, ho⟩ := vv_sl hv1
  obtain ⟨e1, hsh, cc, t, hw, ha⟩ := real_box hr hbox hb rfl
  cases e1
  obtain ⟨hL, hsL⟩ := hsh
  simp only [leaves] at ha
  have hsz1 : (CT.sh 9).size = 1 := rfl
  have hsh1 : ∀ n : List UInt8, hasSh (CT.sh 9) (.lit (encStr n)) := fun n => (by kernel_rfl : (D.lit (encStr n)).isLeaf = true)
  have hcs : cc.size = N := by rw [← Array.length_toList, ha.1, cells_rd hsL, hL, hsz1, Nat.mul_one]
  have hsl : (sortB l).length = l.length := List.length_mergeSort l
  by_cases h0 : N = 0
  · have hl0 : l = [] := List.eq_nil_of_length_eq_zero (by omega)
    subst hl0
    have hs : Calls Try.prog 97 #[.slice (some ⟨B, o, none⟩) 0 N] w fun e w' => e = .returned (.tuple #[]) ∧ w' = w := Any.slices_Sort_string_none sortLayS _ N w
    refine hs.mono ?_
    rintro e w' ⟨rfl, rfl⟩
    refine ⟨_, .tup [], _, ρ, rfl, .refl _ _, ?_, .tup (vs := []) (l := []) rfl (by simp), rfl, rfl⟩
    have h1 : sortB [] = [] := by simp [sortB]
    have h2 : bs.set b (.arr N (CT.sh 9), .agg (overL L 0 ((sortB []).map fun n => .lit (encStr n)))) = bs := by
      rw [h1]
      simp only [overL, List.map_nil, List.take_zero, List.nil_append, List.length_nil, Nat.add_zero, List.drop_zero]
      apply List.ext_getElem?
      intro j
      rw [List.getElem?_set]
      split
      · rename_i e; subst e; rw [hb]; simp [(List.getElem?_eq_some_iff.1 hb).1]
      · rfl
    rw [h2]; exact hr
  · have hoo := ho h0
    rw [Nat.zero_mul] at hoo
    subst hoo
    have hcell : ∀ j, j < l.length → cc[j]? = some (encStr (l.getD j [])) := by
      intro j hj
      have h1 : (leavesL L)[j]? = some (.lit (encStr (l.getD j []))) := by
        have h2 := (leavesL_take hsL (k := l.length) (by omega)).1
        rw [ht, leaves_strs, hsz1, Nat.mul_one] at h2
        have h3 : ((leavesL L).take l.length)[j]? = some (.lit (encStr (l.getD j []))) := by
          rw [← h2, List.getElem?_map, List.getElem?_eq_getElem hj, List.getD_eq_getElem?_getD, List.getElem?_eq_getElem hj]; rfl
        rw [List.getElem?_take_of_lt hj] at h3
        exact h3
      have h4 : j < cc.toList.length := by rw [Array.length_toList, hcs]; omega
      have h5 := ha.2 j _ _ (List.getElem?_eq_getElem h4) h1
      rw [← Array.getElem?_toList, List.getElem?_eq_getElem h4, vv_lit h5]
    have hH : Go.Sort.Holds encStr w B 0 l.toArray := by
      intro j hj
      have hj' : j < l.length := by simpa using hj
      refine ⟨?_, by simp [World.frozen?, hw]⟩
      simp only [World.cell?, hw, Nat.zero_add, Option.isSome_none, Bool.false_eq_true, if_false, hcell j hj']
      simp [List.getD_eq_getElem?_getD, hj']
    have hB : B < w.heap.size := (Array.getElem?_eq_some_iff.1 hw).1
    have hs : Calls Try.prog 97 #[.slice (some ⟨B, 0, none⟩) l.length N] w fun e w' => e = .returned (.tuple #[]) ∧ ∃ n os, w' = Go.Sort.grow (Go.Sort.putRow encStr (Go.Sort.ahead w n) B 0 (sortB l).toArray) os :=
      Any.slices_Sort_string sortLayS B 0 N l w hH hB hl
    refine hs.mono ?_
    rintro e w' ⟨rfl, n, os, rfl⟩
    obtain ⟨r1, x1⟩ := real_ahead n hr
    obtain ⟨k1, k2, k3⟩ := over_leaves hsL (m := (sortB l).map fun n => .lit (encStr n)) (k := 0) (by intro d hd; obtain ⟨n, _, rfl⟩ := List.mem_map.1 hd; exact hsh1 n) (by simp [hsl]; omega)
    have hput : (Go.Sort.putRow encStr (Go.Sort.ahead w n) B 0 (sortB l).toArray).heap[B]? = some (.cells (Go.Sort.putCells encStr 0 (sortB l).toArray cc) t (0, 0)) := by
      simp [Go.Sort.putRow, Go.Sort.mapBlock, Go.Sort.ahead, Array.getElem?_modify, hw, Go.Sort.onCells]
    have hother : ∀ k, k ≠ B → (Go.Sort.putRow encStr (Go.Sort.ahead w n) B 0 (sortB l).toArray).heap[k]? = (Go.Sort.ahead w n).heap[k]? := by
      intro k hk
      simp only [Go.Sort.putRow, Go.Sort.mapBlock, Array.getElem?_modify]
      rw [if_neg (fun e => hk e.symm)]
    have r2 := box_set r1 hbox hb rfl (d' := .agg (overL L 0 ((sortB l).map fun n => .lit (encStr n)))) ⟨by rw [k2]; exact hL, k3⟩ _ (by
      simp only [leaves]
      rw [k1, put_strs cc _ (by omega), leaves_strs, Nat.zero_mul, List.take_zero, List.nil_append, Nat.zero_add, List.length_map]
      refine All2.append ⟨by simp, ?_⟩ (ha.drop _)
      intro i c d hc hd
      rw [List.getElem?_map, Option.map_eq_some_iff] at hc hd
      obtain ⟨x, hx, rfl⟩ := hc
      obtain ⟨y, hy, rfl⟩ := hd
      rw [hx] at hy; cases hy
      exact .lit _) _ t hput (by simp [Go.Sort.putRow, Go.Sort.mapBlock]) hother
    have x2 := box_ext r1 hbox (w' := Go.Sort.putRow encStr (Go.Sort.ahead w n) B 0 (sortB l).toArray) rfl rfl rfl (by simp [Go.Sort.putRow, Go.Sort.mapBlock]) hother
    obtain ⟨r3, x3⟩ := real_grow os.toList r2
    exact ⟨_, .tup [], _, ρ, rfl, (x1.trans x2).trans x3, r3, .tup (vs := []) (l := []) rfl (by simp), rfl, rfl⟩
end Go.Ab
