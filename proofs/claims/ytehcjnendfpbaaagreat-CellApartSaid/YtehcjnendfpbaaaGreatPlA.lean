/- The library's sort of texts, as a function of data: the shelf's contract, laid. Conditions: none. -/
import Derived.Test.YtehcjnendfpbaaaGreatSoA
set_option linter.unusedSimpArgs false
namespace Go.Ab
open Go.Proofs

def sortLayS_ren : Go.Shelf.Ren := ⟨fun | 125 => 147 | 128 => 158 | 129 => 159 | 190 => 144 | 258 => 146 | 302 => 149 | 303 => 150 | 304 => 151 | 305 => 152 | 306 => 153 | 307 => 154 | 308 => 155 | 309 => 156 | 310 => 157 | 329 => 161 | 330 => 162 | 333 => 160 | 334 => 163 | 335 => 164 | 336 => 165 | 344 => 166 | n => n, fun | 0 => 0 | 3 => 3 | 4 => 4 | 5 => 5 | 9 => 9 | 31 => 52 | 46 => 157 | 51 => 119 | 53 => 170 | 131 => 166 | 182 => 160 | 183 => 161 | 218 => 171 | 222 => 175 | 228 => 178 | 229 => 179 | n => n, fun | n => n⟩
theorem sortLayS : Go.Proofs.Lays.n190 Tryz.prog sortLayS_ren where
  mixed := by kernel_rfl
  f125 := Tryz.func147.trans (congrArg some (by kernel_rfl))
  f128 := Tryz.func158.trans (congrArg some (by kernel_rfl))
  f129 := Tryz.func159.trans (congrArg some (by kernel_rfl))
  f190 := Tryz.func144.trans (congrArg some (by kernel_rfl))
  f258 := Tryz.func146.trans (congrArg some (by kernel_rfl))
  f302 := Tryz.func149.trans (congrArg some (by kernel_rfl))
  f303 := Tryz.func150.trans (congrArg some (by kernel_rfl))
  f304 := Tryz.func151.trans (congrArg some (by kernel_rfl))
  f305 := Tryz.func152.trans (congrArg some (by kernel_rfl))
  f306 := Tryz.func153.trans (congrArg some (by kernel_rfl))
  f307 := Tryz.func154.trans (congrArg some (by kernel_rfl))
  f308 := Tryz.func155.trans (congrArg some (by kernel_rfl))
  f309 := Tryz.func156.trans (congrArg some (by kernel_rfl))
  f310 := Tryz.func157.trans (congrArg some (by kernel_rfl))
  f329 := Tryz.func161.trans (congrArg some (by kernel_rfl))
  f330 := Tryz.func162.trans (congrArg some (by kernel_rfl))
  f333 := Tryz.func160.trans (congrArg some (by kernel_rfl))
  f334 := Tryz.func163.trans (congrArg some (by kernel_rfl))
  f335 := Tryz.func164.trans (congrArg some (by kernel_rfl))
  f336 := Tryz.func165.trans (congrArg some (by kernel_rfl))
  f344 := Tryz.func166.trans (congrArg some (by kernel_rfl))
  t0 := Tryz.underlying0
  a0 := Tryz.isAgg0
  z0 := Tryz.sizeOf0
  v0 := Tryz.zeroValue0
  t3 := Tryz.underlying3
  a3 := Tryz.isAgg3
  z3 := Tryz.sizeOf3
  v3 := Tryz.zeroValue3
  t4 := Tryz.underlying4
  a4 := Tryz.isAgg4
  z4 := Tryz.sizeOf4
  v4 := Tryz.zeroValue4
  t5 := Tryz.underlying5
  a5 := Tryz.isAgg5
  z5 := Tryz.sizeOf5
  v5 := Tryz.zeroValue5
  t9 := Tryz.underlying9
  a9 := Tryz.isAgg9
  z9 := Tryz.sizeOf9
  v9 := Tryz.zeroValue9
  t31 := Tryz.underlying52
  a31 := Tryz.isAgg52
  z31 := Tryz.sizeOf52
  v31 := Tryz.zeroValue52
  t46 := Tryz.underlying157
  a46 := Tryz.isAgg157
  z46 := Tryz.sizeOf157
  v46 := Tryz.zeroValue157
  t51 := Tryz.underlying119
  a51 := Tryz.isAgg119
  z51 := Tryz.sizeOf119
  v51 := Tryz.zeroValue119
  t53 := Tryz.underlying170
  a53 := Tryz.isAgg170
  z53 := Tryz.sizeOf170
  v53 := Tryz.zeroValue170
  t131 := Tryz.underlying166
  a131 := Tryz.isAgg166
  z131 := Tryz.sizeOf166
  v131 := Tryz.zeroValue166
  t182 := Tryz.underlying160
  a182 := Tryz.isAgg160
  z182 := Tryz.sizeOf160
  v182 := Tryz.zeroValue160
  t183 := Tryz.underlying161
  a183 := Tryz.isAgg161
  z183 := Tryz.sizeOf161
  v183 := Tryz.zeroValue161
  t218 := Tryz.underlying171
  a218 := Tryz.isAgg171
  z218 := Tryz.sizeOf171
  v218 := Tryz.zeroValue171
  t222 := Tryz.underlying175
  a222 := Tryz.isAgg175
  z222 := Tryz.sizeOf175
  v222 := Tryz.zeroValue175
  t228 := Tryz.underlying178
  a228 := Tryz.isAgg178
  z228 := Tryz.sizeOf178
  v228 := Tryz.zeroValue178
  t229 := Tryz.underlying179
  a229 := Tryz.isAgg179
  z229 := Tryz.sizeOf179
  v229 := Tryz.zeroValue179

section
variable {T : TypeId → Sh} {ρ : Env} {h : Heap} {w : World}
theorem leaves_strs (l : List (List UInt8)) : leavesL (l.map fun n => D.lit (encStr n)) = l.map fun n => D.lit (encStr n) := by
  have := leaves_lits (l.map fun n => encStr n)
  rw [List.map_map] at this
  exact this
theorem put_strs (c : Array Value) (l : List (List UInt8)) (h : l.length ≤ c.size) : (Go.Sort.putCells encStr 0 l.toArray c).toList = l.map encStr ++ c.toList.drop l.length := by
  apply List.ext_getElem?
  intro j
  rw [List.getElem?_append]
  simp only [List.length_map, Array.getElem?_toList, Go.Sort.putCells, Array.getElem?_mapIdx, List.getElem?_map, List.getElem?_drop]
  by_cases hj : j < l.length
  · rw [if_pos hj, Array.getElem?_eq_getElem (by omega), List.getElem?_eq_getElem hj]
    simp [hj]
  · rw [if_neg hj]
    have e : l.length + (j - l.length) = j := by omega
    rw [e]
    cases hc : c[j]? with
    | none => simp
    | some x => simp [show ¬ j < l.length from hj]
end


/-- Texts' bytes, rising. -/
abbrev sortB (l : List (List UInt8)) : List (List UInt8) := l.mergeSort fun x y => decide (x ≤ y)
theorem sortS_nil (tk' : Tok) (bs : List (Sh × D)) (tk : List Bool) : ASpec Tryz.prog CT 144 [.lst 9 [] tk'] ⟨bs, tk⟩ fun r h' => r = .tup [] ∧ h' = ⟨bs, tk⟩ := by
  refine ⟨⟨_, Tryz.func144, rfl, by kernel_rfl⟩, ?_⟩
  intro ρ w vs hr hv
  obtain ⟨v, rfl, hv1⟩ := one_arg hv
  have key : ∃ p cap, v = .slice p 0 cap := by
    rcases vv_lst hv1 with ⟨h1, h2⟩ | ⟨ad, cap, cs, h1, _⟩
    · exact ⟨none, 0, h1⟩
    · exact ⟨some ad, cap, h1⟩
  obtain ⟨p, cap, rfl⟩ := key
  have hs : Calls Tryz.prog 144 #[.slice p 0 cap] w fun e w' => e = .returned (.tuple #[]) ∧ w' = w := Any.slices_Sort_string_none sortLayS p cap w
  refine hs.mono ?_
  rintro e w' ⟨rfl, rfl⟩
  exact ⟨_, .tup [], _, ρ, rfl, .refl _ _, hr, .tup (vs := []) (l := []) rfl (by simp), rfl, rfl⟩

theorem sortS_sl (l : List (List UInt8)) (hl : l.length < 4611686018427387904) {L : List D} {N b : Nat} {bs : List (Sh × D)} (tk : List Bool) (hb : bs[b]? = some (.arr N (CT.sh 9), .agg L)) (hln : l.length ≤ N) (ht : L.take l.length = l.map fun n => .lit (encStr n)) :
    ASpec Tryz.prog CT 144 [.sl 9 b 0 l.length N] ⟨bs, tk⟩ fun r h' => r = .tup [] ∧ h' = ⟨bs.set b (.arr N (CT.sh 9), .agg (overL L 0 ((sortB l).map fun n => .lit (encStr n)))), tk⟩ := by
  refine ⟨⟨_, Tryz.func144, rfl, by kernel_rfl⟩, ?_⟩
  intro ρ w vs hr hv
  obtain ⟨v, rfl, hv1⟩ := one_arg hv
  obtain ⟨B, N', o, rfl, hbox, hc, hn, hm, ho⟩ := vv_sl hv1
  obtain ⟨e1, hsh, cc, t, hw, ha⟩ := real_box hr hbox hb rfl
  cases e1
  obtain ⟨hL, hsL⟩ := hsh
  simp only [leaves] at ha
  have hsz1 : (CT.sh 9).size = 1 := rfl
  have hsh1 : ∀ n : List UInt8, hasSh (CT.sh 9) (.lit (encStr n)) := fun n => (by kernel_rfl : (D.lit (encStr n)).isLeaf = true)
  have hcs : cc.size = N := by rw [← Array.length_toList, ha.1, cells_rd hsL, hL, hsz1, Nat.mul_one]
  have hsl : (sortB l).length = l.length := List.length_mergeSort l
  by_cases h0 : N = 0
  · have hl0 : l = [] := List.eq_nil_of_length_eq_zero (by omega)
    subst hl0
    have hs : Calls Tryz.prog 144 #[.slice (some ⟨B, o, none⟩) 0 N] w fun e w' => e = .returned (.tuple #[]) ∧ w' = w := Any.slices_Sort_string_none sortLayS _ N w
    refine hs.mono ?_
    rintro e w' ⟨rfl, rfl⟩
    refine ⟨_, .tup [], _, ρ, rfl, .refl _ _, ?_, .tup (vs := []) (l := []) rfl (by simp), rfl, rfl⟩
    have h1 : sortB [] = [] := by simp [sortB]
    have h2 : bs.set b (.arr N (CT.sh 9), .agg (overL L 0 ((sortB []).map fun n => .lit (encStr n)))) = bs := by
      rw [h1]
      simp only [overL, List.map_nil, List.take_zero, List.nil_append, List.length_nil, Nat.add_zero, List.drop_zero]
      apply List.ext_getElem?
      intro j
      rw [List.getElem?_set]
      split
      · rename_i e; subst e; rw [hb]; simp [(List.getElem?_eq_some_iff.1 hb).1]
      · rfl
    rw [h2]; exact hr
  · have hoo := ho h0
    rw [Nat.zero_mul] at hoo
    subst hoo
    have hcell : ∀ j, j < l.length → cc[j]? = some (encStr (l.getD j [])) := by
      intro j hj
      have h1 : (leavesL L)[j]? = some (.lit (encStr (l.getD j []))) := by
        have h2 := (leavesL_take hsL (k := l.length) (by omega)).1
        rw [ht, leaves_strs, hsz1, Nat.mul_one] at h2
        have h3 : ((leavesL L).take l.length)[j]? = some (.lit (encStr (l.getD j []))) := by
          rw [← h2, List.getElem?_map, List.getElem?_eq_getElem hj, List.getD_eq_getElem?_getD, List.getElem?_eq_getElem hj]; rfl
        rw [List.getElem?_take_of_lt hj] at h3
        exact h3
      have h4 : j < cc.toList.length := by rw [Array.length_toList, hcs]; omega
      have h5 := ha.2 j _ _ (List.getElem?_eq_getElem h4) h1
      rw [← Array.getElem?_toList, List.getElem?_eq_getElem h4, vv_lit h5]
    have hH : Go.Sort.Holds encStr w B 0 l.toArray := by
      intro j hj
      have hj' : j < l.length := by simpa using hj
      refine ⟨?_, by simp [World.frozen?, hw]⟩
      simp only [World.cell?, hw, Nat.zero_add, Option.isSome_none, Bool.false_eq_true, if_false, hcell j hj']
      simp [List.getD_eq_getElem?_getD, hj']
    have hB : B < w.heap.size := (Array.getElem?_eq_some_iff.1 hw).1
    have hs : Calls Tryz.prog 144 #[.slice (some ⟨B, 0, none⟩) l.length N] w fun e w' => e = .returned (.tuple #[]) ∧ ∃ n os, w' = Go.Sort.grow (Go.Sort.putRow encStr (Go.Sort.ahead w n) B 0 (sortB l).toArray) os :=
      Any.slices_Sort_string sortLayS B 0 N l w hH hB hl
    refine hs.mono ?_
    rintro e w' ⟨rfl, n, os, rfl⟩
    obtain ⟨r1, x1⟩ := real_ahead n hr
    obtain ⟨k1, k2, k3⟩ := over_leaves hsL (m := (sortB l).map fun n => .lit (encStr n)) (k := 0) (by intro d hd; obtain ⟨n, _, rfl⟩ := List.mem_map.1 hd; exact hsh1 n) (by simp [hsl]; omega)
    have hput : (Go.Sort.putRow encStr (Go.Sort.ahead w n) B 0 (sortB l).toArray).heap[B]? = some (.cells (Go.Sort.putCells encStr 0 (sortB l).toArray cc) t (0, 0)) := by
      simp [Go.Sort.putRow, Go.Sort.mapBlock, Go.Sort.ahead, Array.getElem?_modify, hw, Go.Sort.onCells]
    have hother : ∀ k, k ≠ B → (Go.Sort.putRow encStr (Go.Sort.ahead w n) B 0 (sortB l).toArray).heap[k]? = (Go.Sort.ahead w n).heap[k]? := by
      intro k hk
      simp only [Go.Sort.putRow, Go.Sort.mapBlock, Array.getElem?_modify]
      rw [if_neg (fun e => hk e.symm)]
    have r2 := box_set r1 hbox hb rfl (d' := .agg (overL L 0 ((sortB l).map fun n => .lit (encStr n)))) ⟨by rw [k2]; exact hL, k3⟩ _ (by
      simp only [leaves]
      rw [k1, put_strs cc _ (by omega), leaves_strs, Nat.zero_mul, List.take_zero, List.nil_append, Nat.zero_add, List.length_map]
      refine All2.append ⟨by simp, ?_⟩ (ha.drop _)
      intro i c d hc hd
      rw [List.getElem?_map, Option.map_eq_some_iff] at hc hd
      obtain ⟨x, hx, rfl⟩ := hc
      obtain ⟨y, hy, rfl⟩ := hd
      rw [hx] at hy; cases hy
      exact .lit _) _ t hput (by simp [Go.Sort.putRow, Go.Sort.mapBlock]) hother
    have x2 := box_ext r1 hbox (w' := Go.Sort.putRow encStr (Go.Sort.ahead w n) B 0 (sortB l).toArray) rfl rfl rfl (by simp [Go.Sort.putRow, Go.Sort.mapBlock]) hother
    obtain ⟨r3, x3⟩ := real_grow os.toList r2
    exact ⟨_, .tup [], _, ρ, rfl, (x1.trans x2).trans x3, r3, .tup (vs := []) (l := []) rfl (by simp), rfl, rfl⟩
end Go.Ab
set_option linter.unusedSimpArgs false
namespace Go.Ab
open Go.Proofs

/-- Put ahead of the first such one. -/
def insB {α : Type} (g : α → Bool) (x : α) : List α → List α
  | [] => [x]
  | y :: r => if g y then x :: y :: r else y :: insB g x r
section
variable {α : Type} {g : α → Bool} {x y : α}
theorem insB_len (g : α → Bool) (x : α) : ∀ l : List α, (insB g x l).length = l.length + 1
  | [] => rfl
  | y :: r => by unfold insB; split <;> simp [insB_len g x r]
theorem take_snocG [Inhabited α] (l : List α) (k : Nat) (hk : k < l.length) : l.take (k + 1) = l.take k ++ [l.getD k default] := by
  rw [List.take_add_one, List.getElem?_eq_getElem hk, List.getD_eq_getElem?_getD, List.getElem?_eq_getElem hk]; rfl
end
def markLt (a b : MarkR) : Bool := decide (a.p < b.p) || (decide (a.p = b.p) && (decide (a.s < b.s) || (decide (a.s = b.s) && decide (a.i < b.i))))
theorem any_at {α : Type} [Inhabited α] {p : α → Bool} {l : List α} {k : Nat} (hk : k < l.length) (h : p (l.getD k default) = true) : l.any p = true :=
  List.any_eq_true.2 ⟨_, by rw [List.getD_eq_getElem?_getD, List.getElem?_eq_getElem hk]; exact List.getElem_mem hk, h⟩
theorem any_no {α : Type} [Inhabited α] {p : α → Bool} {l : List α} (h : ∀ q, q < l.length → p (l.getD q default) = false) : l.any p = false := by
  rw [List.any_eq_false]
  intro x hx
  obtain ⟨i, hi, rfl⟩ := List.getElem_of_mem hx
  have := h i hi
  rw [List.getD_eq_getElem?_getD, List.getElem?_eq_getElem hi] at this
  simpa using this
theorem next_bad {k : Nat} {f : Nat → Bool} (hp : ∀ p, p < k → f p = false) (h : f k = false) : ∀ p, p < k + 1 → f p = false := fun p hpk => by
  by_cases e : p = k
  · subst e; exact h
  · exact hp p (by omega)
theorem eqB_mk (a1 a2 a3 b1 b2 b3 : Int) : eqB (.agg [.agg [.lit (.int .i64 a1), .lit (.int .i64 a2)], .lit (.int .i64 a3)]) (.agg [.agg [.lit (.int .i64 b1), .lit (.int .i64 b2)], .lit (.int .i64 b3)]) = decide ((⟨a1, a2, a3⟩ : MarkR) = ⟨b1, b2, b3⟩) := by
  refine eqB_eq ?_
  simp [MarkR.mk.injEq, and_assoc]
theorem decM (a b : MarkR) : (decide (a.p = b.p) && (decide (a.s = b.s) && decide (a.i = b.i))) = decide (a = b) := by
  rw [Bool.eq_iff_iff]
  cases a; cases b
  simp [MarkR.mk.injEq]
theorem insB_insAt {α : Type} [Inhabited α] {g : α → Bool} {x : α} : ∀ {l : List α} {k : Nat}, k ≤ l.length → (∀ q, q < k → g (l.getD q default) = false) → (k < l.length → g (l.getD k default) = true) → insB g x l = insAt l k x
  | [], k, hk, _, _ => by
    obtain rfl : k = 0 := by simpa using hk
    rfl
  | y :: r, 0, _, _, h => by
    have : g y = true := by simpa using h (by simp)
    simp [insB, insAt, this]
  | y :: r, k + 1, hk, h1, h2 => by
    have hy : g y = false := by simpa using h1 0 (by omega)
    have ih := insB_insAt (g := g) (x := x) (l := r) (k := k) (by simpa using hk) (fun q hq => by simpa using h1 (q + 1) (by omega)) (fun hq => by simpa using h2 (by simpa using hq))
    simp [insB, insAt, hy, ih]
theorem markLt_asymm {a b : MarkR} (h : markLt a b = true) : markLt b a = false := by
  cases hb : markLt b a with
  | false => rfl
  | true =>
    simp only [markLt, Bool.or_eq_true, Bool.and_eq_true, decide_eq_true_eq] at h hb
    omega
theorem markLt_total {a b : MarkR} (h : markLt a b = false) (hne : a ≠ b) : markLt b a = true := by
  cases hb : markLt b a with
  | true => rfl
  | false =>
    exfalso
    apply hne
    cases a; cases b
    simp only [markLt, Bool.or_eq_false_iff, Bool.and_eq_false_iff, decide_eq_false_iff_not] at h hb
    simp only [MarkR.mk.injEq]
    omega
def bLt (a b : ByteArray) : Bool := Op.bytesLess a.toList b.toList
def goesB (x : ByteArray) : ByteArray → Bool := fun y => bLt x y
def sameB (x : ByteArray) : ByteArray → Bool := fun y => decide (y = x)
def riseL (l : List ByteArray) (x : ByteArray) : List ByteArray := if l.any (sameB x) then l else insB (goesB x) x l
def encB (x : ByteArray) : D := .lit (.string x)
instance : Inhabited ByteArray := ⟨⟨#[]⟩⟩
theorem txt_snoc (l : List ByteArray) (x : ByteArray) : (l.map fun s => D.lit (.string s)) ++ [.lit (.string x)] = (l ++ [x]).map fun s => .lit (.string s) := by simp
def risesL (l : List ByteArray) : List ByteArray := l.foldl riseL []
def addT (o : List ByteArray) (x : ByteArray) : List ByteArray := if o.any (sameB x) then o else o ++ [x]
def dedupT (l : List ByteArray) : List ByteArray := l.foldl addT []
def bytesOf (l : List ByteArray) : List (List UInt8) := l.map fun x => x.data.toList
def sortT (l : List ByteArray) : List ByteArray := (sortB (bytesOf l)).map fun n => ⟨n.toArray⟩
theorem enc_bytes (l : List ByteArray) : (bytesOf l).map (fun n => D.lit (encStr n)) = l.map fun x => D.lit (.string x) := by
  simp only [bytesOf, List.map_map]
  refine List.map_congr_left fun x _ => ?_
  cases x with | mk a => simp [encStr]
theorem enc_sorted (l : List ByteArray) : (sortB (bytesOf l)).map (fun n => D.lit (encStr n)) = (sortT l).map fun x => D.lit (.string x) := by
  simp only [sortT, List.map_map]
  refine List.map_congr_left fun n _ => ?_
  simp [encStr]
abbrev kS : ByteArray → D := fun x => .lit (.string x)
theorem less_lt : ∀ (x y : List UInt8), Op.bytesLess x y = decide (x < y)
  | [], [] => by simp [Op.bytesLess]
  | _ :: _, [] => by simp [Op.bytesLess]
  | [], _ :: _ => by simp [Op.bytesLess]
  | a :: x, b :: y => by
    rw [Op.bytesLess, less_lt x y]
    simp only [List.cons_lt_cons_iff]
    by_cases h1 : a < b <;> by_cases h2 : a = b <;> by_cases h3 : x < y <;> simp [h1, h2, h3]
theorem bLt_iff (a b : ByteArray) : bLt a b = true ↔ a.data.toList < b.data.toList := by
  rw [bLt, less_lt, Lib.toList_data, Lib.toList_data]; simp
theorem txt_inj {a b : ByteArray} (h : a.data.toList = b.data.toList) : a = b := by
  cases a with | mk x => cases b with | mk y =>
  have : x = y := by rw [← Array.toList_inj]; exact h
  rw [this]
theorem lt_tr {a b c : List UInt8} (h : a < b) (k : b < c) : a < c := by
  have h1 : a ≤ c := List.le_trans (List.le_of_lt h) (List.le_of_lt k)
  rcases List.le_total c a with h2 | h2
  · exact absurd (List.le_antisymm (List.le_of_lt h) (List.le_trans (List.le_of_lt k) h2)) (fun e => by subst e; exact List.lt_irrefl _ h)
  · rw [← List.not_le]
    intro h3
    have e := List.le_antisymm h3 h1
    subst e
    have e2 := List.le_antisymm (List.le_of_lt h) (List.le_of_lt k)
    subst e2
    exact List.lt_irrefl _ h
theorem bLt_trans {a b c : ByteArray} (h : bLt a b = true) (k : bLt b c = true) : bLt a c = true := by
  rw [bLt_iff] at *; exact lt_tr h k
theorem bLt_irr (a : ByteArray) : bLt a a = false := by
  cases h : bLt a a with
  | false => rfl
  | true => rw [bLt_iff] at h; exact absurd h (List.lt_irrefl _)
theorem bLt_total {a b : ByteArray} (h : bLt a b = false) (hne : a ≠ b) : bLt b a = true := by
  rw [bLt_iff]
  have h1 : ¬ a.data.toList < b.data.toList := fun e => by rw [(bLt_iff a b).2 e] at h; cases h
  rw [List.not_lt] at h1
  rw [← List.not_le]
  intro h2
  exact hne (txt_inj (List.le_antisymm h2 h1))
theorem mem_insB {α : Type} {g : α → Bool} {x z : α} : ∀ {l : List α}, z ∈ insB g x l ↔ z = x ∨ z ∈ l
  | [] => by simp [insB]
  | y :: r => by
    unfold insB
    split
    · simp
    · simp only [List.mem_cons, mem_insB (l := r)]
      constructor <;> (rintro (h | h | h) <;> simp [h])
def Rising (l : List ByteArray) : Prop := l.Pairwise fun a b => bLt a b = true
theorem sortT_spec {l : List ByteArray} (hn : l.Nodup) : Rising (sortT l) ∧ ∀ z, z ∈ sortT l ↔ z ∈ l := by
  have hp : (sortB (bytesOf l)).Perm (bytesOf l) := List.mergeSort_perm _ _
  have hnb : (bytesOf l).Nodup := by
    rw [bytesOf, List.Nodup, List.pairwise_map]
    exact hn.imp fun h e => h (txt_inj e)
  have hs : (sortB (bytesOf l)).Pairwise fun a b => a < b := by
    have h1 := List.pairwise_mergeSort (le := fun x y : List UInt8 => decide (x ≤ y)) (fun a b c => by simpa using List.le_trans) (fun a b => by simpa using List.le_total a b) (bytesOf l)
    have h2 : (sortB (bytesOf l)).Nodup := hp.nodup_iff.2 hnb
    refine (h1.and h2).imp ?_
    rintro a b ⟨h3, h4⟩
    simp only [decide_eq_true_eq] at h3
    rw [← List.not_le]
    intro h5
    exact h4 (List.le_antisymm h3 h5)
  refine ⟨?_, fun z => ?_⟩
  · rw [Rising, sortT, List.pairwise_map]
    refine hs.imp fun h => ?_
    rw [bLt_iff]; simpa using h
  · simp only [sortT, List.mem_map]
    constructor
    · rintro ⟨n, hn1, rfl⟩
      have := hp.mem_iff.1 hn1
      simp only [bytesOf, List.mem_map] at this
      obtain ⟨x, hx, rfl⟩ := this
      cases x with | mk a => simpa using hx
    · intro hz
      refine ⟨z.data.toList, hp.mem_iff.2 (List.mem_map.2 ⟨z, hz, rfl⟩), ?_⟩
      cases z with | mk a => simp
theorem rising_ext {l m : List ByteArray} (h1 : Rising l) (h2 : Rising m) (h : ∀ z, z ∈ l ↔ z ∈ m) : l = m := by
  have nd : ∀ {l : List ByteArray}, Rising l → l.Nodup := fun h => h.imp fun {a b} hab e => by subst e; rw [bLt_irr] at hab; cases hab
  refine List.Perm.eq_of_pairwise (le := fun a b => bLt a b = true) (fun a b _ _ h3 h4 => ?_) h1 h2 ((List.perm_ext_iff_of_nodup (nd h1) (nd h2)).2 h)
  have := bLt_trans h3 h4
  rw [bLt_irr] at this; cases this
theorem markLt_trans {a b c : MarkR} (h : markLt a b = true) (k : markLt b c = true) : markLt a c = true := by
  simp only [markLt, Bool.or_eq_true, Bool.and_eq_true, decide_eq_true_eq] at *
  omega
theorem markLt_irr (a : MarkR) : markLt a a = false := by simp [markLt]
theorem pairwise_of_next {α : Type} [Inhabited α] {R : α → α → Prop} (tr : ∀ a b c, R a b → R b c → R a c) : ∀ {l : List α}, (∀ k, 0 < k → k < l.length → R (l.getD (k - 1) default) (l.getD k default)) → l.Pairwise R
  | [], _ => .nil
  | [x], _ => by simp
  | x :: y :: r, h => by
    have h1 : R x y := by have := h 1 (by omega) (by simp); simpa using this
    have h2 : (y :: r).Pairwise R := pairwise_of_next tr fun k hk hl => by
      have := h (k + 1) (by omega) (by simpa using hl)
      have e : (x :: y :: r).getD (k + 1 - 1) default = (y :: r).getD (k - 1) default := by
        obtain ⟨j, rfl⟩ : ∃ j, k = j + 1 := ⟨k - 1, by omega⟩
        simp
      rw [e] at this
      simpa using this
    refine List.pairwise_cons.2 ⟨?_, h2⟩
    intro z hz
    rcases List.mem_cons.1 hz with rfl | hz
    · exact h1
    · exact tr _ _ _ h1 ((List.pairwise_cons.1 h2).1 z hz)
theorem next_of_pairwise {α : Type} [Inhabited α] {R : α → α → Prop} {l : List α} (h : l.Pairwise R) {k : Nat} (hk : 0 < k) (hl : k < l.length) : R (l.getD (k - 1) default) (l.getD k default) := by
  have := List.pairwise_iff_getElem.1 h (k - 1) k (by omega) hl (by omega)
  rw [List.getD_eq_getElem?_getD, List.getD_eq_getElem?_getD, List.getElem?_eq_getElem hl, List.getElem?_eq_getElem (by omega)]
  exact this
theorem mem_kept {α : Type} {p : α → Bool} {l : List α} {z : α} : z ∈ keptL p l ↔ z ∈ l ∧ p z = false := by
  simp [keptL]
end Go.Ab
