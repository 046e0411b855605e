/- Data without tokens, all the way down: calls with slices of slices. Conditions: none. -/
import Derived.Test.YtehcjnendfpbaaaGreatAbHs
import Derived.Test.YtehcjnendfpbaaaGreatTxI
import Derived.Test.YtehcjnendfpbaaaGreatAbT
import Derived.Shelf.Sort.Plain
import Derived.Shelf.Slices.In.SortNone
namespace Go.Ab
mutual
def deep : D → D
  | .agg l => .agg (deepL l)
  | .lst e l _ => .lst e (deepL l) .no
  | .tup l => .tup (deepL l)
  | .lit v => .lit v
  | .ref s d => .ref s d
  | .ptr b p => .ptr b p
  | .fn f c => .fn f c
  | .ifc t d => .ifc t d
  | .mref b => .mref b
  | .mp k v g => .mp k v g
  | .it m g s => .it m g s
  | .sl e b lo n c => .sl e b lo n c
def deepL : List D → List D
  | [] => []
  | d :: r => deep d :: deepL r
end
theorem deepL_map (l : List D) : deepL l = l.map deep := by
  induction l with
  | nil => rfl
  | cons d r ih => simp [deepL, ih]
mutual
theorem leaves_deep : ∀ d : D, leaves (deep d) = (leaves d).map deep
  | .agg l => by simp only [deep, leaves]; exact leavesL_deep l
  | .lit v => by simp [deep, leaves]
  | .lst e l t => by simp [deep, leaves]
  | .ref s d => by simp [deep, leaves]
  | .ptr b p => by simp [deep, leaves]
  | .fn f c => by simp [deep, leaves]
  | .tup l => by simp [deep, leaves]
  | .ifc t d => by simp [deep, leaves]
  | .mref b => by simp [deep, leaves]
  | .mp k v g => by simp [deep, leaves]
  | .it m g s => by simp [deep, leaves]
  | .sl e b lo n c => by simp [deep, leaves]
theorem leavesL_deep : ∀ l : List D, leavesL (deepL l) = (leavesL l).map deep
  | [] => by simp [deepL, leavesL]
  | d :: r => by simp only [deepL, leavesL, List.map_append]; rw [leaves_deep d, leavesL_deep r]
end
theorem hasSh_deep {s : Sh} : ∀ {d : D}, hasSh s d → hasSh s (deep d) := by
  induction s with
  | leaf => intro d h; cases d <;> simp_all [hasSh, deep, D.isLeaf]
  | obj k => intro d h; cases d <;> simp_all [hasSh, deep, D.isLeaf]
  | unit =>
    intro d h
    cases d with
    | agg l => simp only [hasSh] at h; subst h; simp [deep, deepL, hasSh]
    | _ => exact h.elim
  | pair a b iha ihb =>
    intro d h
    cases d with
    | agg l =>
      obtain ⟨x, r, rfl, h1, h2⟩ := h
      exact ⟨deep x, deepL r, rfl, iha h1, by have := ihb h2; simpa [deep] using this⟩
    | _ => exact h.elim
  | arr n s ih =>
    intro d h
    cases d with
    | agg l =>
      obtain ⟨h1, h2⟩ := h
      refine ⟨by rw [deepL_map, List.length_map]; exact h1, fun x hx => ?_⟩
      rw [deepL_map] at hx
      obtain ⟨y, hy, rfl⟩ := List.mem_map.1 hx
      exact ih (h2 y hy)
    | _ => exact h.elim
theorem vp_deep {T : TypeId → Sh} {S : Nat → Nat → Option Value} {v : Value} {d : D} (h : VP T S v d) : VP T S v (deep d) := by
  induction h with
  | lit v => exact .lit v
  | @agg cs l hl _ ih =>
    refine .agg (by rw [leavesL_deep, List.length_map]; exact hl) ?_
    intro i c d hc hd
    rw [leavesL_deep, List.getElem?_map, Option.map_eq_some_iff] at hd
    obtain ⟨x, hx, rfl⟩ := hd
    exact ih i c x hc hx
  | nil _ => exact .nil (by simp)
  | @lst a cap e l t cs hr hl _ hs hc hm _ _ ih =>
    have hlen : (deepL l).length = l.length := by rw [deepL_map, List.length_map]
    have : VP T S (.slice (some a) (deepL l).length cap) (.lst e (deepL l) .no) := by
      refine .lst cs hr (by rw [leavesL_deep, List.length_map]; exact hl) ?_ ?_ (by rw [hlen]; exact hc) hm (by simp) (by simp)
      · intro i c d hc hd
        rw [leavesL_deep, List.getElem?_map, Option.map_eq_some_iff] at hd
        obtain ⟨x, hx, rfl⟩ := hd
        exact ih i c x hc hx
      · intro d hd
        rw [deepL_map] at hd
        obtain ⟨y, hy, rfl⟩ := List.mem_map.1 hd
        exact hasSh_deep (hs y hy)
    rw [hlen] at this
    exact this
  | ref cs hr hl h hs _ => exact .ref cs hr hl h hs
  | ifc h _ => exact .ifc h
theorem vv_deep {T : TypeId → Sh} {ρ : Env} {v : Value} {d : D} (h : VV T ρ v d) : VV T ρ v (deep d) := by
  induction h with
  | pure h => exact .pure (vp_deep h)
  | @agg cs l hl _ ih =>
    refine .agg (by rw [leavesL_deep, List.length_map]; exact hl) ?_
    intro i c d hc hd
    rw [leavesL_deep, List.getElem?_map, Option.map_eq_some_iff] at hd
    obtain ⟨x, hx, rfl⟩ := hd
    exact ih i c x hc hx
  | ownNil _ => exact .pure (.nil (by simp))
  | own _ _ hv => have := vp_deep hv; exact .pure this
  | ptr h hp => exact .ptr h hp
  | fn hl h _ => exact .fn hl h
  | bnd hl h _ => exact .bnd hl h
  | @tup vs l hl _ ih =>
    simp only [deep]
    refine .tup (by rw [deepL_map, List.length_map]; exact hl) ?_
    intro i c d hc hd
    rw [deepL_map, List.getElem?_map, Option.map_eq_some_iff] at hd
    obtain ⟨x, hx, rfl⟩ := hd
    exact ih i c x hc hx
  | mref h => exact .mref h
  | sl h hc hn hm ho => exact .sl h hc hn hm ho
section
variable {P : Program} {C : Tab}
theorem ASpec.deep {f : FuncId} {args : List D} {h : Heap} {R : D → Heap → Prop} (hs : ASpec P C f (args.map deep) h R) : ASpec P C f args h R :=
  ⟨hs.1, fun ρ w vs hr hv => hs.2 ρ w vs hr ⟨by rw [hv.1, List.length_map], fun i c d hc hd => by
    rw [List.getElem?_map, Option.map_eq_some_iff] at hd
    obtain ⟨x, hx, rfl⟩ := hd
    exact vv_deep (hv.2 i c x hc hx)⟩⟩
end
end Go.Ab
set_option linter.unusedSimpArgs false
namespace Go.Ab
open Go.Proofs

structure MarkR where
  p : Int
  s : Int
  i : Int
  deriving DecidableEq
abbrev MarkR.d (m : MarkR) : D := markD m.p m.s m.i
structure AmountR where
  m : MarkR
  n : Int
  deriving DecidableEq
structure WriteR where
  m : MarkR
  time : Int
  text : ByteArray
  deriving DecidableEq
structure MemberR where
  text : ByteArray
  base : Bool
  marks : List MarkR
  deriving DecidableEq
structure ElemR where
  m : MarkR
  time : Int
  ref : MarkR
  text : ByteArray
  gone : List MarkR
  deriving DecidableEq
structure CellR where
  kind : Int
  base : Int
  am : List AmountR
  wr : List WriteR
  me : List MemberR
  el : List ElemR
abbrev amD (a : AmountR) : D := .agg [a.m.d, .lit (.int .i64 a.n)]
abbrev wrD (w : WriteR) : D := .agg [w.m.d, .lit (.int .i64 w.time), .lit (.string w.text)]
abbrev marksD (l : List MarkR) (t : Tok) : D := .lst 36 (l.map MarkR.d) t
abbrev meD (m : MemberR) : D := .agg [.lit (.string m.text), .lit (.bool m.base), marksD m.marks .no]
abbrev elD (e : ElemR) : D := .agg [e.m.d, .lit (.int .i64 e.time), e.ref.d, .lit (.string e.text), marksD e.gone .no]
abbrev wrsD (l : List WriteR) (t : Tok) : D := .lst 64 (l.map wrD) t
abbrev cellD (c : CellR) : D := .agg [.lit (.int .i64 c.kind), .lit (.int .i64 c.base), .lst 72 (c.am.map amD) .no, wrsD c.wr .no, .lst 67 (c.me.map meD) .no, .lst 69 (c.el.map elD) .no]
abbrev textsD (l : List ByteArray) (t : Tok) : D := .lst 9 (l.map fun s => .lit (.string s)) t
structure ValueR where
  kind : Int
  n : Int
  texts : List ByteArray
abbrev valD (v : ValueR) : D := .agg [.lit (.int .i64 v.kind), .lit (.int .i64 v.n), textsD v.texts .no, .lst 83 [] .no]
instance : Inhabited MarkR := ⟨⟨0, 0, 0⟩⟩
instance : Inhabited AmountR := ⟨⟨default, 0⟩⟩
instance : Inhabited WriteR := ⟨⟨default, 0, ⟨#[]⟩⟩⟩
instance : Inhabited MemberR := ⟨⟨⟨#[]⟩, false, []⟩⟩
instance : Inhabited ElemR := ⟨⟨default, 0, default, ⟨#[]⟩, []⟩⟩


/-- Cells whose slices are no longer than memory lets them be. -/
structure CellR.ok (c : CellR) : Prop where
  am : c.am.length ≤ 4398046511104
  wr : c.wr.length ≤ 4398046511104
  me : c.me.length ≤ 4398046511104
  el : c.el.length ≤ 4398046511104
theorem pure_cell (c : CellR) : pureD (cellD c) := by simp [pureD, pureL]
theorem melt_cell (bs : List (Sh × D)) (c : CellR) : meltD bs 0 (cellD c) = cellD c := by simp [meltD, meltL]
theorem pure_tx (t : TxR) : pureD (txD t) := by simp only [go_sem, simprocAttr]
theorem pure_val (v : ValueR) : pureD (valD v) := by simp [pureD, pureL]
end Go.Ab
set_option linter.unusedSimpArgs false
namespace Go.Ab
open Go.Proofs
section
variable {C : Tab}


end
end Go.Ab
set_option linter.unusedSimpArgs false
namespace Go.Ab
open Go.Proofs

section
variable {T : TypeId → Sh} {ρ : Env} {h : Heap} {w : World}
theorem grow_cons (w : World) (o : Obj) (os : List Obj) : Go.Sort.grow w (o :: os).toArray = Go.Sort.grow (w.alloc o) os.toArray := by
  rw [Go.Sort.alloc_eq_grow, Go.Sort.grow_grow]; congr 1; simp
theorem real_grow (os : List Obj) : ∀ {w : World}, Real T ρ h w → Real T ρ h (Go.Sort.grow w os.toArray) ∧ Ext ρ w ρ (Go.Sort.grow w os.toArray) := by
  induction os with
  | nil => intro w r; rw [show Go.Sort.grow w ([] : List Obj).toArray = w from Go.Sort.grow_empty w]; exact ⟨r, .refl _ _⟩
  | cons o os ih =>
    intro w r
    rw [grow_cons]
    obtain ⟨k1, k2⟩ := ih (r.alloc o)
    exact ⟨k1, (Ext.alloc ρ w o).trans k2⟩
theorem real_ahead (n : Nat) : ∀ {w : World}, Real T ρ h w → Real T ρ h (Go.Sort.ahead w n) ∧ Ext ρ w ρ (Go.Sort.ahead w n) := by
  induction n with
  | zero => intro w r; exact ⟨r, .refl _ _⟩
  | succ n ih =>
    intro w r
    obtain ⟨k1, k2⟩ := ih r.drew
    have e : Go.Sort.ahead w (n + 1) = Go.Sort.ahead w.drew n := by rw [Go.Sort.drew_eq_ahead, Go.Sort.ahead_ahead, Nat.add_comm]
    rw [e]
    exact ⟨k1, (Ext.drew ρ w).trans k2⟩
theorem leaves_lits (l : List Value) : leavesL (l.map D.lit) = l.map D.lit := by
  induction l with
  | nil => rfl
  | cons x r ih => simp [leavesL, leaves, ih]
end

theorem one_arg {T : TypeId → Sh} {ρ : Env} {vs : Array Value} {d : D} (h : All2 (VV T ρ) vs.toList [d]) : ∃ v, vs = #[v] ∧ VV T ρ v d := by
  obtain ⟨h1, h2⟩ := h
  have h3 : vs.size = 1 := by simpa using h1
  refine ⟨vs[0], ?_, h2 0 _ _ (by simp [h3]) rfl⟩
  apply Array.ext
  · simp [h3]
  · intro i hi _
    have : i = 0 := by omega
    subst this; rfl

end Go.Ab
set_option linter.unusedSimpArgs false
namespace Go.Ab
open Go.Proofs

def sortLayS_ren : Go.Shelf.Ren := ⟨fun | 125 => 147 | 128 => 158 | 129 => 159 | 190 => 144 | 258 => 146 | 302 => 149 | 303 => 150 | 304 => 151 | 305 => 152 | 306 => 153 | 307 => 154 | 308 => 155 | 309 => 156 | 310 => 157 | 329 => 161 | 330 => 162 | 333 => 160 | 334 => 163 | 335 => 164 | 336 => 165 | 344 => 166 | n => n, fun | 0 => 0 | 3 => 3 | 4 => 4 | 5 => 5 | 9 => 9 | 31 => 52 | 46 => 157 | 51 => 119 | 53 => 170 | 131 => 166 | 182 => 160 | 183 => 161 | 218 => 171 | 222 => 175 | 228 => 178 | 229 => 179 | n => n, fun | n => n⟩
theorem sortLayS : Go.Proofs.Lays.n190 Tryz.prog sortLayS_ren where
  mixed := by kernel_rfl
  f125 := Tryz.func147.trans (congrArg some (by kernel_rfl))
  f128 := Tryz.func158.trans (congrArg some (by kernel_rfl))
  f129 := Tryz.func159.trans (congrArg some (by kernel_rfl))
  f190 := Tryz.func144.trans (congrArg some (by kernel_rfl))
  f258 := Tryz.func146.trans (congrArg some (by kernel_rfl))
  f302 := Tryz.func149.trans (congrArg some (by kernel_rfl))
  f303 := Tryz.func150.trans (congrArg some (by kernel_rfl))
  f304 := Tryz.func151.trans (congrArg some (by kernel_rfl))
  f305 := Tryz.func152.trans (congrArg some (by kernel_rfl))
  f306 := Tryz.func153.trans (congrArg some (by kernel_rfl))
  f307 := Tryz.func154.trans (congrArg some (by kernel_rfl))
  f308 := Tryz.func155.trans (congrArg some (by kernel_rfl))
  f309 := Tryz.func156.trans (congrArg some (by kernel_rfl))
  f310 := Tryz.func157.trans (congrArg some (by kernel_rfl))
  f329 := Tryz.func161.trans (congrArg some (by kernel_rfl))
  f330 := Tryz.func162.trans (congrArg some (by kernel_rfl))
  f333 := Tryz.func160.trans (congrArg some (by kernel_rfl))
  f334 := Tryz.func163.trans (congrArg some (by kernel_rfl))
  f335 := Tryz.func164.trans (congrArg some (by kernel_rfl))
  f336 := Tryz.func165.trans (congrArg some (by kernel_rfl))
  f344 := Tryz.func166.trans (congrArg some (by kernel_rfl))
  t0 := Tryz.underlying0
  a0 := Tryz.isAgg0
  z0 := Tryz.sizeOf0
  v0 := Tryz.zeroValue0
  t3 := Tryz.underlying3
  a3 := Tryz.isAgg3
  z3 := Tryz.sizeOf3
  v3 := Tryz.zeroValue3
  t4 := Tryz.underlying4
  a4 := Tryz.isAgg4
  z4 := Tryz.sizeOf4
  v4 := Tryz.zeroValue4
  t5 := Tryz.underlying5
  a5 := Tryz.isAgg5
  z5 := Tryz.sizeOf5
  v5 := Tryz.zeroValue5
  t9 := Tryz.underlying9
  a9 := Tryz.isAgg9
  z9 := Tryz.sizeOf9
  v9 := Tryz.zeroValue9
  t31 := Tryz.underlying52
  a31 := Tryz.isAgg52
  z31 := Tryz.sizeOf52
  v31 := Tryz.zeroValue52
  t46 := Tryz.underlying157
  a46 := Tryz.isAgg157
  z46 := Tryz.sizeOf157
  v46 := Tryz.zeroValue157
  t51 := Tryz.underlying119
  a51 := Tryz.isAgg119
  z51 := Tryz.sizeOf119
  v51 := Tryz.zeroValue119
  t53 := Tryz.underlying170
  a53 := Tryz.isAgg170
  z53 := Tryz.sizeOf170
  v53 := Tryz.zeroValue170
  t131 := Tryz.underlying166
  a131 := Tryz.isAgg166
  z131 := Tryz.sizeOf166
  v131 := Tryz.zeroValue166
  t182 := Tryz.underlying160
  a182 := Tryz.isAgg160
  z182 := Tryz.sizeOf160
  v182 := Tryz.zeroValue160
  t183 := Tryz.underlying161
  a183 := Tryz.isAgg161
  z183 := Tryz.sizeOf161
  v183 := Tryz.zeroValue161
  t218 := Tryz.underlying171
  a218 := Tryz.isAgg171
  z218 := Tryz.sizeOf171
  v218 := Tryz.zeroValue171
  t222 := Tryz.underlying175
  a222 := Tryz.isAgg175
  z222 := Tryz.sizeOf175
  v222 := Tryz.zeroValue175
  t228 := Tryz.underlying178
  a228 := Tryz.isAgg178
  z228 := Tryz.sizeOf178
  v228 := Tryz.zeroValue178
  t229 := Tryz.underlying179
  a229 := Tryz.isAgg179
  z229 := Tryz.sizeOf179
  v229 := Tryz.zeroValue179

section
variable {T : TypeId → Sh} {ρ : Env} {h : Heap} {w : World}
theorem leaves_strs (l : List (List UInt8)) : leavesL (l.map fun n => D.lit (encStr n)) = l.map fun n => D.lit (encStr n) := by
  have := leaves_lits (l.map fun n => encStr n)
  rw [List.map_map] at this
  exact this
theorem put_strs (c : Array Value) (l : List (List UInt8)) (h : l.length ≤ c.size) : (Go.Sort.putCells encStr 0 l.toArray c).toList = l.map encStr ++ c.toList.drop l.length := by
  apply List.ext_getElem?
  intro j
  rw [List.getElem?_append]
  simp only [List.length_map, Array.getElem?_toList, Go.Sort.putCells, Array.getElem?_mapIdx, List.getElem?_map, List.getElem?_drop]
  by_cases hj : j < l.length
  · rw [if_pos hj, Array.getElem?_eq_getElem (by omega), List.getElem?_eq_getElem hj]
    simp [hj]
  · rw [if_neg hj]
    have e : l.length + (j - l.length) = j := by omega
    rw [e]
    cases hc : c[j]? with
    | none => simp
    | some x => simp [show ¬ j < l.length from hj]
end


/-- Texts' bytes, rising. -/
abbrev sortB (l : List (List UInt8)) : List (List UInt8) := l.mergeSort fun x y => decide (x ≤ y)
theorem sortS_nil (tk' : Tok) (bs : List (Sh × D)) (tk : List Bool) : ASpec Tryz.prog CT 144 [.lst 9 [] tk'] ⟨bs, tk⟩ fun r h' => r = .tup [] ∧ h' = ⟨bs, tk⟩ := by
  refine ⟨⟨_, Tryz.func144, rfl, by kernel_rfl⟩, ?_⟩
  intro ρ w vs hr hv
  obtain ⟨v, rfl, hv1⟩ := one_arg hv
  have key : ∃ p cap, v = .slice p 0 cap := by
    rcases vv_lst hv1 with ⟨h1, h2⟩ | ⟨ad, cap, cs, h1, _⟩
    · exact ⟨none, 0, h1⟩
    · exact ⟨some ad, cap, h1⟩
  obtain ⟨p, cap, rfl⟩ := key
  have hs : Calls Tryz.prog 144 #[.slice p 0 cap] w fun e w' => e = .returned (.tuple #[]) ∧ w' = w := Any.slices_Sort_string_none sortLayS p cap w
  refine hs.mono ?_
  rintro e w' ⟨rfl, rfl⟩
  exact ⟨_, .tup [], _, ρ, rfl, .refl _ _, hr, .tup (vs := []) (l := []) rfl (by simp), rfl, rfl⟩

theorem sortS_sl (l : List (List UInt8)) (hl : l.length < 4611686018427387904) {L : List D} {N b : Nat} {bs : List (Sh × D)} (tk : List Bool) (hb : bs[b]? = some (.arr N (CT.sh 9), .agg L)) (hln : l.length ≤ N) (ht : L.take l.length = l.map fun n => .lit (encStr n)) :
    ASpec Tryz.prog CT 144 [.sl 9 b 0 l.length N] ⟨bs, tk⟩ fun r h' => r = .tup [] ∧ h' = ⟨bs.set b (.arr N (CT.sh 9), .agg (overL L 0 ((sortB l).map fun n => .lit (encStr n)))), tk⟩ := by
  refine ⟨⟨_, Tryz.func144, rfl, by kernel_rfl⟩, ?_⟩
  intro ρ w vs hr hv
  obtain ⟨v, rfl, hv1⟩ := one_arg hv
  obtain ⟨B, N', o, rfl, hbox, hc, hn, hm, ho⟩ := vv_sl hv1
  obtain ⟨e1, hsh, cc, t, hw, ha⟩ := real_box hr hbox hb rfl
  cases e1
  obtain ⟨hL, hsL⟩ := hsh
  simp only [leaves] at ha
  have hsz1 : (CT.sh 9).size = 1 := rfl
  have hsh1 : ∀ n : List UInt8, hasSh (CT.sh 9) (.lit (encStr n)) := fun n => (by kernel_rfl : (D.lit (encStr n)).isLeaf = true)
  have hcs : cc.size = N := by rw [← Array.length_toList, ha.1, cells_rd hsL, hL, hsz1, Nat.mul_one]
  have hsl : (sortB l).length = l.length := List.length_mergeSort l
  by_cases h0 : N = 0
  · have hl0 : l = [] := List.eq_nil_of_length_eq_zero (by omega)
    subst hl0
    have hs : Calls Tryz.prog 144 #[.slice (some ⟨B, o, none⟩) 0 N] w fun e w' => e = .returned (.tuple #[]) ∧ w' = w := Any.slices_Sort_string_none sortLayS _ N w
    refine hs.mono ?_
    rintro e w' ⟨rfl, rfl⟩
    refine ⟨_, .tup [], _, ρ, rfl, .refl _ _, ?_, .tup (vs := []) (l := []) rfl (by simp), rfl, rfl⟩
    have h1 : sortB [] = [] := by simp [sortB]
    have h2 : bs.set b (.arr N (CT.sh 9), .agg (overL L 0 ((sortB []).map fun n => .lit (encStr n)))) = bs := by
      rw [h1]
      simp only [overL, List.map_nil, List.take_zero, List.nil_append, List.length_nil, Nat.add_zero, List.drop_zero]
      apply List.ext_getElem?
      intro j
      rw [List.getElem?_set]
      split
      · rename_i e; subst e; rw [hb]; simp [(List.getElem?_eq_some_iff.1 hb).1]
      · rfl
    rw [h2]; exact hr
  · have hoo := ho h0
    rw [Nat.zero_mul] at hoo
    subst hoo
    have hcell : ∀ j, j < l.length → cc[j]? = some (encStr (l.getD j [])) := by
      intro j hj
      have h1 : (leavesL L)[j]? = some (.lit (encStr (l.getD j []))) := by
        have h2 := (leavesL_take hsL (k := l.length) (by omega)).1
        rw [ht, leaves_strs, hsz1, Nat.mul_one] at h2
        have h3 : ((leavesL L).take l.length)[j]? = some (.lit (encStr (l.getD j []))) := by
          rw [← h2, List.getElem?_map, List.getElem?_eq_getElem hj, List.getD_eq_getElem?_getD, List.getElem?_eq_getElem hj]; rfl
        rw [List.getElem?_take_of_lt hj] at h3
        exact h3
      have h4 : j < cc.toList.length := by rw [Array.length_toList, hcs]; omega
      have h5 := ha.2 j _ _ (List.getElem?_eq_getElem h4) h1
      rw [← Array.getElem?_toList, List.getElem?_eq_getElem h4, vv_lit h5]
    have hH : Go.Sort.Holds encStr w B 0 l.toArray := by
      intro j hj
      have hj' : j < l.length := by simpa using hj
      refine ⟨?_, by simp [World.frozen?, hw]⟩
      simp only [World.cell?, hw, Nat.zero_add, Option.isSome_none, Bool.false_eq_true, if_false, hcell j hj']
      simp [List.getD_eq_getElem?_getD, hj']
    have hB : B < w.heap.size := (Array.getElem?_eq_some_iff.1 hw).1
    have hs : Calls Tryz.prog 144 #[.slice (some ⟨B, 0, none⟩) l.length N] w fun e w' => e = .returned (.tuple #[]) ∧ ∃ n os, w' = Go.Sort.grow (Go.Sort.putRow encStr (Go.Sort.ahead w n) B 0 (sortB l).toArray) os :=
      Any.slices_Sort_string sortLayS B 0 N l w hH hB hl
    refine hs.mono ?_
    rintro e w' ⟨rfl, n, os, rfl⟩
    obtain ⟨r1, x1⟩ := real_ahead n hr
    obtain ⟨k1, k2, k3⟩ := over_leaves hsL (m := (sortB l).map fun n => .lit (encStr n)) (k := 0) (by intro d hd; obtain ⟨n, _, rfl⟩ := List.mem_map.1 hd; exact hsh1 n) (by simp [hsl]; omega)
    have hput : (Go.Sort.putRow encStr (Go.Sort.ahead w n) B 0 (sortB l).toArray).heap[B]? = some (.cells (Go.Sort.putCells encStr 0 (sortB l).toArray cc) t (0, 0)) := by
      simp [Go.Sort.putRow, Go.Sort.mapBlock, Go.Sort.ahead, Array.getElem?_modify, hw, Go.Sort.onCells]
    have hother : ∀ k, k ≠ B → (Go.Sort.putRow encStr (Go.Sort.ahead w n) B 0 (sortB l).toArray).heap[k]? = (Go.Sort.ahead w n).heap[k]? := by
      intro k hk
      simp only [Go.Sort.putRow, Go.Sort.mapBlock, Array.getElem?_modify]
      rw [if_neg (fun e => hk e.symm)]
    have r2 := box_set r1 hbox hb rfl (d' := .agg (overL L 0 ((sortB l).map fun n => .lit (encStr n)))) ⟨by rw [k2]; exact hL, k3⟩ _ (by
      simp only [leaves]
      rw [k1, put_strs cc _ (by omega), leaves_strs, Nat.zero_mul, List.take_zero, List.nil_append, Nat.zero_add, List.length_map]
      refine All2.append ⟨by simp, ?_⟩ (ha.drop _)
      intro i c d hc hd
      rw [List.getElem?_map, Option.map_eq_some_iff] at hc hd
      obtain ⟨x, hx, rfl⟩ := hc
      obtain ⟨y, hy, rfl⟩ := hd
      rw [hx] at hy; cases hy
      exact .lit _) _ t hput (by simp [Go.Sort.putRow, Go.Sort.mapBlock]) hother
    have x2 := box_ext r1 hbox (w' := Go.Sort.putRow encStr (Go.Sort.ahead w n) B 0 (sortB l).toArray) rfl rfl rfl (by simp [Go.Sort.putRow, Go.Sort.mapBlock]) hother
    obtain ⟨r3, x3⟩ := real_grow os.toList r2
    exact ⟨_, .tup [], _, ρ, rfl, (x1.trans x2).trans x3, r3, .tup (vs := []) (l := []) rfl (by simp), rfl, rfl⟩
end Go.Ab
