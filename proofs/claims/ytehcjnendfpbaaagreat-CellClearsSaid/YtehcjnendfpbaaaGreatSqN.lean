/- The library's sort by a comparison, as a function of data. Conditions: none. -/
import Derived.Test.YtehcjnendfpbaaaGreatSoB
import Derived.Test.YtehcjnendfpbaaaGreatRoA
import Derived.Test.YtehcjnendfpbaaaGreatSqC
import Derived.Test.YtehcjnendfpbaaaGreatReA
import Derived.Shelf.SlSortCmp.WholeK
import Derived.Test.YtehcjnendfpbaaaGreatCeB
import Derived.Test.YtehcjnendfpbaaaGreatSlEl
import Derived.Shelf.SlSortCmp.NoneTotal
set_option linter.unusedSimpArgs false
namespace Go.Ab
open Go.Proofs

theorem world_ext {w w' : World} (h1 : w'.os = w.os) (h2 : w'.tape = w.tape) (h3 : w'.output = w.output) (h4 : w.heap.size ≤ w'.heap.size) (h5 : ∀ k, k < w.heap.size → w'.heap[k]? = w.heap[k]?) (h6 : w.drawn ≤ w'.drawn) :
    w' = Go.Sort.grow (w.drewN (w'.drawn - w.drawn)) (w'.heap.extract w.heap.size w'.heap.size) := by
  have hh : w'.heap = w.heap ++ w'.heap.extract w.heap.size w'.heap.size := by
    apply Array.ext_getElem?
    intro i
    rw [Array.getElem?_append]
    split
    · rename_i hi; exact h5 i hi
    · rename_i hi
      rw [Array.getElem?_extract]
      split
      · congr 1; omega
      · rename_i h; rw [Array.getElem?_eq_none (by omega)]
  have hd : w.drawn + (w'.drawn - w.drawn) = w'.drawn := by omega
  obtain ⟨wh, wt, wd, wo, wu⟩ := w
  obtain ⟨vh, vt, vd, vo, vu⟩ := w'
  simp only at h1 h2 h3 hh hd
  simp only [Go.Sort.grow, World.drewN]
  rw [← hh, hd, h1, h2, h3]
section
variable {P : Program} {C : Tab}
/-- What a comparison's contract says in the shelf's words. -/
theorem cmp_lays {α : Type} [Inhabited α] {g : FuncId} {enc : α → List Value} {k : Nat} {ls : α → List D} {cf : α → α → Int} (hl : ∀ x, leavesL (ls x) = (enc x).map D.lit)
    (hP : ∀ x y, PSpec P C g [.agg (ls x), .agg (ls y)] (· = .lit (.int .i64 (cf x y)))) (blk off size : Nat) (w : World) : CmpLays P g #[] enc k cf blk off size w := by
  intro m os dk _ x y
  generalize sortWorldK enc k w blk off m dk os = W
  have hv : ∀ x, VV C.sh { S := allCells W, box := [], tok := [], own := fun _ => False } (.agg (enc x).toArray) (.agg (ls x)) := fun x => by
    refine .agg (by rw [hl]; simp) fun i c d hc hd => ?_
    rw [hl, List.getElem?_map, hc] at hd
    cases hd
    exact .lit _
  refine ((hP x y).2 _ W _ (all_real C.sh W) (All2.cons (hv x) (All2.cons (hv y) All2.nil))).mono ?_
  rintro e w' ⟨v, r, h', ρ', rfl, he, _, hvv, _, rfl⟩
  refine ⟨by rw [vv_lit hvv], _, _, world_ext he.os he.tape he.output he.size (fun k hk => he.blk k hk (fun h => h)) he.dr⟩

theorem leavesL_at {K : Nat} : ∀ {l : List D}, (∀ x ∈ l, (leaves x).length = K) → ∀ {i : Nat} {x : D}, l[i]? = some x → ∀ {c : Nat}, c < K → (leavesL l)[i * K + c]? = (leaves x)[c]?
  | y :: r, h, 0, x, hx, c, hc => by
    simp only [List.getElem?_cons_zero, Option.some.injEq] at hx
    subst hx
    rw [Nat.zero_mul, Nat.zero_add, leavesL, List.getElem?_append_left (by rw [h y (by simp)]; exact hc)]
  | y :: r, h, i + 1, x, hx, c, hc => by
    simp only [List.getElem?_cons_succ] at hx
    have hy := h y (by simp)
    rw [leavesL, List.getElem?_append_right (by rw [hy, Nat.add_mul]; omega), hy, show (i + 1) * K + c - K = i * K + c by rw [Nat.add_mul]; omega]
    exact leavesL_at (fun z hz => h z (by simp [hz])) hx hc
theorem two_args {T : TypeId → Sh} {ρ : Env} {vs : Array Value} {d1 d2 : D} (h : All2 (VV T ρ) vs.toList [d1, d2]) : ∃ v1 v2, vs = #[v1, v2] ∧ VV T ρ v1 d1 ∧ VV T ρ v2 d2 := by
  obtain ⟨h1, h2⟩ := h
  have h3 : vs.size = 2 := by simpa using h1
  refine ⟨vs[0], vs[1], ?_, h2 0 _ _ (by simp [h3]) rfl, h2 1 _ _ (by simp [h3]) rfl⟩
  apply Array.ext
  · simp [h3]
  · intro i hi _
    have : i = 0 ∨ i = 1 := by omega
    rcases this with rfl | rfl <;> rfl
theorem put_flat (c F : Array Value) (h : F.size ≤ c.size) : (Go.Sort.putCells id 0 F c).toList = F.toList ++ c.toList.drop F.size := by
  apply List.ext_getElem?
  intro j
  rw [List.getElem?_append]
  simp only [Array.length_toList, Array.getElem?_toList, Go.Sort.putCells, Array.getElem?_mapIdx, List.getElem?_drop, id]
  by_cases hj : j < F.size
  · rw [if_pos hj, Array.getElem?_eq_getElem (by omega), Array.getElem?_eq_getElem hj]
    simp [hj]
  · rw [if_neg hj]
    have e : F.size + (j - F.size) = j := by omega
    rw [e]
    cases hc : c[j]? with
    | none => simp
    | some x => simp [hj]
theorem flat_list {E : Type} [Inhabited E] {enc : E → List Value} {K : Nat} (hk : ∀ x, (enc x).length = K) (hK : 0 < K) (d : Array E) {j : Nat} (hj : j < d.size * K) : (Go.Sort.flatK enc K d)[j]? = (enc d[j / K]!)[j % K]? := by
  have hm : j % K < (enc d[j / K]!).length := by rw [hk]; exact Nat.mod_lt _ hK
  have hs : j < (Go.Sort.flatK enc K d).size := by rw [Go.Sort.size_flatK]; exact hj
  rw [Array.getElem?_eq_getElem hs, List.getElem?_eq_getElem hm]
  have := Go.Sort.get_flatK enc K d j hj
  rw [getElem!_pos (Go.Sort.flatK enc K d) j hs, getElem!_pos (enc d[j / K]!) (j % K) hm] at this
  rw [this]
set_option maxHeartbeats 2000000 in
/-- The library's sort by a comparison, of whatever elements. -/
theorem sortFunc_gen {α E : Type} [Inhabited E] {K : Nat} {ren : Go.Shelf.Ren} (lay : SlLaysF0.n6 P ren) {e0 : TypeId} (aE : ∀ w, (isAgg (ren.t 24)).run P w = .ok true w) (zE : ∀ w, (Go.sizeOf (ren.t 24)).run P w = .ok K w)
    {dat : E → α} {enc : E → List Value} {aD : α → D} {cf : E → E → Int} {lt : α → α → Bool} (hlt : ∀ x y, Go.Proofs.ltOf cf x y = lt (dat x) (dat y)) (hO : Go.Sort.SWO (Go.Proofs.ltOf cf)) (hk : ∀ x, (enc x).length = K) (hK : 0 < K) (h1 : ∀ x, ∀ v ∈ enc x, v.oneCell' = true)
    {g : FuncId} (eg : ∀ args w, (callFunc g args).run P w = .ok (.enter g args) w) (hcmp : ∀ blk off size w, CmpLays P g #[] enc K cf blk off size w)
    (hmk : ∀ (ρ : Env) (x : α) (cs : List Value), All2 (VV C.sh ρ) cs (leaves (aD x)) → ∃ y, dat y = x ∧ enc y = cs) (hsh : ∀ x, hasSh (C.sh e0) (aD x)) (hsz : (C.sh e0).size = K)
    {f : FuncId} (hf : ren.f 6 = f) (hfn : ∃ fn, P.funcs[f]? = some fn ∧ fn.body.isSome = true ∧ (fn.name == "runtime.NumGoroutine") = false)
    (l : List α) (hl : l.length < 4611686018427387904) {L : List D} {N b : Nat} {bs : List (Sh × D)} (tk : List Bool) (hb : bs[b]? = some (.arr N (C.sh e0), .agg L)) (hln : l.length ≤ N) (ht : L.take l.length = l.map aD) :
    ASpec P C f [.sl e0 b 0 l.length N, .lit (.func (.func g) #[] #[])] ⟨bs, tk⟩ fun r h' => r = .tup [] ∧ ∃ m : List α, m.Perm l ∧ m.Pairwise (fun x y => lt y x = false) ∧ h' = ⟨bs.set b (.arr N (C.sh e0), .agg (overL L 0 (m.map aD))), tk⟩ := by
  refine ⟨hfn, ?_⟩
  intro ρ w vs hr hv
  obtain ⟨v1, v2, rfl, hv1, hv2⟩ := two_args hv
  obtain rfl := vv_lit hv2
  obtain ⟨B, N', o, rfl, hbox, hc, hn, hm, ho⟩ := vv_sl hv1
  obtain ⟨e1, hshL, cc, t, hw, ha⟩ := real_box hr hbox hb rfl
  cases e1
  obtain ⟨hL, hsL⟩ := hshL
  simp only [leaves] at ha
  have hcs : cc.size = N * K := by rw [← Array.length_toList, ha.1, cells_rd hsL, hL, hsz]
  have hLl : ∀ x ∈ L, (leaves x).length = K := fun x hx => by rw [leaves_length (hsL x hx), hsz]
  have hLat : ∀ i, i < l.length → ∃ x, l[i]? = some x ∧ L[i]? = some (aD x) := fun i hi => by
    refine ⟨l[i], List.getElem?_eq_getElem hi, ?_⟩
    have := congrArg (fun z => z[i]?) ht
    simp only [List.getElem?_take_of_lt hi, List.getElem?_map, List.getElem?_eq_getElem hi, Option.map_some] at this
    exact this
  -- the elements with their cells
  have hel : ∀ i, i < l.length → ∃ y : E, l[i]? = some (dat y) ∧ enc y = (cc.toList.drop (i * K)).take K ∧ All2 (VV C.sh ρ) (enc y) (leaves (aD (dat y))) := fun i hi => by
    obtain ⟨x, hx, hLx⟩ := hLat i hi
    have hlx : (leaves (aD x)).length = K := hLl _ (List.mem_of_getElem? hLx)
    have hbound : i * K + K ≤ N * K := by
      have := Nat.mul_le_mul_right K (show i + 1 ≤ N by omega)
      rwa [Nat.add_mul, Nat.one_mul] at this
    have hall : All2 (VV C.sh ρ) ((cc.toList.drop (i * K)).take K) (leaves (aD x)) := by
      refine ⟨by rw [List.length_take, List.length_drop, Array.length_toList, hcs, hlx]; omega, fun c v d hv hd => ?_⟩
      have hcK : c < K := by rw [← hlx]; exact (List.getElem?_eq_some_iff.1 hd).1
      rw [List.getElem?_take_of_lt hcK, List.getElem?_drop] at hv
      exact ha.2 (i * K + c) v d hv (by rw [leavesL_at hLl hLx hcK]; exact hd)
    obtain ⟨y, hy1, hy2⟩ := hmk ρ x _ hall
    exact ⟨y, by rw [hy1]; exact hx, hy2, by rw [hy1, hy2]; exact hall⟩
  have hys : ∃ ys : List E, ys.map dat = l ∧ (∀ i y, ys[i]? = some y → enc y = (cc.toList.drop (i * K)).take K) ∧ ∀ y ∈ ys, All2 (VV C.sh ρ) (enc y) (leaves (aD (dat y))) := by
    have key : ∀ n, n ≤ l.length → ∃ ys : List E, ys.length = n ∧ ys.map dat = l.take n ∧ (∀ i y, ys[i]? = some y → enc y = (cc.toList.drop (i * K)).take K) ∧ ∀ y ∈ ys, All2 (VV C.sh ρ) (enc y) (leaves (aD (dat y))) := by
      intro n
      induction n with
      | zero => exact fun _ => ⟨[], rfl, by simp, by simp, by simp⟩
      | succ n ih =>
        intro hn
        obtain ⟨ys, q1, q2, q3, q4⟩ := ih (by omega)
        obtain ⟨y, p1, p2, p3⟩ := hel n (by omega)
        refine ⟨ys ++ [y], by simp [q1], by rw [List.map_append, q2, List.take_add_one, p1]; rfl, fun i z hz => ?_, fun z hz => ?_⟩
        · rw [List.getElem?_append] at hz
          split at hz
          · exact q3 i z hz
          · have : i - ys.length = 0 := by have := (List.getElem?_eq_some_iff.1 hz).1; simp at this; omega
            rw [this] at hz; cases hz
            rw [p2, show i = n by omega]
        · rcases List.mem_append.1 hz with h | h
          · exact q4 z h
          · rw [List.mem_singleton] at h; subst h; exact p3
    obtain ⟨ys, _, q2, q3, q4⟩ := key l.length (Nat.le_refl _)
    exact ⟨ys, by rw [q2, List.take_length], q3, q4⟩
  obtain ⟨ys, q2, q3, q4⟩ := hys
  have hyl : ys.length = l.length := by rw [← q2, List.length_map]
  have hB : B < w.heap.size := (Array.getElem?_eq_some_iff.1 hw).1
  have hget : ∀ j, j < ys.length * K → (Go.Sort.flatK enc K ys.toArray)[j]? = cc[j]? := fun j hj => by
    rw [flat_list hk hK _ (by simpa using hj)]
    have hi : j / K < ys.length := Nat.div_lt_of_lt_mul (by rw [Nat.mul_comm]; exact hj)
    have hy : ys[j / K]? = some ys.toArray[j / K]! := by rw [getElem!_pos ys.toArray (j / K) (by simpa using hi)]; simp [hi]
    rw [q3 _ _ hy, List.getElem?_take_of_lt (Nat.mod_lt _ hK), List.getElem?_drop, Array.getElem?_toList]
    congr 1
    rw [Nat.mul_comm]; exact Nat.div_add_mod j K
  have hH : Go.Sort.HoldsK enc K w B o ys.toArray := by
    intro j hj
    have hj' : j < ys.length * K := by simpa using hj
    have hN0 : N ≠ 0 := by rintro rfl; have : ys.length = 0 := by omega
                           rw [this] at hj'; simp at hj'
    have hoo := ho hN0
    rw [Nat.zero_mul] at hoo
    have h3 := hget j hj'
    have hjc : j < cc.size := by
      rw [hcs]
      exact Nat.lt_of_lt_of_le hj' (Nat.mul_le_mul_right K (by omega))
    refine ⟨?_, by simp [World.frozen?, hw]⟩
    simp only [World.cell?, hw, hoo, Nat.zero_add, Option.isSome_none, Bool.false_eq_true, if_false]
    rw [← h3, getElem!_pos (Go.Sort.flatK enc K ys.toArray) j hj, Array.getElem?_eq_getElem hj]; rfl
  have hs := AnyQ.slices_SortFunc lay K aE zE enc hk h1 cf hO g #[] B o N ys.toArray w eg (hcmp _ _ _ _) hH hB (by simp [hyl]; exact hl)
  rw [hf] at hs
  have hsize : ys.toArray.size = l.length := by simp [hyl]
  rw [hsize] at hs
  refine hs.mono ?_
  rintro e w' ⟨rfl, d', nn, os, ⟨hp1, _, hp3⟩, hp2, rfl⟩
  have hd's : d'.size = l.length := by rw [hp1, hsize]
  have hperm : d'.toList.Perm ys := by
    have e1 : d'.extract 0 l.length = d' := by rw [← hd's]; simp
    have e2 : ys.toArray.extract 0 l.length = ys.toArray := by rw [← hsize]; simp
    rw [e1, e2] at hp3
    simpa using hp3
  have hmp : (d'.toList.map dat).Perm l := by rw [← q2]; exact hperm.map dat
  have hml : (d'.toList.map dat).length = l.length := hmp.length_eq
  have hsorted : (d'.toList.map dat).Pairwise fun x y => lt y x = false := by
    rw [List.pairwise_map, List.pairwise_iff_getElem]
    intro i j hi hj hij
    have := hp2 i j (Nat.zero_le _) hij (by rw [← hd's]; simpa using hj)
    rw [getElem!_pos d' j (by simpa using hj), getElem!_pos d' i (by simpa using hi), hlt] at this
    simpa using this
  obtain ⟨r1, x1⟩ := real_ahead nn hr
  have hsh' : ∀ d ∈ (d'.toList.map dat).map aD, hasSh (C.sh e0) d := by
    intro d hd
    obtain ⟨x, _, rfl⟩ := List.mem_map.1 hd
    exact hsh x
  obtain ⟨k1, k2, k3⟩ := over_leaves hsL (m := (d'.toList.map dat).map aD) (k := 0) hsh' (by rw [List.length_map, hml, hL]; omega)
  have hflen : (Go.Sort.flatK enc K d').size = l.length * K := by rw [Go.Sort.size_flatK, hd's]
  have hcells : ∀ y ∈ d'.toList, All2 (VV C.sh ρ) (enc y) (leaves (aD (dat y))) := fun y hy => q4 y (hperm.subset hy)
  have hfl : All2 (VV C.sh ρ) (Go.Sort.flatK enc K d').toList (leavesL ((d'.toList.map dat).map aD)) := by
    have hll : ∀ x ∈ (d'.toList.map dat).map aD, (leaves x).length = K := fun x hx => by
      obtain ⟨z, _, rfl⟩ := List.mem_map.1 hx
      rw [leaves_length (hsh z), hsz]
    refine ⟨by rw [Array.length_toList, hflen, leavesL_length_const hll, List.length_map, hml], fun j v d hv hd => ?_⟩
    have hj : j < d'.size * K := by rw [hd's, ← hflen, ← Array.length_toList]; exact (List.getElem?_eq_some_iff.1 hv).1
    rw [Array.getElem?_toList, flat_list hk hK d' hj] at hv
    have hi : j / K < d'.size := Nat.div_lt_of_lt_mul (by rw [Nat.mul_comm]; exact hj)
    have hx : ((d'.toList.map dat).map aD)[j / K]? = some (aD (dat d'[j / K]!)) := by
      rw [getElem!_pos d' (j / K) hi]
      simp [hi]
    have hdj := leavesL_at hll hx (Nat.mod_lt j hK)
    rw [show j / K * K + j % K = j by rw [Nat.mul_comm]; exact Nat.div_add_mod j K, hd] at hdj
    exact (hcells _ (by rw [getElem!_pos d' (j / K) hi]; simp)).2 _ v d hv hdj.symm
  have hput : (Go.Sort.putRowK enc K (Go.Sort.ahead w nn) B o d').heap[B]? = some (.cells (Go.Sort.putCells id o (Go.Sort.flatK enc K d') cc) t (0, 0)) := by
    simp [Go.Sort.putRowK, Go.Sort.putRow, Go.Sort.mapBlock, Go.Sort.ahead, Array.getElem?_modify, hw, Go.Sort.onCells]
  have hother : ∀ k, k ≠ B → (Go.Sort.putRowK enc K (Go.Sort.ahead w nn) B o d').heap[k]? = (Go.Sort.ahead w nn).heap[k]? := by
    intro k hk
    simp only [Go.Sort.putRowK, Go.Sort.putRow, Go.Sort.mapBlock, Array.getElem?_modify]
    rw [if_neg (fun e => hk e.symm)]
  have hnew : All2 (VV C.sh ρ) (Go.Sort.putCells id o (Go.Sort.flatK enc K d') cc).toList (leaves (.agg (overL L 0 ((d'.toList.map dat).map aD)))) := by
    simp only [leaves]
    rw [k1]
    have hoo : (Go.Sort.putCells id o (Go.Sort.flatK enc K d') cc).toList = (Go.Sort.flatK enc K d').toList ++ cc.toList.drop (Go.Sort.flatK enc K d').size := by
      by_cases hN : N = 0
      · have h0 : (Go.Sort.flatK enc K d').size = 0 := by rw [hflen, show l.length = 0 by omega, Nat.zero_mul]
        have h00 : cc.size = 0 := by rw [hcs, hN, Nat.zero_mul]
        have hc0 : cc = #[] := Array.eq_empty_of_size_eq_zero h00
        have hf0 : Go.Sort.flatK enc K d' = #[] := Array.eq_empty_of_size_eq_zero h0
        rw [hc0, hf0]; rfl
      · have := ho hN
        rw [Nat.zero_mul] at this
        rw [this]
        exact put_flat cc _ (by rw [hflen, hcs]; exact Nat.mul_le_mul_right K hln)
    rw [hoo, Nat.zero_mul, List.take_zero, List.nil_append, Nat.zero_add, ← hfl.1, Array.length_toList]
    exact hfl.append (ha.drop _)
  have r2 := box_set r1 hbox hb rfl (d' := .agg (overL L 0 ((d'.toList.map dat).map aD))) ⟨by rw [k2]; exact hL, k3⟩ _ hnew (Go.Sort.putRowK enc K (Go.Sort.ahead w nn) B o d') t hput (by simp [Go.Sort.putRowK, Go.Sort.putRow, Go.Sort.mapBlock]) hother
  have x2 := box_ext r1 hbox (w' := Go.Sort.putRowK enc K (Go.Sort.ahead w nn) B o d') rfl rfl rfl (by simp [Go.Sort.putRowK, Go.Sort.putRow, Go.Sort.mapBlock]) hother (by simp [Go.Sort.putRowK, Go.Sort.putRow, Go.Sort.mapBlock])
  obtain ⟨r3, x3⟩ := real_grow os.toList r2
  exact ⟨_, .tup [], _, ρ, rfl, (x1.trans x2).trans x3, r3, .tup (vs := []) (l := []) rfl (by simp), rfl, _, hmp, hsorted, rfl⟩
end

-- elements of sequences
def sortElLay_ren : Go.Shelf.Ren := ⟨fun | 6 => 227 | 15 => 147 | 14 => 230 | 28 => 158 | 29 => 159 | 20 => 232 | 21 => 233 | 22 => 234 | 23 => 235 | 24 => 236 | 25 => 237 | 26 => 238 | 27 => 239 | 46 => 240 | 47 => 161 | 48 => 162 | 49 => 241 | 50 => 242 | 57 => 243 | n => n, fun | 22 => 25 | 24 => 69 | 25 => 211 | 3 => 3 | 39 => 157 | 0 => 0 | 53 => 119 | 55 => 170 | 4 => 4 | 46 => 161 | 45 => 160 | 50 => 166 | 5 => 5 | 9 => 9 | 66 => 171 | 70 => 175 | 76 => 178 | 77 => 179 | n => n, fun | n => n⟩
theorem sortElLay : Go.Proofs.SlLaysF0.n6 Tryz.prog sortElLay_ren where
  mixed := by kernel_rfl
  f6 := ⟨ "slices.SortFunc[[]plexus/api.Elem,plexus/api.Elem]", by decide, Tryz.func227.trans (congrArg some (by kernel_rfl))⟩
  f14 := ⟨ "slices.pdqsortCmpFunc[plexus/api.Elem]", by decide, Tryz.func230.trans (congrArg some (by kernel_rfl))⟩
  f15 := Tryz.func147.trans (congrArg some (by kernel_rfl))
  f20 := ⟨ "slices.insertionSortCmpFunc[plexus/api.Elem]", by decide, Tryz.func232.trans (congrArg some (by kernel_rfl))⟩
  f21 := ⟨ "slices.heapSortCmpFunc[plexus/api.Elem]", by decide, Tryz.func233.trans (congrArg some (by kernel_rfl))⟩
  f22 := ⟨ "slices.breakPatternsCmpFunc[plexus/api.Elem]", by decide, Tryz.func234.trans (congrArg some (by kernel_rfl))⟩
  f23 := ⟨ "slices.choosePivotCmpFunc[plexus/api.Elem]", by decide, Tryz.func235.trans (congrArg some (by kernel_rfl))⟩
  f24 := ⟨ "slices.reverseRangeCmpFunc[plexus/api.Elem]", by decide, Tryz.func236.trans (congrArg some (by kernel_rfl))⟩
  f25 := ⟨ "slices.partialInsertionSortCmpFunc[plexus/api.Elem]", by decide, Tryz.func237.trans (congrArg some (by kernel_rfl))⟩
  f26 := ⟨ "slices.partitionEqualCmpFunc[plexus/api.Elem]", by decide, Tryz.func238.trans (congrArg some (by kernel_rfl))⟩
  f27 := ⟨ "slices.partitionCmpFunc[plexus/api.Elem]", by decide, Tryz.func239.trans (congrArg some (by kernel_rfl))⟩
  f28 := Tryz.func158.trans (congrArg some (by kernel_rfl))
  f29 := Tryz.func159.trans (congrArg some (by kernel_rfl))
  f46 := ⟨ "slices.siftDownCmpFunc[plexus/api.Elem]", by decide, Tryz.func240.trans (congrArg some (by kernel_rfl))⟩
  f47 := Tryz.func161.trans (congrArg some (by kernel_rfl))
  f48 := Tryz.func162.trans (congrArg some (by kernel_rfl))
  f49 := ⟨ "slices.medianAdjacentCmpFunc[plexus/api.Elem]", by decide, Tryz.func241.trans (congrArg some (by kernel_rfl))⟩
  f50 := ⟨ "slices.medianCmpFunc[plexus/api.Elem]", by decide, Tryz.func242.trans (congrArg some (by kernel_rfl))⟩
  f57 := ⟨ "slices.order2CmpFunc[plexus/api.Elem]", by decide, Tryz.func243.trans (congrArg some (by kernel_rfl))⟩
  t0 := Tryz.underlying0
  a0 := Tryz.isAgg0
  z0 := Tryz.sizeOf0
  v0 := Tryz.zeroValue0
  t3 := Tryz.underlying3
  a3 := Tryz.isAgg3
  z3 := Tryz.sizeOf3
  v3 := Tryz.zeroValue3
  t4 := Tryz.underlying4
  a4 := Tryz.isAgg4
  z4 := Tryz.sizeOf4
  v4 := Tryz.zeroValue4
  t5 := Tryz.underlying5
  a5 := Tryz.isAgg5
  z5 := Tryz.sizeOf5
  v5 := Tryz.zeroValue5
  t9 := Tryz.underlying9
  a9 := Tryz.isAgg9
  z9 := Tryz.sizeOf9
  v9 := Tryz.zeroValue9
  t22 := Tryz.underlying25
  a22 := Tryz.isAgg25
  z22 := Tryz.sizeOf25
  v22 := Tryz.zeroValue25
  t25 := Tryz.underlying211
  a25 := Tryz.isAgg211
  z25 := Tryz.sizeOf211
  v25 := Tryz.zeroValue211
  t39 := Tryz.underlying157
  a39 := Tryz.isAgg157
  z39 := Tryz.sizeOf157
  v39 := Tryz.zeroValue157
  t45 := Tryz.underlying160
  a45 := Tryz.isAgg160
  z45 := Tryz.sizeOf160
  v45 := Tryz.zeroValue160
  t46 := Tryz.underlying161
  a46 := Tryz.isAgg161
  z46 := Tryz.sizeOf161
  v46 := Tryz.zeroValue161
  t50 := Tryz.underlying166
  a50 := Tryz.isAgg166
  z50 := Tryz.sizeOf166
  v50 := Tryz.zeroValue166
  t53 := Tryz.underlying119
  a53 := Tryz.isAgg119
  z53 := Tryz.sizeOf119
  v53 := Tryz.zeroValue119
  t55 := Tryz.underlying170
  a55 := Tryz.isAgg170
  z55 := Tryz.sizeOf170
  v55 := Tryz.zeroValue170
  t66 := Tryz.underlying171
  a66 := Tryz.isAgg171
  z66 := Tryz.sizeOf171
  v66 := Tryz.zeroValue171
  t70 := Tryz.underlying175
  a70 := Tryz.isAgg175
  z70 := Tryz.sizeOf175
  v70 := Tryz.zeroValue175
  t76 := Tryz.underlying178
  a76 := Tryz.isAgg178
  z76 := Tryz.sizeOf178
  v76 := Tryz.zeroValue178
  t77 := Tryz.underlying179
  a77 := Tryz.isAgg179
  z77 := Tryz.sizeOf179
  v77 := Tryz.zeroValue179
end Go.Ab
set_option linter.unusedSimpArgs false
namespace Go.Ab
open Go.Proofs

/-- An element, its slice as memory has it. -/
structure EV where
  e : ElemR
  v : Value
  ok : v.oneCell' = true
instance : Inhabited EV := ⟨⟨default, .int .i64 0, rfl⟩⟩
def encE (x : EV) : List Value := [.int .i64 x.e.m.p, .int .i64 x.e.m.s, .int .i64 x.e.m.i, .int .i64 x.e.time, .int .i64 x.e.ref.p, .int .i64 x.e.ref.s, .int .i64 x.e.ref.i, .string x.e.text, x.v]
abbrev lsE (x : EV) : List D := [x.e.m.d, .lit (.int .i64 x.e.time), x.e.ref.d, .lit (.string x.e.text), .lit x.v]
def firstC (a b : ElemR) : Int := if cmpI b.time a.time ≠ 0 then cmpI b.time a.time else if markLt b.m a.m then -1 else if a.m = b.m then 0 else 1
theorem firstC_lt (a b : ElemR) : decide (firstC a b < 0) = firstLt a b := by
  rw [Bool.eq_iff_iff]
  simp only [decide_eq_true_eq, firstC, firstLt, Bool.or_eq_true, Bool.and_eq_true, cmpI]
  by_cases h1 : b.time < a.time
  · simp [h1]
  · by_cases h2 : a.time < b.time
    · simp [h1, h2]; omega
    · have h3 : a.time = b.time := by omega
      simp only [h1, h2, if_false, ne_eq, not_true, h3, true_and, false_or]
      cases h4 : markLt b.m a.m with
      | true => simp
      | false => by_cases h5 : a.m = b.m <;> simp [h5]
set_option maxRecDepth 8000 in
theorem seq_first (x y : EV) : PSpec Tryz.prog CT 228 [.agg (lsE x), .agg (lsE y)] (· = .lit (.int .i64 (firstC x.e y.e))) := by
  have hx : (D.lit x.v).isLeaf = true := x.ok
  have hy : (D.lit y.v).isLeaf = true := y.ok
  refine PSpec.of hT Tryz.func228 rfl (by kernel_rfl) rfl rfl ?_
  simp only [Tryz.f228, go_sem, simprocAttr, hx, hy]
  refine callK_pure (cmp_compare y.e.time x.e.time) (by first | rfl | (simp only [go_sem]; done)) (by first | (simp only [go_sem]; done) | (simp [pureL, pureD]; done)) ?_
  simp only [go_sem, simprocAttr, hx, hy]
  refine condK_split (fun h1 => ?_) (fun h1 => ?_)
  · have h1 : cmpI y.e.time x.e.time ≠ 0 := by simpa using h1
    simp only [go_sem, simprocAttr]
    rw [firstC, if_pos h1]
  have h1 : ¬ cmpI y.e.time x.e.time ≠ 0 := by simpa using h1
  rw [firstC, if_neg h1]
  simp only [go_sem, simprocAttr, hx, hy]
  refine callK_pure (ops_less y.e.m x.e.m) (by first | rfl | (simp only [go_sem]; done)) (by first | (simp only [go_sem]; done) | (simp [pureL, pureD]; done)) ?_
  simp only [go_sem, simprocAttr, hx, hy]
  refine condK_split (fun h2 => ?_) (fun h2 => ?_)
  · simp only [go_sem, simprocAttr]
    rw [if_pos h2]
  rw [if_neg (by rw [h2]; simp)]
  simp only [go_sem, simprocAttr, hx, hy, eqB_mk]
  refine condK_split (fun h3 => ?_) (fun h3 => ?_)
  · have h3 : x.e.m = y.e.m := of_decide_eq_true h3
    simp only [go_sem, simprocAttr]
    rw [if_pos h3]
  · have h3 : ¬ x.e.m = y.e.m := of_decide_eq_false h3
    simp only [go_sem, simprocAttr]
    rw [if_neg h3]
theorem mark_nt {a b c : MarkR} (h : markLt a b = false) (k : markLt b c = false) : markLt a c = false := by
  cases hc : markLt a c with
  | false => rfl
  | true =>
    by_cases e : b = c
    · subst e; rw [hc] at h; cases h
    · have := markLt_trans hc (markLt_total k e)
      rw [h] at this; cases this
theorem first_swo : Go.Sort.SWO (Go.Proofs.ltOf fun x y : EV => firstC x.e y.e) where
  irrefl x := by show decide _ = false; rw [firstC_lt]; exact firstLt_irr _
  trans x y z h1 h2 := by
    have e : ∀ a b : EV, Go.Proofs.ltOf (fun x y : EV => firstC x.e y.e) a b = firstLt a.e b.e := fun a b => firstC_lt _ _
    rw [e] at *
    exact firstLt_trans h1 h2
  ntrans x y z h1 h2 := by
    have e : ∀ a b : EV, Go.Proofs.ltOf (fun x y : EV => firstC x.e y.e) a b = firstLt a.e b.e := fun a b => firstC_lt _ _
    rw [e] at *
    simp only [firstLt, Bool.or_eq_false_iff, Bool.and_eq_false_iff, decide_eq_false_iff_not] at *
    obtain ⟨a1, a2⟩ := h1
    obtain ⟨b1, b2⟩ := h2
    refine ⟨by omega, ?_⟩
    by_cases hxz : x.e.time = z.e.time
    · refine .inr ?_
      have e1 : x.e.time = y.e.time := by omega
      have e2 : y.e.time = z.e.time := by omega
      exact mark_nt (b2.resolve_left (by omega)) (a2.resolve_left (by omega))
    · exact .inl hxz
theorem enc_mk {C : Tab} (ρ : Env) (x : ElemR) (cs : List Value) (h : All2 (VV C.sh ρ) cs (leaves (elD x))) : ∃ y : EV, y.e = x ∧ encE y = cs := by
  have hl : cs.length = 9 := by rw [h.1]; simp [leaves, leavesL]
  match cs, hl with
  | [c0, c1, c2, c3, c4, c5, c6, c7, c8], _ =>
    have at_ : ∀ i v d, [c0, c1, c2, c3, c4, c5, c6, c7, c8][i]? = some v → (leaves (elD x))[i]? = some d → VV C.sh ρ v d := h.2
    have e0 := vv_lit (at_ 0 _ _ rfl rfl)
    have e1 := vv_lit (at_ 1 _ _ rfl rfl)
    have e2 := vv_lit (at_ 2 _ _ rfl rfl)
    have e3 := vv_lit (at_ 3 _ _ rfl rfl)
    have e4 := vv_lit (at_ 4 _ _ rfl rfl)
    have e5 := vv_lit (at_ 5 _ _ rfl rfl)
    have e6 := vv_lit (at_ 6 _ _ rfl rfl)
    have e7 := vv_lit (at_ 7 _ _ rfl rfl)
    have h8 := at_ 8 _ _ rfl (show (leaves (elD x))[8]? = some (marksD x.gone .no) from rfl)
    have ok : c8.oneCell' = true := by
      rcases vv_lst h8 with ⟨rfl, _⟩ | ⟨ad, cap, cs, rfl, _⟩ <;> rfl
    exact ⟨⟨x, c8, ok⟩, rfl, by simp only [encE, e0, e1, e2, e3, e4, e5, e6, e7]⟩
theorem sh_elD (e : ElemR) : hasSh (CT.sh 69) (elD e) := by
  rw [sh_el]
  simp only [go_sem, simprocAttr]
theorem sort_elem (l : List ElemR) (hl : l.length < 4611686018427387904) {L : List D} {N b : Nat} {bs : List (Sh × D)} (tk : List Bool) (hb : bs[b]? = some (.arr N (CT.sh 69), .agg L)) (hln : l.length ≤ N) (ht : L.take l.length = l.map elD) :
    ASpec Tryz.prog CT 227 [.sl 69 b 0 l.length N, .lit (.func (.func 228) #[] #[])] ⟨bs, tk⟩ fun r h' => r = .tup [] ∧ ∃ m : List ElemR, m.Perm l ∧ m.Pairwise (fun x y => firstLt y x = false) ∧ h' = ⟨bs.set b (.arr N (CT.sh 69), .agg (overL L 0 (m.map elD))), tk⟩ :=
  sortFunc_gen (E := EV) (K := 9) (dat := EV.e) (enc := encE) (aD := elD) (cf := fun x y => firstC x.e y.e) (lt := firstLt) sortElLay Tryz.isAgg69 Tryz.sizeOf69 (fun x y => firstC_lt _ _) first_swo (fun _ => rfl) (by omega)
    (fun x v hv => by
      simp only [encE, List.mem_cons, List.not_mem_nil, or_false] at hv
      rcases hv with rfl | rfl | rfl | rfl | rfl | rfl | rfl | rfl | rfl <;> first | rfl | exact x.ok)
    (enters_of Tryz.func228 (by kernel_rfl) rfl) (cmp_lays (ls := lsE) (fun x => by simp [leavesL, leaves, encE]) seq_first) enc_mk sh_elD rfl rfl ⟨_, Tryz.func227, rfl, by kernel_rfl⟩ l hl tk hb hln ht
end Go.Ab
set_option linter.unusedSimpArgs false
namespace Go.Ab
open Go.Proofs

theorem sortF_nil (tk' : Tok) (x : D) (bs : List (Sh × D)) (tk : List Bool) : ASpec Tryz.prog CT 227 [.lst 69 [] tk', x] ⟨bs, tk⟩ fun r h' => r = .tup [] ∧ h' = ⟨bs, tk⟩ := by
  refine ⟨⟨_, Tryz.func227, rfl, by kernel_rfl⟩, ?_⟩
  intro ρ w vs hr hv
  obtain ⟨v, fv, rfl, hv1, _⟩ := two_args hv
  have key : ∃ p cap, v = .slice p 0 cap := by
    rcases vv_lst hv1 with ⟨h1, h2⟩ | ⟨ad, cap, cs, h1, _⟩
    · exact ⟨none, 0, h1⟩
    · exact ⟨some ad, cap, h1⟩
  obtain ⟨p, cap, rfl⟩ := key
  have hs : Calls Tryz.prog 227 #[.slice p 0 cap, fv] w fun e w' => e = .returned (.tuple #[]) ∧ w' = w := AnyF.slices_SortFunc_none sortElLay p cap fv w
  refine hs.mono ?_
  rintro e w' ⟨rfl, rfl⟩
  exact ⟨_, .tup [], _, ρ, rfl, .refl _ _, hr, .tup (vs := []) (l := []) rfl (by simp), rfl, rfl⟩

end Go.Ab
