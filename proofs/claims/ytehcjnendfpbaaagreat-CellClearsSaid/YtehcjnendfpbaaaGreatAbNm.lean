/- Codes at the level of values: functions that leave something in memory, and slices whose cells are written, at a function's end. Conditions: the table fits the program. -/
import Derived.Test.YtehcjnendfpbaaaGreatAbN
namespace Go.Ab
section
variable {P : Program} {C : Tab}

mutual
/-- Data that leads to the first k variables and the first n tokens alone. -/
def lowD (k n : Nat) : D → Prop
  | .lit _ => True
  | .agg l => lowL k n l
  | .lst _ _ t => match t with | .own id => id < n | _ => True
  | .ref _ _ => True
  | .ptr b _ => b < k
  | .fn _ c => lowL k n c
  | .tup l => lowL k n l
  | .ifc _ _ => True
  | .mref b => b < k
  | .mp _ vs _ => lowL k n vs
  | .it m _ _ => m < k
  | .sl _ b _ _ _ => b < k
def lowL (k n : Nat) : List D → Prop
  | [] => True
  | d :: r => lowD k n d ∧ lowL k n r
end

theorem lowL_iff {k n : Nat} : ∀ {l : List D}, lowL k n l ↔ ∀ x ∈ l, lowD k n x
  | [] => by simp [lowL]
  | d :: r => by simp [lowL, lowL_iff (l := r)]

mutual
theorem lowD_leaves {k n : Nat} : ∀ d : D, lowD k n d → ∀ x ∈ leaves d, lowD k n x
  | .agg l => by simp only [lowD, leaves]; exact lowL_leaves l
  | .lit v => by simp [lowD, leaves]
  | .lst e l t => by intro h x hx; simp only [leaves, List.mem_singleton] at hx; subst hx; exact h
  | .ref s d => by simp [lowD, leaves]
  | .ptr b p => by intro h x hx; simp only [leaves, List.mem_singleton] at hx; subst hx; exact h
  | .fn f c => by intro h x hx; simp only [leaves, List.mem_singleton] at hx; subst hx; exact h
  | .tup l => by intro h x hx; simp only [leaves, List.mem_singleton] at hx; subst hx; exact h
  | .ifc t d => by simp [lowD, leaves]
  | .mref b => by intro h x hx; simp only [leaves, List.mem_singleton] at hx; subst hx; exact h
  | .mp a b g => by intro h x hx; simp only [leaves, List.mem_singleton] at hx; subst hx; exact h
  | .it m g s => by intro h x hx; simp only [leaves, List.mem_singleton] at hx; subst hx; exact h
  | .sl e b lo m c => by intro h x hx; simp only [leaves, List.mem_singleton] at hx; subst hx; exact h
theorem lowL_leaves {k n : Nat} : ∀ l : List D, lowL k n l → ∀ x ∈ leavesL l, lowD k n x
  | [] => by simp [leavesL]
  | d :: r => by
    intro h x hx
    simp only [leavesL, List.mem_append] at hx
    rcases hx with hx | hx
    · exact lowD_leaves d h.1 x hx
    · exact lowL_leaves r h.2 x hx
end

mutual
theorem low_of_leaves {k n : Nat} : ∀ d : D, (∀ x ∈ leaves d, lowD k n x) → lowD k n d
  | .agg l => by simp only [lowD, leaves]; exact low_of_leavesL l
  | .lit v => fun _ => trivial
  | .lst e l t => fun h => h _ (by simp [leaves])
  | .ref s d => fun _ => trivial
  | .ptr b p => fun h => h _ (by simp [leaves])
  | .fn f c => fun h => h _ (by simp [leaves])
  | .tup l => fun h => h _ (by simp [leaves])
  | .ifc t d => fun _ => trivial
  | .mref b => fun h => h _ (by simp [leaves])
  | .mp a b g => fun h => h _ (by simp [leaves])
  | .it m g s => fun h => h _ (by simp [leaves])
  | .sl e b lo m c => fun h => h _ (by simp [leaves])
theorem low_of_leavesL {k n : Nat} : ∀ l : List D, (∀ x ∈ leavesL l, lowD k n x) → lowL k n l
  | [], _ => trivial
  | d :: r, h => ⟨low_of_leaves d fun x hx => h x (by simp [leavesL, hx]), low_of_leavesL r fun x hx => h x (by simp [leavesL, hx])⟩
end
mutual
theorem leaves_leaves : ∀ (d x : D), x ∈ leaves d → leaves x = [x]
  | .agg l, x, h => by simp only [leaves] at h; exact leavesL_leaves l x h
  | .lit v, x, h => by simp only [leaves, List.mem_singleton] at h; subst h; simp [leaves]
  | .lst e l t, x, h => by simp only [leaves, List.mem_singleton] at h; subst h; simp [leaves]
  | .ref s d, x, h => by simp only [leaves, List.mem_singleton] at h; subst h; simp [leaves]
  | .ptr b p, x, h => by simp only [leaves, List.mem_singleton] at h; subst h; simp [leaves]
  | .fn f c, x, h => by simp only [leaves, List.mem_singleton] at h; subst h; simp [leaves]
  | .tup l, x, h => by simp only [leaves, List.mem_singleton] at h; subst h; simp [leaves]
  | .ifc t d, x, h => by simp only [leaves, List.mem_singleton] at h; subst h; simp [leaves]
  | .mref b, x, h => by simp only [leaves, List.mem_singleton] at h; subst h; simp [leaves]
  | .mp a b g, x, h => by simp only [leaves, List.mem_singleton] at h; subst h; simp [leaves]
  | .it m g s, x, h => by simp only [leaves, List.mem_singleton] at h; subst h; simp [leaves]
  | .sl e b lo m c, x, h => by simp only [leaves, List.mem_singleton] at h; subst h; simp [leaves]
theorem leavesL_leaves : ∀ (l : List D) (x : D), x ∈ leavesL l → leaves x = [x]
  | [], x, h => by simp [leavesL] at h
  | d :: r, x, h => by
    simp only [leavesL, List.mem_append] at h
    rcases h with h | h
    · exact leaves_leaves d x h
    · exact leavesL_leaves r x h
end

mutual
/-- Data at a function's end: no tokens; what cells of variables from k on hold is read once and for all. -/
def meltD (bs : List (Sh × D)) (k : Nat) : D → D
  | .agg l => .agg (meltL bs k l)
  | .lst e l _ => .lst e l .no
  | .tup l => .tup (meltL bs k l)
  | .lit v => .lit v
  | .ref s d => .ref s d
  | .ptr b p => .ptr b p
  | .fn f c => .fn f c
  | .ifc t d => .ifc t d
  | .mref b => .mref b
  | .mp a v g => .mp a v g
  | .it m g s => .it m g s
  | .sl e b lo n c => if k ≤ b then (match bs[b]? with | some (.arr _ _, .agg L) => .lst e ((L.drop lo).take n) .no | _ => .sl e b lo n c) else .sl e b lo n c
def meltL (bs : List (Sh × D)) (k : Nat) : List D → List D
  | [] => []
  | d :: r => meltD bs k d :: meltL bs k r
end
theorem meltL_map (bs : List (Sh × D)) (k : Nat) (l : List D) : meltL bs k l = l.map (meltD bs k) := by
  induction l with
  | nil => rfl
  | cons d r ih => simp [meltL, ih]

theorem leaves_sl_melt (bs : List (Sh × D)) (k : Nat) (e : TypeId) (b lo n c : Nat) : leaves (meltD bs k (.sl e b lo n c)) = [meltD bs k (.sl e b lo n c)] := by
  unfold meltD
  split
  · split <;> simp [leaves]
  · simp [leaves]
mutual
theorem leaves_melt (bs : List (Sh × D)) (k : Nat) : ∀ d : D, leaves (meltD bs k d) = (leaves d).map (meltD bs k)
  | .agg l => by simp only [meltD, leaves]; exact leavesL_melt bs k l
  | .lit v => by simp [meltD, leaves]
  | .lst e l t => by simp [meltD, leaves]
  | .ref s d => by simp [meltD, leaves]
  | .ptr b p => by simp [meltD, leaves]
  | .fn f c => by simp [meltD, leaves]
  | .tup l => by simp [meltD, leaves]
  | .ifc t d => by simp [meltD, leaves]
  | .mref b => by simp [meltD, leaves]
  | .mp a v g => by simp [meltD, leaves]
  | .it m g s => by simp [meltD, leaves]
  | .sl e b lo n c => by rw [leaves_sl_melt]; simp [leaves]
theorem leavesL_melt (bs : List (Sh × D)) (k : Nat) : ∀ l : List D, leavesL (meltL bs k l) = (leavesL l).map (meltD bs k)
  | [] => by simp [meltL, leavesL]
  | d :: r => by simp only [meltL, leavesL, List.map_append]; rw [leaves_melt bs k d, leavesL_melt bs k r]
end

/-- Which blocks' cells are read once and for all at a function's end. -/
def Frozen (ρ : Env) (bs : List (Sh × D)) (k : Nat) (B : Nat) : Prop := ∃ (b N : Nat) (s : Sh) (L : List D), k ≤ b ∧ ρ.box[b]? = some (B, .arr N s) ∧ bs[b]? = some (.arr N s, .agg L) ∧ pureL L

open Classical in
/-- What is known behind a function's end. -/
noncomputable def Env.close (ρ : Env) (bs : List (Sh × D)) (w : World) (k n : Nat) : Env :=
  { S := fun B i => if Frozen ρ bs k B then (match w.heap[B]? with | some (.cells c _ _) => c[i]? | _ => none) else ρ.S B i
    box := ρ.box.take k, tok := ρ.tok.take n, own := ρ.own }

variable {ρ : Env} {w : World} {bs : List (Sh × D)} {tk : List Bool}

theorem frozen_S (r : Real C.sh ρ ⟨bs, tk⟩ w) {k B : Nat} (h : Frozen ρ bs k B) : (∀ j, ρ.S B j = none) ∧ ∃ c e, w.heap[B]? = some (.cells c e (0, 0)) := by
  obtain ⟨b, N, s, L, _, h2, h3, _⟩ := h
  obtain ⟨_, _, h4, h5⟩ := r.box b B _ _ _ h2 h3 (by simp)
  obtain ⟨c, e, h6, _⟩ := (boxAt_cells rfl).1 h5
  exact ⟨h4, c, e, h6⟩

theorem close_S (r : Real C.sh ρ ⟨bs, tk⟩ w) (k n : Nat) : ∀ B i v, ρ.S B i = some v → (ρ.close bs w k n).S B i = some v := by
  intro B i v hv
  simp only [Env.close]
  rw [if_neg]
  · exact hv
  · intro hf
    rw [(frozen_S r hf).1 i] at hv; cases hv

theorem vp_melt {T : TypeId → Sh} {S : Nat → Nat → Option Value} {bs : List (Sh × D)} {k : Nat} {v : Value} {d : D} (h : VP T S v d) : VP T S v (meltD bs k d) := by
  induction h with
  | lit v => exact .lit v
  | @agg cs l hl _ ih =>
    refine .agg (by rw [leavesL_melt, List.length_map]; exact hl) ?_
    intro i c d hc hd
    rw [leavesL_melt, List.getElem?_map, Option.map_eq_some_iff] at hd
    obtain ⟨x, hx, rfl⟩ := hd
    exact ih i c x hc hx
  | nil _ => exact .nil (by simp)
  | lst cs hr hl h hs hc hm _ _ => exact .lst cs hr hl h hs hc hm (by simp) (by simp)
  | ref cs hr hl h hs => exact .ref cs hr hl h hs
  | ifc h => exact .ifc h

theorem vv_cut {k n : Nat} (r : Real C.sh ρ ⟨bs, tk⟩ w) {v : Value} {d : D} (h : VV C.sh ρ v d) : lowD k n d → VV C.sh (ρ.close bs w k n) v d := by
  induction h with
  | pure h => intro _; exact .pure (h.mono (close_S r k n))
  | agg hl h ih =>
    intro hlow
    refine .agg hl fun i c d hc hd => ih i c d hc hd ?_
    exact lowL_leaves _ (by simpa [lowD] using hlow) d (List.mem_of_getElem? hd)
  | ownNil h =>
    intro hlow
    refine .ownNil ?_
    simp only [Env.close]
    rw [List.getElem?_take, if_pos (show _ < _ from hlow)]; exact h
  | own h hn hv =>
    intro hlow
    refine .own ?_ hn (hv.mono (close_S r k n))
    simp only [Env.close]
    rw [List.getElem?_take, if_pos (show _ < _ from hlow)]; exact h
  | ptr h hp =>
    intro hlow
    refine .ptr ?_ hp
    simp only [Env.close]
    rw [List.getElem?_take, if_pos (show _ < _ from hlow)]; exact h
  | fn hl h ih =>
    intro hlow
    simp only [lowD] at hlow
    exact .fn hl fun i c d hc hd => ih i c d hc hd (lowL_iff.1 hlow d (List.mem_of_getElem? hd))
  | bnd hl h ih =>
    intro hlow
    simp only [lowD] at hlow
    exact .bnd hl fun i c d hc hd => ih i c d hc hd (lowL_iff.1 hlow d (List.mem_of_getElem? hd))
  | tup hl h ih =>
    intro hlow
    simp only [lowD] at hlow
    exact .tup hl fun i c d hc hd => ih i c d hc hd (lowL_iff.1 hlow d (List.mem_of_getElem? hd))
  | mref h =>
    intro hlow
    refine .mref ?_
    simp only [Env.close]
    rw [List.getElem?_take, if_pos (show _ < _ from hlow)]; exact h
  | sl h hc hn hm ho =>
    intro hlow
    refine .sl ?_ hc hn hm ho
    simp only [Env.close]
    rw [List.getElem?_take, if_pos (show _ < _ from hlow)]; exact h

theorem vv_melt {k n : Nat} (r : Real C.sh ρ ⟨bs, tk⟩ w) (hpu : ∀ (b N : Nat) (s : Sh) (L : List D), k ≤ b → bs[b]? = some (.arr N s, .agg L) → pureL L) {v : Value} {d : D} (h : VV C.sh ρ v d) : lowD k n (meltD bs k d) → VV C.sh (ρ.close bs w k n) v (meltD bs k d) := by
  induction h with
  | pure h => intro _; exact .pure (vp_melt (h.mono (close_S r k n)))
  | agg hl h ih =>
    intro hlow
    simp only [meltD] at hlow ⊢
    refine .agg (by rw [leavesL_melt, List.length_map]; exact hl) ?_
    intro i c d hc hd
    have hd0 := hd
    rw [leavesL_melt, List.getElem?_map, Option.map_eq_some_iff] at hd
    obtain ⟨x, hx, rfl⟩ := hd
    exact ih i c x hc hx (lowL_leaves _ (by simpa [lowD] using hlow) _ (List.mem_of_getElem? hd0))
  | ownNil h => intro _; exact .pure (.nil (by simp))
  | own h _ hv => intro _; exact .pure (hv.mono (close_S r k n))
  | ptr h hp => exact vv_cut r (.ptr h hp)
  | fn hl h ih => exact vv_cut r (.fn hl h)
  | bnd hl h ih => exact vv_cut r (.bnd hl h)
  | tup hl h ih =>
    intro hlow
    simp only [meltD] at hlow ⊢
    refine .tup (by rw [meltL_map, List.length_map]; exact hl) ?_
    intro i c d hc hd
    have hd0 := hd
    rw [meltL_map, List.getElem?_map, Option.map_eq_some_iff] at hd
    obtain ⟨x, hx, rfl⟩ := hd
    simp only [lowD] at hlow
    exact ih i c x hc hx (lowL_iff.1 hlow _ (List.mem_of_getElem? hd0))
  | mref h => exact vv_cut r (.mref h)
  | @sl e b lo m c B N o h hc hn hm ho =>
    intro hlow
    by_cases hkb : k ≤ b
    · simp only [meltD, if_pos hkb] at hlow ⊢
      split at hlow
      · rename_i N' s L hbx
        have hp := hpu b N' s L hkb hbx
        obtain ⟨e1, hsh, cc, tt, hw, ha⟩ := real_box r h hbx rfl
        cases e1
        obtain ⟨hL, hsL⟩ := hsh
        simp only [leaves] at ha
        have hfz : Frozen ρ bs k B := ⟨b, N, _, L, hkb, h, hbx, hp⟩
        obtain ⟨cs, hcs, k1, k2, k3, k4, k5⟩ := block_row (s := C.sh e) hw ha hsL (lo := lo) (n := m) (by omega)
        have hpl : ∀ y ∈ leavesL ((L.drop lo).take m), pureD y := by
          intro y hy
          rw [leavesL_flatMap, List.mem_flatMap] at hy
          obtain ⟨z, hz, hy⟩ := hy
          exact pureD_leaves z (pureL_mem hp z (List.mem_of_mem_drop (List.mem_of_mem_take hz))) y hy
        have key : VP C.sh (ρ.close bs w k n).S (.slice (some ⟨B, o, none⟩) ((L.drop lo).take m).length c) (.lst e ((L.drop lo).take m) .no) := by
          refine .lst cs ?_ k2.1 (fun i c y hc hy => (vp_of_vv (k2.2 i c y hc hy) (hpl y (List.mem_of_getElem? hy))).mono (close_S r k n)) k5 (by rw [k4]; exact hn) (by omega) (by simp) (by simp)
          intro i v hv
          have hi := (List.getElem?_eq_some_iff.1 hv).1
          have hn0 : m ≠ 0 := by rintro rfl; rw [k1] at hi; simp at hi
          refine ⟨rfl, ?_⟩
          simp only [Env.close]
          rw [if_pos hfz, hw, ho (by omega)]
          simp only
          rw [hcs, List.getElem?_take] at hv
          split at hv
          · rw [List.getElem?_drop] at hv; simpa using hv
          · cases hv
        rw [k4] at key
        exact .pure key
      · rename_i hno
        exact absurd hlow (by simp only [lowD]; omega)
    · have e2 : meltD bs k (.sl e b lo m c) = .sl e b lo m c := by simp [meltD, hkb]
      rw [e2] at hlow ⊢
      exact vv_cut r (.sl h hc hn hm ho) hlow

/-- Data of what is known. -/
theorem vv_low {v : Value} {d : D} (h : VV C.sh ρ v d) : lowD ρ.box.length ρ.tok.length d := by
  have len : ∀ {α : Type} {l : List α} {i : Nat} {x : α}, l[i]? = some x → i < l.length := fun h => (List.getElem?_eq_some_iff.1 h).1
  induction h with
  | pure h =>
    have key : ∀ {v : Value} {d : D}, VP C.sh ρ.S v d → (∀ x ∈ leaves d, lowD ρ.box.length ρ.tok.length x) := by
      intro v d h
      induction h with
      | lit v => intro x hx; simp [leaves] at hx; subst hx; trivial
      | agg hl _ ih =>
        intro x hx
        simp only [leaves] at hx
        obtain ⟨i, hi, rfl⟩ := List.getElem_of_mem hx
        have h1 := ih i _ _ (List.getElem?_eq_getElem (by omega)) (List.getElem?_eq_getElem hi)
        exact h1 _ (by
          have := leavesL_leaves _ _ hx
          rw [this]; simp)
      | nil ht => intro x hx; simp [leaves] at hx; subst hx; rename_i t; cases t <;> first | trivial | (exact absurd rfl (ht _))
      | lst cs hr hl h hs hc hm ht hf => intro x hx; simp [leaves] at hx; subst hx; rename_i t _; cases t <;> first | trivial | (exact absurd rfl (ht _))
      | ref => intro x hx; simp [leaves] at hx; subst hx; trivial
      | ifc => intro x hx; simp [leaves] at hx; subst hx; trivial
    exact low_of_leaves _ (key h)
  | agg hl h ih =>
    refine low_of_leaves _ ?_
    intro x hx
    simp only [leaves] at hx
    obtain ⟨i, hi, rfl⟩ := List.getElem_of_mem hx
    exact ih i _ _ (List.getElem?_eq_getElem (by omega)) (List.getElem?_eq_getElem hi)
  | ownNil h => exact len h
  | own h _ hv => exact len h
  | ptr h hp => exact len h
  | fn hl h ih =>
    simp only [lowD, lowL_iff]
    intro x hx
    obtain ⟨i, hi, rfl⟩ := List.getElem_of_mem hx
    exact ih i _ _ (List.getElem?_eq_getElem (by omega)) (List.getElem?_eq_getElem hi)
  | bnd hl h ih =>
    simp only [lowD, lowL_iff]
    intro x hx
    obtain ⟨i, hi, rfl⟩ := List.getElem_of_mem hx
    exact ih i _ _ (List.getElem?_eq_getElem (by omega)) (List.getElem?_eq_getElem hi)
  | tup hl h ih =>
    simp only [lowD, lowL_iff]
    intro x hx
    obtain ⟨i, hi, rfl⟩ := List.getElem_of_mem hx
    exact ih i _ _ (List.getElem?_eq_getElem (by omega)) (List.getElem?_eq_getElem hi)
  | mref h => exact len h
  | sl h => exact len h

/-- What a variable holds is of what is known. -/
theorem box_low (r : Real C.sh ρ ⟨bs, tk⟩ w) {b B : Nat} {sh sh' : Sh} {x : D} (hb : ρ.box[b]? = some (B, sh)) (hx : bs[b]? = some (sh', x)) (hne : sh' ≠ .obj 0) : lowD ρ.box.length ρ.tok.length x := by
  obtain ⟨rfl, h2, _, h4⟩ := r.box b B sh sh' x hb hx hne
  unfold BoxAt at h4
  split at h4
  · obtain ⟨ks, vs, g, es, clock, rfl, _, _, _, _, h5⟩ := h4
    simp only [lowD, lowL_iff]
    intro y hy
    obtain ⟨i, hi, rfl⟩ := List.getElem_of_mem hy
    exact vv_low (h5.2 i _ _ (List.getElem?_eq_getElem (by rw [h5.1]; exact hi)) (List.getElem?_eq_getElem hi))
  · obtain ⟨m, g, seen, Bm, since, sn, c0, rfl, _, h3, _⟩ := h4
    exact (List.getElem?_eq_some_iff.1 h3).1
  · obtain ⟨c, e, _, h5⟩ := h4
    refine low_of_leaves _ fun y hy => ?_
    obtain ⟨i, hi, rfl⟩ := List.getElem_of_mem hy
    exact vv_low (h5.2 i _ _ (List.getElem?_eq_getElem (by rw [h5.1]; exact hi)) (List.getElem?_eq_getElem hi))

/-- Memory at a function's end: what is of no use to anybody is forgotten. -/
theorem close_real {keep ex : List (Sh × D)} {tk exk : List Bool} (r : Real C.sh ρ ⟨keep ++ ex, tk ++ exk⟩ w) (hl : ∀ (j : Nat) (sh : Sh) (d : D), keep[j]? = some (sh, d) → sh ≠ .obj 0 → lowD keep.length tk.length d) :
    Real C.sh (ρ.close (keep ++ ex) w keep.length tk.length) ⟨keep, tk⟩ w := by
  have hlenB := r.lenB
  have hlenT := r.lenT
  simp only [List.length_append] at hlenB hlenT
  have hbox : ∀ {b : Nat} {x : Nat × Sh}, (ρ.close (keep ++ ex) w keep.length tk.length).box[b]? = some x → ρ.box[b]? = some x ∧ b < keep.length := by
    intro b x h
    simp only [Env.close] at h
    rw [List.getElem?_take] at h
    split at h
    · rename_i hb; exact ⟨h, hb⟩
    · cases h
  have htok : ∀ {t : Nat} {x : Option (Nat × Nat × Nat)}, (ρ.close (keep ++ ex) w keep.length tk.length).tok[t]? = some x → ρ.tok[t]? = some x := by
    intro t x h
    simp only [Env.close] at h
    rw [List.getElem?_take] at h
    split at h
    · exact h
    · cases h
  have hk : ∀ {b : Nat} {x : Sh × D}, keep[b]? = some x → (keep ++ ex)[b]? = some x := by
    intro b x h
    rw [List.getElem?_append_left (List.getElem?_eq_some_iff.1 h).1]; exact h
  have hkt : ∀ {b : Nat} {x : Bool}, tk[b]? = some x → (tk ++ exk)[b]? = some x := by
    intro b x h
    rw [List.getElem?_append_left (List.getElem?_eq_some_iff.1 h).1]; exact h
  have notF : ∀ {b B : Nat} {sh : Sh}, ρ.box[b]? = some (B, sh) → b < keep.length → ¬ Frozen ρ (keep ++ ex) keep.length B := by
    rintro b B sh hb hlt ⟨b', N, s, L, h1, h2, _⟩
    have := r.inj b b' B _ _ hb h2
    omega
  refine ⟨?_, by simp only [Env.close, List.length_take]; omega, by simp only [Env.close, List.length_take]; omega, fun b B sh hb => r.bown b B sh (hbox hb).1, ?_, ?_, ?_, ?_, r.lt⟩
  · intro B i v hv
    simp only [Env.close] at hv
    split at hv
    · rename_i hf
      obtain ⟨_, c, e, hc⟩ := frozen_S r hf
      rw [hc] at hv
      exact ⟨c, e, _, hc, hv⟩
    · exact r.st B i v hv
  · intro b B sh sh' d hb hd hne
    obtain ⟨hb1, hb2⟩ := hbox hb
    obtain ⟨k1, k2, k4, k5⟩ := r.box b B sh sh' d hb1 (hk hd) hne
    refine ⟨k1, k2, ?_, ?_⟩
    · intro j
      simp only [Env.close]
      rw [if_neg (notF hb1 hb2)]; exact k4 j
    · have hlow := hl b sh' d hd hne
      unfold BoxAt at k5 ⊢
      split at k5
      · obtain ⟨ks, vs, g, es, clock, rfl, q1, q2, q3, qf, q4⟩ := k5
        refine ⟨ks, vs, g, es, clock, rfl, q1, q2, q3, qf, q4.1, fun i c y hc hy => vv_cut r (q4.2 i c y hc hy) ?_⟩
        simp only [lowD, lowL_iff] at hlow
        exact hlow y (List.mem_of_getElem? hy)
      · obtain ⟨m, g, seen, Bm, since, sn, c0, rfl, q1, q2, q3, q4⟩ := k5
        have hm : m < keep.length := hlow
        refine ⟨m, g, seen, Bm, since, sn, c0, rfl, q1, ?_, fun ks vs g' hh => q3 ks vs g' (hk hh), fun ks vs es clock h1 h2 => q4 ks vs es clock (hk h1) h2⟩
        simp only [Env.close]
        rw [List.getElem?_take, if_pos hm]; exact q2
      · obtain ⟨c, e, q1, q2⟩ := k5
        exact ⟨c, e, q1, q2.1, fun i c y hc hy => vv_cut r (q2.2 i c y hc hy) (lowD_leaves d hlow y (List.mem_of_getElem? hy))⟩
  · intro b b' B sh sh' hb hb'
    exact r.inj b b' B sh sh' (hbox hb).1 (hbox hb').1
  · intro t B n lim ht hlv
    have ht1 := htok ht
    obtain ⟨h1, h2, h3, h4⟩ := r.tok t B n lim ht1 (hkt hlv)
    refine ⟨h1, ?_, h3, fun b sh hb => h4 b sh (hbox hb).1⟩
    intro j hj
    simp only [Env.close]
    rw [if_neg]
    · exact h2 j hj
    · rintro ⟨b, N, s, L, _, q2, _⟩
      exact h4 b _ q2
  · intro t t' B n n' lim lim' ht ht' hlv hlv'
    exact r.tinj t t' B n n' lim lim' (htok ht) (htok ht') (hkt hlv) (hkt hlv')

/-- A function that may leave something in memory: of variables' data and these arguments' it is as R says of its result and of what is left. -/
def HSpec (P : Program) (C : Tab) (f : FuncId) (args : List D) (bs : List (Sh × D)) (R : D → List (Sh × D) → Prop) : Prop :=
  ∀ tk, ASpec P C f args ⟨bs, tk⟩ fun r h' => ∃ bs', h' = ⟨bs', tk⟩ ∧ R r bs'

/-- A function's end, in memory's words. -/
def endH (C : Tab) (rs : List ResultVar) (bs : List (Sh × D)) (tk : List Bool) (R : D → List (Sh × D) → Prop) : AExit → St → Prop := fun e s => match e with
  | .exit _ => False
  | _ => ∃ r keep ex exk, resultsD C s rs = some r ∧ s.heap.boxes = keep ++ ex ∧ s.heap.toks = tk ++ exk ∧ bs.length ≤ keep.length ∧
    (∀ (j : Nat) (x : Sh × D), keep[j]? = some x → x.1 = .obj 0 ∨ lowD keep.length tk.length x.2 ∨ bs[j]? = some x) ∧
    (∀ (b N : Nat) (s' : Sh) (L : List D), keep.length ≤ b → (keep ++ ex)[b]? = some (.arr N s', .agg L) → pureL L) ∧
    lowD keep.length tk.length (meltD (keep ++ ex) keep.length r) ∧ R (meltD (keep ++ ex) keep.length r) keep

mutual
theorem lowD_mono {k k' n n' : Nat} (hk : k ≤ k') (hn : n ≤ n') : ∀ d : D, lowD k n d → lowD k' n' d
  | .agg l => by simp only [lowD]; exact lowL_mono hk hn l
  | .lit v => fun _ => trivial
  | .lst e l t => by cases t <;> simp only [lowD] <;> first | exact fun _ => trivial | (intro h; omega)
  | .ref s d => fun _ => trivial
  | .ptr b p => by simp only [lowD]; omega
  | .fn f c => by simp only [lowD]; exact lowL_mono hk hn c
  | .tup l => by simp only [lowD]; exact lowL_mono hk hn l
  | .ifc t d => fun _ => trivial
  | .mref b => by simp only [lowD]; omega
  | .mp a l g => by simp only [lowD]; exact lowL_mono hk hn l
  | .it m g s => by simp only [lowD]; omega
  | .sl e b lo m c => by simp only [lowD]; omega
theorem lowL_mono {k k' n n' : Nat} (hk : k ≤ k') (hn : n ≤ n') : ∀ l : List D, lowL k n l → lowL k' n' l
  | [] => fun _ => trivial
  | d :: r => fun h => ⟨lowD_mono hk hn d h.1, lowL_mono hk hn r h.2⟩
end

theorem HSpec.of (hT : TabOk P C) {f : FuncId} {fn : Func} {c : Code} {args : List D} {R : D → List (Sh × D) → Prop} (hf : P.funcs[f]? = some fn) (hb : fn.body = some c) (hn : (fn.name == "runtime.NumGoroutine") = false) {rs : List ResultVar} (hrs : fn.results.toList = rs) {n : Nat}
    (hnt : fn.ntmps - args.length = n) (hw : ∀ tk, awp P C c (endH C rs bs tk R) ⟨args ++ List.replicate n (.lit undef), ⟨bs, tk⟩⟩) : HSpec P C f args bs R := by
  intro tk
  refine ⟨⟨fn, hf, by rw [hb]; rfl, hn⟩, ?_⟩
  intro ρ w vs hr hv
  refine calls_of_wp hf hb ?_
  have hlen : vs.size = args.length := by rw [← Array.length_toList]; exact hv.1
  have h0 : Rl C ρ ⟨args ++ List.replicate n (.lit undef), ⟨bs, tk⟩⟩ { tmps := vs ++ Array.replicate (fn.ntmps - vs.size) undef, defers := [] } w := by
    refine ⟨hr, ?_, rfl⟩
    simp only [Array.toList_append, Array.toList_replicate, hlen, hnt]
    refine hv.append ⟨by simp, ?_⟩
    intro i c d hc hd
    rw [List.getElem?_replicate] at hc hd
    split at hc
    · rename_i hi; rw [if_pos hi] at hd; cases hc; cases hd; exact .lit _
    · cases hc
  have fin : ∀ (e : AExit) (s' : St) (a' : Act) (w' : World) (ρ' : Env), Ext ρ w ρ' w' → Rl C ρ' s' a' w' → (∀ i, e ≠ .exit i) → endH C rs bs tk R e s' →
      a'.defers = [] ∧ ∃ v, (results fn a'.tmps).run P w' = .ok v w' ∧ ∃ v' r h' ρ', Ending.returned v = .returned v' ∧ Ext ρ w ρ' w' ∧ Real C.sh ρ' h' w' ∧ VV C.sh ρ' v' r ∧ ∃ bs', h' = ⟨bs', tk⟩ ∧ R r bs' := by
    intro e s' a' w' ρ' k1 k2 he hend
    have hend' : ∃ r keep ex exk, resultsD C s' rs = some r ∧ s'.heap.boxes = keep ++ ex ∧ s'.heap.toks = tk ++ exk ∧ bs.length ≤ keep.length ∧
        (∀ (j : Nat) (x : Sh × D), keep[j]? = some x → x.1 = .obj 0 ∨ lowD keep.length tk.length x.2 ∨ bs[j]? = some x) ∧
        (∀ (b N : Nat) (s' : Sh) (L : List D), keep.length ≤ b → (keep ++ ex)[b]? = some (.arr N s', .agg L) → pureL L) ∧
        lowD keep.length tk.length (meltD (keep ++ ex) keep.length r) ∧ R (meltD (keep ++ ex) keep.length r) keep := by
      cases e with
      | exit i => exact absurd rfl (he i)
      | _ => exact hend
    obtain ⟨r, keep, ex, exk, q1, q2, q3, q4, q5, q6, q7, q8⟩ := hend'
    rw [← hrs] at q1
    obtain ⟨v, hv, hvd⟩ := results_sound hT k2 q1
    have hheap : s'.heap = ⟨keep ++ ex, tk ++ exk⟩ := by
      cases hs : s'.heap with | mk b t => rw [hs] at q2 q3; simp only at q2 q3; rw [q2, q3]
    have hreal := k2.real
    rw [hheap] at hreal
    have hlB : ρ.box.length = bs.length := hr.lenB.symm
    have hlT : ρ.tok.length = tk.length := hr.lenT.symm
    have hlow : ∀ (j : Nat) (sh : Sh) (d : D), keep[j]? = some (sh, d) → sh ≠ .obj 0 → lowD keep.length tk.length d := by
      intro j sh d hj hne
      rcases q5 j _ hj with h1 | h1 | h1
      · exact absurd h1 hne
      · exact h1
      · have hjb : j < ρ.box.length := by rw [hlB]; exact (List.getElem?_eq_some_iff.1 h1).1
        have hbox : ρ.box[j]? = some (ρ.box[j].1, ρ.box[j].2) := List.getElem?_eq_getElem hjb
        exact lowD_mono (by omega) (by omega) d (box_low hr hbox h1 hne)
    have hclose := close_real hreal hlow
    refine ⟨k2.defers, v, hv, v, _, ⟨keep, tk⟩, ρ'.close (keep ++ ex) w' keep.length tk.length, rfl, ⟨?_, k1.os, k1.tape, k1.output, k1.size, k1.blk, k1.own, ?_, k1.dr⟩, hclose, vv_melt hreal q6 hvd q7, keep, rfl, q8⟩
    · refine ⟨fun B i v h => close_S hreal _ _ B i v (k1.le.S B i v h), fun b x h => ?_, fun t x h => ?_⟩
      · simp only [Env.close]
        rw [List.getElem?_take, if_pos (by have := (List.getElem?_eq_some_iff.1 h).1; omega)]
        exact k1.le.box b x h
      · simp only [Env.close]
        rw [List.getElem?_take, if_pos (by have := (List.getElem?_eq_some_iff.1 h).1; omega)]
        exact k1.le.tok t x h
    · intro B i v hB h
      simp only [Env.close] at h
      split at h
      · rename_i hf
        obtain ⟨b, N, s, L, _, g2, _⟩ := hf
        exact .inl (k1.own B hB (hreal.bown b B _ g2))
      · exact k1.old B i v hB h
  refine awp_sound hT h0 (hw tk) ?_
  intro e ρ' s' a' w' k1 k2 k3
  cases e with
  | normal => exact fin .normal s' a' w' ρ' k1 k2 (by simp) k3
  | ret => exact fin .ret s' a' w' ρ' k1 k2 (by simp) k3
  | exit i => exact k3.elim

/-- A function that only computes, whose slices are written. -/
theorem HSpec.pure {f : FuncId} {args : List D} {R : D → Prop} (h : HSpec P C f args [] fun r _ => pureR r ∧ R r) : PSpec P C f args R :=
  (h []).mono fun _ _ ⟨_, _, h⟩ => h

end
end Go.Ab
