/- Data without tokens, all the way down: calls with slices of slices. Conditions: none. -/
import Derived.Test.YtjafmlbcjhoflaaGreatAbHs
namespace Go.Ab
mutual
def deep : D → D
  | .agg l => .agg (deepL l)
  | .lst e l _ => .lst e (deepL l) .no
  | .tup l => .tup (deepL l)
  | .lit v => .lit v
  | .ref s d => .ref s d
  | .ptr b p => .ptr b p
  | .fn f c => .fn f c
  | .ifc t d => .ifc t d
  | .mref b => .mref b
  | .mp k v g => .mp k v g
  | .it m g s => .it m g s
  | .sl e b lo n c => .sl e b lo n c
def deepL : List D → List D
  | [] => []
  | d :: r => deep d :: deepL r
end
theorem deepL_map (l : List D) : deepL l = l.map deep := by
  induction l with
  | nil => rfl
  | cons d r ih => simp [deepL, ih]
mutual
theorem leaves_deep : ∀ d : D, leaves (deep d) = (leaves d).map deep
  | .agg l => by simp only [deep, leaves]; exact leavesL_deep l
  | .lit v => by simp [deep, leaves]
  | .lst e l t => by simp [deep, leaves]
  | .ref s d => by simp [deep, leaves]
  | .ptr b p => by simp [deep, leaves]
  | .fn f c => by simp [deep, leaves]
  | .tup l => by simp [deep, leaves]
  | .ifc t d => by simp [deep, leaves]
  | .mref b => by simp [deep, leaves]
  | .mp k v g => by simp [deep, leaves]
  | .it m g s => by simp [deep, leaves]
  | .sl e b lo n c => by simp [deep, leaves]
theorem leavesL_deep : ∀ l : List D, leavesL (deepL l) = (leavesL l).map deep
  | [] => by simp [deepL, leavesL]
  | d :: r => by simp only [deepL, leavesL, List.map_append]; rw [leaves_deep d, leavesL_deep r]
end
theorem hasSh_deep {s : Sh} : ∀ {d : D}, hasSh s d → hasSh s (deep d) := by
  induction s with
  | leaf => intro d h; cases d <;> simp_all [hasSh, deep, D.isLeaf]
  | obj k => intro d h; cases d <;> simp_all [hasSh, deep, D.isLeaf]
  | unit =>
    intro d h
    cases d with
    | agg l => simp only [hasSh] at h; subst h; simp [deep, deepL, hasSh]
    | _ => exact h.elim
  | pair a b iha ihb =>
    intro d h
    cases d with
    | agg l =>
      obtain ⟨x, r, rfl, h1, h2⟩ := h
      exact ⟨deep x, deepL r, rfl, iha h1, by have := ihb h2; simpa [deep] using this⟩
    | _ => exact h.elim
  | arr n s ih =>
    intro d h
    cases d with
    | agg l =>
      obtain ⟨h1, h2⟩ := h
      refine ⟨by rw [deepL_map, List.length_map]; exact h1, fun x hx => ?_⟩
      rw [deepL_map] at hx
      obtain ⟨y, hy, rfl⟩ := List.mem_map.1 hx
      exact ih (h2 y hy)
    | _ => exact h.elim
theorem vp_deep {T : TypeId → Sh} {S : Nat → Nat → Option Value} {v : Value} {d : D} (h : VP T S v d) : VP T S v (deep d) := by
  induction h with
  | lit v => exact .lit v
  | @agg cs l hl _ ih =>
    refine .agg (by rw [leavesL_deep, List.length_map]; exact hl) ?_
    intro i c d hc hd
    rw [leavesL_deep, List.getElem?_map, Option.map_eq_some_iff] at hd
    obtain ⟨x, hx, rfl⟩ := hd
    exact ih i c x hc hx
  | nil _ => exact .nil (by simp)
  | @lst a cap e l t cs hr hl _ hs hc hm _ _ ih =>
    have hlen : (deepL l).length = l.length := by rw [deepL_map, List.length_map]
    have : VP T S (.slice (some a) (deepL l).length cap) (.lst e (deepL l) .no) := by
      refine .lst cs hr (by rw [leavesL_deep, List.length_map]; exact hl) ?_ ?_ (by rw [hlen]; exact hc) hm (by simp) (by simp)
      · intro i c d hc hd
        rw [leavesL_deep, List.getElem?_map, Option.map_eq_some_iff] at hd
        obtain ⟨x, hx, rfl⟩ := hd
        exact ih i c x hc hx
      · intro d hd
        rw [deepL_map] at hd
        obtain ⟨y, hy, rfl⟩ := List.mem_map.1 hd
        exact hasSh_deep (hs y hy)
    rw [hlen] at this
    exact this
  | ref cs hr hl h hs _ => exact .ref cs hr hl h hs
  | ifc h _ => exact .ifc h
theorem vv_deep {T : TypeId → Sh} {ρ : Env} {v : Value} {d : D} (h : VV T ρ v d) : VV T ρ v (deep d) := by
  induction h with
  | pure h => exact .pure (vp_deep h)
  | @agg cs l hl _ ih =>
    refine .agg (by rw [leavesL_deep, List.length_map]; exact hl) ?_
    intro i c d hc hd
    rw [leavesL_deep, List.getElem?_map, Option.map_eq_some_iff] at hd
    obtain ⟨x, hx, rfl⟩ := hd
    exact ih i c x hc hx
  | ownNil _ => exact .pure (.nil (by simp))
  | own _ _ hv => have := vp_deep hv; exact .pure this
  | ptr h hp => exact .ptr h hp
  | fn hl h _ => exact .fn hl h
  | bnd hl h _ => exact .bnd hl h
  | @tup vs l hl _ ih =>
    simp only [deep]
    refine .tup (by rw [deepL_map, List.length_map]; exact hl) ?_
    intro i c d hc hd
    rw [deepL_map, List.getElem?_map, Option.map_eq_some_iff] at hd
    obtain ⟨x, hx, rfl⟩ := hd
    exact ih i c x hc hx
  | mref h => exact .mref h
  | sl h hc hn hm ho => exact .sl h hc hn hm ho
section
variable {P : Program} {C : Tab}
theorem ASpec.deep {f : FuncId} {args : List D} {h : Heap} {R : D → Heap → Prop} (hs : ASpec P C f (args.map deep) h R) : ASpec P C f args h R :=
  ⟨hs.1, fun ρ w vs hr hv => hs.2 ρ w vs hr ⟨by rw [hv.1, List.length_map], fun i c d hc hd => by
    rw [List.getElem?_map, Option.map_eq_some_iff] at hd
    obtain ⟨x, hx, rfl⟩ := hd
    exact vv_deep (hv.2 i c x hc hx)⟩⟩
theorem callK_deep {g : FuncId} {args args' : List D} {K : St → Prop} {dst : Option Tmp} {ts : List D} {h : Heap} {c : D} (hs : PSpec P C g args' (· = c)) (ha : (args.map deep).map erase = args') (hp : pureL args')
    (hk : K (St.put ⟨ts, h⟩ dst c)) : callK P C g args K dst ts h :=
  callK_a (hs.call h ha hp).deep (by rintro r h' ⟨rfl, rfl⟩; exact hk)
end
end Go.Ab
