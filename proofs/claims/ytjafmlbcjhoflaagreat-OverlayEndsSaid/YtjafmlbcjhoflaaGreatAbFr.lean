/- A function whose result is a value and a slice that nobody else has: more may be added to it. Conditions: none. -/
import Derived.Test.YtjafmlbcjhoflaaGreatAbPg
import Derived.Test.YtjafmlbcjhoflaaGreatAbDp
set_option linter.unusedSimpArgs false
namespace Go.Ab

theorem vp_retok {T : TypeId → Sh} {S : Nat → Nat → Option Value} {v : Value} {e : TypeId} {l : List D} {t : Tok} (h : VP T S v (.lst e l .no)) (h1 : ∀ i, t ≠ .own i) (h2 : ∀ a n cap, v = .slice (some a) n cap → t = .full → cap = l.length) : VP T S v (.lst e l t) := by
  cases h with
  | nil _ => exact .nil h1
  | lst cs hr hl h hs hc hm _ _ => exact .lst cs hr hl h hs hc hm h1 (fun ht => h2 _ _ _ rfl ht)
theorem vv_deepTail {T : TypeId → Sh} {ρ : Env} {v : Value} {e : TypeId} {l : List D} {t : Tok} (h : VV T ρ v (.lst e l t)) : VV T ρ v (.lst e (deepL l) t) := by
  have hlen : (deepL l).length = l.length := by rw [deepL_map, List.length_map]
  cases h with
  | pure h =>
    have hd := vp_deep h
    simp only [deep] at hd
    cases h with
    | nil ht => exact .pure (vp_retok hd ht (fun a n cap hv _ => by cases hv))
    | lst cs hr hl hh hs hc hm h1 h2 =>
      refine .pure (vp_retok hd h1 fun a n cap hv ht => ?_)
      simp only [Value.slice.injEq] at hv
      rw [hlen, ← hv.2.2]; exact h2 ht
  | ownNil h => exact .ownNil h
  | own h hn hv =>
    have hd := vp_deep hv
    simp only [deep] at hd
    rw [← hlen] at hd hn ⊢
    exact .own h hn hd
section
variable {P : Program} {C : Tab}
/-- A function that only computes: a value, and a slice that is the caller's own. -/
def FSpec (P : Program) (C : Tab) (f : FuncId) (args : List D) (R : D → TypeId → List D → Prop) : Prop :=
  ASpec P C f args noHeap fun r h' => ∃ a u L t, r = .tup [a, .lst u L t] ∧ pureD a ∧ live t h'.toks ∧ R a u L
theorem FSpec.ofDeep {f : FuncId} {args : List D} {R0 : D → Heap → Prop} {R : D → TypeId → List D → Prop} (hs : ASpec P C f args noHeap R0)
    (hr : ∀ r h', R0 r h' → ∃ a u L t, r = .tup [a, .lst u L t] ∧ pureD (deep a) ∧ live t h'.toks ∧ R (deep a) u (deepL L)) : FSpec P C f args R :=
  ⟨hs.1, fun ρ w vs hreal ha => (hs.2 ρ w vs hreal ha).mono fun _ _ ⟨v, r, h', ρ', h1, h2, h3, h4, h5⟩ => by
    obtain ⟨a, u, L, t, rfl, ha, hl, hR⟩ := hr r h' h5
    refine ⟨v, .tup [deep a, .lst u (deepL L) t], h', ρ', h1, h2, h3, ?_, deep a, u, deepL L, t, rfl, ha, hl, hR⟩
    cases h4 with
    | pure h => cases h
    | tup hl h =>
      refine .tup hl fun i c d hc hd => ?_
      match i, hd with
      | 0, hd => cases hd; exact vv_deep (h 0 c _ hc rfl)
      | 1, hd => cases hd; exact vv_deepTail (h 1 c _ hc rfl)⟩
/-- Such a function may be called with whatever own memory there is. -/
theorem FSpec.call {f : FuncId} {args args' : List D} {R : D → TypeId → List D → Prop} (hs : FSpec P C f args' R) (bs : List (Sh × D)) (tk : List Bool) (ha : args.map erase = args') (hp : pureL args') :
    ASpec P C f args ⟨bs, tk⟩ fun r h' => ∃ a u L t z, r = .tup [a, .lst u L t] ∧ h' = ⟨bs, tk ++ z⟩ ∧ liveH t tk z ∧ R a u L := by
  refine ⟨hs.1, ?_⟩
  intro ρ w vs hr hv
  let ρ0 : Env := { S := ρ.S, box := [], tok := [], own := fun _ => False }
  have hr0 : Real C.sh ρ0 noHeap w := by
    refine ⟨hr.st, rfl, rfl, ?_, ?_, ?_, ?_, ?_, fun _ h => h.elim⟩
    · intro b B sh hb; simp [ρ0] at hb
    · intro b B sh sh' d hb; simp [ρ0] at hb
    · intro b b' B sh sh' hb; simp [ρ0] at hb
    · intro t B n lim ht; simp [ρ0] at ht
    · intro t t' B n n' lim lim' ht; simp [ρ0] at ht
  have hv0 : All2 (VV C.sh ρ0) vs.toList args' := by
    refine ⟨by rw [hv.1, ← ha, List.length_map], ?_⟩
    intro i c d hc hd
    have hpd := pureL_mem hp d (List.mem_of_getElem? hd)
    rw [← ha, List.getElem?_map, Option.map_eq_some_iff] at hd
    obtain ⟨x, hx, rfl⟩ := hd
    have hvp := vp_of_vv (vv_erase (hv.2 i c x hc hx)) hpd
    exact .pure hvp
  refine (hs.2 ρ0 w vs hr0 hv0).mono ?_
  rintro e w' ⟨v, r, h', ρ', rfl, he, hr', hvr, a, u, L, t, rfl, hpa, hlv, hR⟩
  have hS : ∀ B i x, ρ.S B i = some x → ρ'.S B i = some x := he.le.S
  have hold : ∀ B i x, B < w.heap.size → ρ'.S B i = some x → ρ.S B i = some x := by
    intro B i x hB hx
    rcases he.old B i x hB hx with h1 | h1
    · exact h1.elim
    · exact h1
  have hblk : ∀ k, k < w.heap.size → w'.heap[k]? = w.heap[k]? := fun k hk => he.blk k hk (fun h => h)
  have hnew : ∀ k, ρ'.own k → w.heap.size ≤ k := fun k hk => by
    rcases Nat.lt_or_ge k w.heap.size with h | h
    · exact (he.own k h hk).elim
    · exact h
  let ρ'' : Env := { S := ρ'.S, box := ρ.box, tok := ρ.tok ++ ρ'.tok, own := fun B => ρ.own B ∨ ρ'.own B }
  have hlT : tk.length = ρ.tok.length := hr.lenT
  have hlT' : h'.toks.length = ρ'.tok.length := hr'.lenT
  have hle : ρ.le ρ'' := ⟨hS, fun _ _ h => h, fun t x h => by
    show (ρ.tok ++ ρ'.tok)[t]? = some x
    rw [List.getElem?_append_left (List.getElem?_eq_some_iff.1 h).1]; exact h⟩
  have hrr : Real C.sh ρ'' ⟨bs, tk ++ h'.toks⟩ w' := by
    have split : ∀ (t : Nat) (x : Option (Nat × Nat × Nat)) (b : Bool), (ρ.tok ++ ρ'.tok)[t]? = some x → (tk ++ h'.toks)[t]? = some b → (ρ.tok[t]? = some x ∧ tk[t]? = some b ∧ t < tk.length) ∨ (ρ'.tok[t - tk.length]? = some x ∧ h'.toks[t - tk.length]? = some b ∧ tk.length ≤ t) := by
      intro t x b h1 h2
      rcases Nat.lt_or_ge t tk.length with hlt | hge
      · rw [List.getElem?_append_left (by omega)] at h1
        rw [List.getElem?_append_left hlt] at h2
        exact .inl ⟨h1, h2, hlt⟩
      · rw [List.getElem?_append_right (by omega), ← hlT] at h1
        rw [List.getElem?_append_right hge] at h2
        exact .inr ⟨h1, h2, hge⟩
    refine ⟨hr'.st, hr.lenB, by show (tk ++ h'.toks).length = (ρ.tok ++ ρ'.tok).length; simp [hlT, hlT'], fun b B sh hb => .inl (hr.bown b B sh hb), ?_, hr.inj, ?_, ?_, ?_⟩
    · intro b B sh sh' d hb hd hne
      obtain ⟨k1, k2, k4, k5⟩ := hr.box b B sh sh' d hb hd hne
      have hB := hr.lt B (hr.bown b B sh hb)
      refine ⟨k1, k2, ?_, k5.keep hle (fun y hy => by rw [hblk B hB]; exact hy) fun m Bm hm => ⟨fun y hy => by rw [hblk Bm (hr.lt Bm (hr.bown m Bm _ hm))] at hy; exact hy, fun _ h => h⟩⟩
      intro j
      cases hj : ρ'.S B j with
      | none => rfl
      | some x => have := hold B j x hB hj; rw [k4 j] at this; cases this
    · intro t B n lim ht hl
      rcases split t _ _ ht hl with ⟨h1, h2, _⟩ | ⟨h1, h2, _⟩
      · obtain ⟨k1, k2, ⟨c, t', k3, k4⟩, k5⟩ := hr.tok t B n lim h1 h2
        have hB := hr.lt B k1
        refine ⟨.inl k1, ?_, ⟨c, t', by rw [hblk B hB]; exact k3, k4⟩, k5⟩
        intro j hj
        cases hjj : ρ'.S B j with
        | none => rfl
        | some x => have := hold B j x hB hjj; rw [k2 j hj] at this; cases this
      · obtain ⟨k1, k2, k3, _⟩ := hr'.tok _ B n lim h1 h2
        refine ⟨.inr k1, k2, k3, fun b sh hb => ?_⟩
        have := hr.lt B (hr.bown b B sh hb)
        have := hnew B k1
        omega
    · intro t t' B n n' lim lim' ht ht' hl hl'
      rcases split t _ _ ht hl with ⟨h1, h2, _⟩ | ⟨h1, h2, h3⟩ <;> rcases split t' _ _ ht' hl' with ⟨g1, g2, _⟩ | ⟨g1, g2, g3⟩
      · exact hr.tinj t t' B n n' lim lim' h1 g1 h2 g2
      · have := hr.lt B (hr.tok t B n lim h1 h2).1
        have := hnew B (hr'.tok _ B n' lim' g1 g2).1
        omega
      · have := hr.lt B (hr.tok t' B n' lim' g1 g2).1
        have := hnew B (hr'.tok _ B n lim h1 h2).1
        omega
      · have := hr'.tinj _ _ B n n' lim lim' h1 g1 h2 g2
        omega
    · intro B hB
      rcases hB with hB | hB
      · exact Nat.lt_of_lt_of_le (hr.lt B hB) he.size
      · exact hr'.lt B hB
  have hext : Ext ρ w ρ'' w' := ⟨hle, he.os, he.tape, he.output, he.size, fun k hk _ => hblk k hk, fun k hk ho => ho.elim id fun h => by have := hnew k h; omega, fun B i x hB hx => .inr (hold B i x hB hx)⟩
  have hsh : ∀ id x, ρ'.tok[id]? = some x → ρ''.tok[tk.length + id]? = some x := fun id x h => by
    show (ρ.tok ++ ρ'.tok)[tk.length + id]? = some x
    rw [List.getElem?_append_right (by omega), hlT, Nat.add_sub_cancel_left]; exact h
  have hparts : ∃ v1 v2, v = .tuple #[v1, v2] ∧ VV C.sh ρ' v1 a ∧ VV C.sh ρ' v2 (.lst u L t) := by
    cases hvr with
    | pure h => cases h
    | @tup vs _ hl h =>
      match vs, hl with
      | [v1, v2], _ => exact ⟨v1, v2, rfl, h 0 _ _ rfl rfl, h 1 _ _ rfl rfl⟩
  obtain ⟨v1, v2, rfl, hva, hvl⟩ := hparts
  have hva2 : VV C.sh ρ'' v1 a := .pure (show VP C.sh ρ'.S v1 a from vp_of_vv (ρ := ρ') hva hpa)
  have mk : ∀ t2, VV C.sh ρ'' v2 (.lst u L t2) → VV C.sh ρ'' (.tuple #[v1, v2]) (.tup [a, .lst u L t2]) := fun t2 h2 => by
    refine VV.tup (vs := [v1, v2]) rfl fun i c d hc hd => ?_
    match i, hc, hd with
    | 0, hc, hd => cases hc; cases hd; exact hva2
    | 1, hc, hd => cases hc; cases hd; exact h2
  cases t with
  | no => exact hlv.elim
  | full =>
    refine ⟨_, .tup [a, .lst u L .full], _, ρ'', rfl, hext, hrr, mk _ ?_, a, u, L, .full, h'.toks, rfl, rfl, ⟨trivial, trivial⟩, hR⟩
    cases hvl with
    | pure h => exact .pure h
  | own id =>
    have hlv' : h'.toks[id]? = some true := hlv
    refine ⟨_, .tup [a, .lst u L (.own (tk.length + id))], _, ρ'', rfl, hext, hrr, mk _ ?_, a, u, L, .own (tk.length + id), h'.toks, rfl, rfl, ⟨?_, Nat.le_add_right _ _⟩, hR⟩
    · cases hvl with
      | pure h =>
        cases h with
        | nil ht => exact absurd rfl (ht id)
        | lst _ _ _ _ _ _ _ ht => exact absurd rfl (ht id)
      | ownNil h => exact .ownNil (hsh _ _ h)
      | own h hn hv => exact .own (hsh _ _ h) hn hv
    · show (tk ++ h'.toks)[tk.length + id]? = some true
      rw [List.getElem?_append_right (by omega), Nat.add_sub_cancel_left]; exact hlv'
end
end Go.Ab
