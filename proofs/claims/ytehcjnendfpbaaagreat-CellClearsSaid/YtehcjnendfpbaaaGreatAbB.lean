/- What it means that a world holds data: values, own variables, own slices; and what stays when more is done. Conditions: none. -/
import Derived.Test.YtehcjnendfpbaaaGreatAbA
import Derived.MapKept
namespace Go.Ab

/-- What is known of a world: cells that stay as they are; own variables; own slices; which blocks may change. -/
structure Env where
  S : Nat → Nat → Option Value
  box : List (Nat × Sh)
  tok : List (Option (Nat × Nat × Nat))
  own : Nat → Prop

/-- The cells from an address on, all of which stay. -/
def RowAt (S : Nat → Nat → Option Value) (a : Addr) (cs : List Value) : Prop :=
  ∀ (i : Nat) (c : Value), cs[i]? = some c → a.spot = none ∧ S a.block (a.off + i) = some c

/-- A value that leads to cells that stay alone. -/
inductive VP (T : TypeId → Sh) (S : Nat → Nat → Option Value) : Value → D → Prop where
  | lit (v : Value) : VP T S v (.lit v)
  | agg {cs : List Value} {l : List D} (hl : cs.length = (leavesL l).length)
      (h : ∀ (i : Nat) (c : Value) (d : D), cs[i]? = some c → (leavesL l)[i]? = some d → VP T S c d) : VP T S (.agg cs.toArray) (.agg l)
  | nil {e : TypeId} {t : Tok} (ht : ∀ i, t ≠ .own i) : VP T S (.slice none 0 0) (.lst e [] t)
  | lst {a : Addr} {cap : Nat} {e : TypeId} {l : List D} {t : Tok} (cs : List Value) (hr : RowAt S a cs) (hl : cs.length = (leavesL l).length)
      (h : ∀ (i : Nat) (c : Value) (d : D), cs[i]? = some c → (leavesL l)[i]? = some d → VP T S c d) (hs : ∀ d ∈ l, hasSh (T e) d)
      (hc : l.length ≤ cap) (hm : cap ≤ maxLen) (ht : ∀ i, t ≠ .own i) (hf : t = .full → cap = l.length) : VP T S (.slice (some a) l.length cap) (.lst e l t)
  | ref {a : Addr} {s : Sh} {d : D} (cs : List Value) (hr : RowAt S a cs) (hl : cs.length = (leaves d).length)
      (h : ∀ (i : Nat) (c : Value) (x : D), cs[i]? = some c → (leaves d)[i]? = some x → VP T S c x) (hs : hasSh s d) : VP T S (.pointer (some a)) (.ref s d)
  | ifc {t : TypeId} {v : Value} {d : D} (h : VP T S v d) : VP T S (.iface t v) (.ifc t d)

theorem RowAt.mono {S S' : Nat → Nat → Option Value} {a : Addr} {cs : List Value} (h : RowAt S a cs) (hS : ∀ B i v, S B i = some v → S' B i = some v) : RowAt S' a cs :=
  fun i c hc => ⟨(h i c hc).1, hS _ _ _ (h i c hc).2⟩

theorem VP.mono {T : TypeId → Sh} {S S' : Nat → Nat → Option Value} (hS : ∀ B i v, S B i = some v → S' B i = some v) {v : Value} {d : D} (h : VP T S v d) : VP T S' v d := by
  induction h with
  | lit v => exact .lit v
  | agg hl _ ih => exact .agg hl ih
  | nil ht => exact .nil ht
  | lst cs hr hl _ hs hc hm ht hf ih => exact .lst cs (hr.mono hS) hl ih hs hc hm ht hf
  | ref cs hr hl _ hs ih => exact .ref cs (hr.mono hS) hl ih hs
  | ifc _ ih => exact .ifc ih

/-- A value, read with what is known. -/
inductive VV (T : TypeId → Sh) (ρ : Env) : Value → D → Prop where
  | pure {v : Value} {d : D} (h : VP T ρ.S v d) : VV T ρ v d
  | agg {cs : List Value} {l : List D} (hl : cs.length = (leavesL l).length)
      (h : ∀ (i : Nat) (c : Value) (d : D), cs[i]? = some c → (leavesL l)[i]? = some d → VV T ρ c d) : VV T ρ (.agg cs.toArray) (.agg l)
  | ownNil {e : TypeId} {id : Nat} (h : ρ.tok[id]? = some none) : VV T ρ (.slice none 0 0) (.lst e [] (.own id))
  | own {B o n lim cap : Nat} {e : TypeId} {l : List D} {id : Nat} (h : ρ.tok[id]? = some (some (B, n, lim))) (hn : cap ≠ 0 → n = o + l.length * (T e).size ∧ lim = o + cap * (T e).size)
      (hv : VP T ρ.S (.slice (some ⟨B, o, none⟩) l.length cap) (.lst e l .no)) : VV T ρ (.slice (some ⟨B, o, none⟩) l.length cap) (.lst e l (.own id))
  | ptr {b : Nat} {p : List Nat} {B : Nat} {sh s : Sh} (h : ρ.box[b]? = some (B, sh)) (hp : sh.at p = some s) : VV T ρ (.pointer (some ⟨B, sh.off p, none⟩)) (.ptr b p)
  | fn {f : Fn} {caps : List Value} {l : List D} (hl : caps.length = l.length)
      (h : ∀ (i : Nat) (c : Value) (d : D), caps[i]? = some c → l[i]? = some d → VV T ρ c d) : VV T ρ (.func f #[] caps.toArray) (.fn f l)
  | bnd {g : FuncId} {first : List Value} {l : List D} (hl : first.length = l.length)
      (h : ∀ (i : Nat) (c : Value) (d : D), first[i]? = some c → l[i]? = some d → VV T ρ c d) : VV T ρ (.func (.func g) first.toArray #[]) (.mp [] l g)
  | tup {vs : List Value} {l : List D} (hl : vs.length = l.length)
      (h : ∀ (i : Nat) (c : Value) (d : D), vs[i]? = some c → l[i]? = some d → VV T ρ c d) : VV T ρ (.tuple vs.toArray) (.tup l)
  | mref {b B : Nat} (h : ρ.box[b]? = some (B, .obj 1)) : VV T ρ (.map (some B)) (.mref b)
  | sl {e : TypeId} {b lo n c B N o : Nat} (h : ρ.box[b]? = some (B, .arr N (T e))) (hc : lo + c ≤ N) (hn : n ≤ c) (hm : N ≤ maxLen) (ho : c ≠ 0 → o = lo * (T e).size) : VV T ρ (.slice (some ⟨B, o, none⟩) n c) (.sl e b lo n c)

theorem VV.lit {T : TypeId → Sh} {ρ : Env} (v : Value) : VV T ρ v (.lit v) := .pure (.lit v)

structure Env.le (ρ ρ' : Env) : Prop where
  S : ∀ B i v, ρ.S B i = some v → ρ'.S B i = some v
  box : ∀ (b : Nat) x, ρ.box[b]? = some x → ρ'.box[b]? = some x
  tok : ∀ (t : Nat) x, ρ.tok[t]? = some x → ρ'.tok[t]? = some x

theorem Env.le.refl (ρ : Env) : ρ.le ρ := ⟨fun _ _ _ h => h, fun _ _ h => h, fun _ _ h => h⟩
theorem Env.le.trans {a b c : Env} (h : a.le b) (k : b.le c) : a.le c :=
  ⟨fun B i v x => k.S B i v (h.S B i v x), fun b x y => k.box b x (h.box b x y), fun t x y => k.tok t x (h.tok t x y)⟩

theorem VV.mono {T : TypeId → Sh} {ρ ρ' : Env} (hle : ρ.le ρ') {v : Value} {d : D} (h : VV T ρ v d) : VV T ρ' v d := by
  induction h with
  | pure h => exact .pure (h.mono hle.S)
  | agg hl _ ih => exact .agg hl ih
  | ownNil h => exact .ownNil (hle.tok _ _ h)
  | own h hn hv => exact .own (hle.tok _ _ h) hn (hv.mono hle.S)
  | ptr h hp => exact .ptr (hle.box _ _ h) hp
  | fn hl _ ih => exact .fn hl ih
  | bnd hl _ ih => exact .bnd hl ih
  | tup hl _ ih => exact .tup hl ih
  | mref h => exact .mref (hle.box _ _ h)
  | sl h hc hn hm ho => exact .sl (hle.box _ _ h) hc hn hm ho

theorem vv_flat {T : TypeId → Sh} {ρ : Env} {d : D} (h : flatD d) : VV T ρ (valOf d) d := by
  cases d with
  | lit v => exact .pure (.lit v)
  | agg l =>
    refine .agg (cs := (leavesL l).map litOf) (by simp) fun i c d hc hd => ?_
    obtain ⟨v, rfl⟩ := h d (by simp only [leaves]; exact List.mem_of_getElem? hd)
    rw [List.getElem?_map, hd] at hc
    cases hc
    exact .pure (.lit v)
  | _ => simp [flatD, leaves] at h
theorem flat_val {T : TypeId → Sh} {ρ : Env} {v : Value} {d : D} (hv : VV T ρ v d) (h : flatD d) : v = valOf d := by
  have key : ∀ {v : Value} {x : Value}, VV T ρ v (.lit x) → v = x := by
    intro v x hv
    cases hv with
    | pure h => cases h; rfl
  cases d with
  | lit x => exact key hv
  | agg l =>
    have ex : ∃ cs : List Value, v = .agg cs.toArray ∧ cs.length = (leavesL l).length ∧ ∀ (i : Nat) (c : Value) (d : D), cs[i]? = some c → (leavesL l)[i]? = some d → VV T ρ c d := by
      cases hv with
      | pure h => cases h with | agg hl h => exact ⟨_, rfl, hl, fun i c d hc hd => .pure (h i c d hc hd)⟩
      | agg hl h => exact ⟨_, rfl, hl, h⟩
    obtain ⟨cs, rfl, hl, hc⟩ := ex
    have : cs = (leavesL l).map litOf := by
      refine List.ext_getElem (by simpa using hl) fun i h1 h2 => ?_
      have h3 : i < (leavesL l).length := by omega
      obtain ⟨x, hx⟩ := h (leavesL l)[i] (by simp only [leaves]; exact List.getElem_mem h3)
      have h4 := hc i _ _ (List.getElem?_eq_getElem h1) (List.getElem?_eq_getElem h3)
      rw [hx] at h4
      rw [key h4, List.getElem_map, hx]; rfl
    rw [this]; rfl
  | _ => simp [flatD, leaves] at h

/-- Own variables and own slices, as data: a variable's shape and what it holds; whether a slice's token still serves. -/
structure Heap where
  boxes : List (Sh × D)
  toks : List Bool

/-- Entries, and how many there have ever been: while none has gone, each is stamped by its place. -/
def Count (es : Array MapEntry) (clock g : Nat) : Prop := clock = g ∧ es.size ≤ g ∧ (es.size = g → ∀ (i : Nat) (x : MapEntry), es[i]? = some x → x.born = i)
/-- A map's block. -/
def MapAt (T : TypeId → Sh) (ρ : Env) (w : World) (B : Nat) (d : D) : Prop :=
  ∃ ks vs g es clock, d = .mp ks vs g ∧ w.heap[B]? = some (.map es clock) ∧ (MapKept.Stamped es clock ∧ Count es clock g) ∧ es.toList.map (·.key) = ks.map valOf ∧ (∀ k ∈ ks, flatD k) ∧ All2 (VV T ρ) (es.toList.map (·.val)) vs

/-- A block of an iterator over a map: which keys it has handed out, if nothing came to the map since. -/
def IterAt (ρ : Env) (h : Heap) (w : World) (B : Nat) (d : D) : Prop :=
  ∃ m g seen Bm since sn c0, d = .it m g seen ∧ w.heap[B]? = some (.mapIter (some Bm) since sn c0) ∧ ρ.box[m]? = some (Bm, .obj 1) ∧ (∀ ks vs g', h.boxes[m]? = some (.obj 1, .mp ks vs g') → g ≤ g') ∧
    ∀ ks vs es clock, h.boxes[m]? = some (.obj 1, .mp ks vs g) → w.heap[Bm]? = some (.map es clock) →
      since = clock ∧ c0 = clock ∧ (∀ s ∈ seen, ∀ k ∈ ks, valOf s = valOf k → s = k) ∧ ∀ x ∈ es.toList, (x.born ∈ sn.toList ↔ x.key ∈ seen.map valOf) ∧ (sn.back? = some x.born ↔ (seen.map valOf).getLast? = some x.key)

/-- What an own variable's block holds. -/
def BoxAt (T : TypeId → Sh) (ρ : Env) (h : Heap) (w : World) (B : Nat) : Sh → D → Prop
  | .obj 1, d => MapAt T ρ w B d
  | .obj 2, d => IterAt ρ h w B d
  | _, d => ∃ c e, w.heap[B]? = some (.cells c e (0, 0)) ∧ All2 (VV T ρ) c.toList (leaves d)

theorem BoxAt.keep {T : TypeId → Sh} {ρ ρ' : Env} {h h' : Heap} {w w' : World} {B : Nat} {sh : Sh} {d : D} (hb : BoxAt T ρ h w B sh d) (hle : ρ.le ρ') (hB : ∀ x, w.heap[B]? = some x → w'.heap[B]? = some x)
    (hM : ∀ (m Bm : Nat), ρ.box[m]? = some (Bm, Sh.obj 1) → (∀ x, w'.heap[Bm]? = some x → w.heap[Bm]? = some x) ∧ ∀ x, h'.boxes[m]? = some x → h.boxes[m]? = some x) : BoxAt T ρ' h' w' B sh d := by
  unfold BoxAt at hb ⊢
  split at hb
  · obtain ⟨ks, vs, g, es, clock, h1, h2, h3, h4, h6, h5⟩ := hb
    exact ⟨ks, vs, g, es, clock, h1, hB _ h2, h3, h4, h6, h5.mono fun _ _ => VV.mono hle⟩
  · obtain ⟨m, g, seen, Bm, since, sn, c0, h1, h2, h3, h5, h4⟩ := hb
    refine ⟨m, g, seen, Bm, since, sn, c0, h1, hB _ h2, hle.box _ _ h3, fun ks vs g' k1 => h5 ks vs g' ((hM m Bm h3).2 _ k1), fun ks vs es clock k1 k2 => ?_⟩
    obtain ⟨q1, q2⟩ := hM m Bm h3
    exact h4 ks vs es clock (q2 _ k1) (q1 _ k2)
  · obtain ⟨c, e, h1, h2⟩ := hb
    exact ⟨c, e, hB _ h1, h2.mono fun _ _ => VV.mono hle⟩

structure Real (T : TypeId → Sh) (ρ : Env) (h : Heap) (w : World) : Prop where
  st : ∀ (B i : Nat) (v : Value), ρ.S B i = some v → ∃ c e fr, w.heap[B]? = some (.cells c e fr) ∧ c[i]? = some v
  lenB : h.boxes.length = ρ.box.length
  lenT : h.toks.length = ρ.tok.length
  bown : ∀ (b B : Nat) (sh : Sh), ρ.box[b]? = some (B, sh) → ρ.own B
  box : ∀ (b B : Nat) (sh sh' : Sh) (d : D), ρ.box[b]? = some (B, sh) → h.boxes[b]? = some (sh', d) → sh' ≠ .obj 0 →
    sh' = sh ∧ hasSh sh d ∧ (∀ j, ρ.S B j = none) ∧ BoxAt T ρ h w B sh d
  inj : ∀ (b b' B : Nat) (sh sh' : Sh), ρ.box[b]? = some (B, sh) → ρ.box[b']? = some (B, sh') → b = b'
  tok : ∀ (t B n lim : Nat), ρ.tok[t]? = some (some (B, n, lim)) → h.toks[t]? = some true →
    ρ.own B ∧ (∀ j, n ≤ j → ρ.S B j = none) ∧ (∃ c e, w.heap[B]? = some (.cells c e (0, 0)) ∧ c.size = lim) ∧ ∀ (b : Nat) (sh : Sh), ρ.box[b]? ≠ some (B, sh)
  tinj : ∀ (t t' B n n' lim lim' : Nat), ρ.tok[t]? = some (some (B, n, lim)) → ρ.tok[t']? = some (some (B, n', lim')) → h.toks[t]? = some true → h.toks[t']? = some true → t = t'
  lt : ∀ B, ρ.own B → B < w.heap.size

/-- What is known grows; what is not ours stays. -/
structure Ext (ρ : Env) (w : World) (ρ' : Env) (w' : World) : Prop where
  le : ρ.le ρ'
  os : w'.os = w.os
  tape : w'.tape = w.tape
  output : w'.output = w.output
  size : w.heap.size ≤ w'.heap.size
  blk : ∀ k, k < w.heap.size → ¬ ρ.own k → w'.heap[k]? = w.heap[k]?
  own : ∀ k, k < w.heap.size → ρ'.own k → ρ.own k
  old : ∀ (B i : Nat) (v : Value), B < w.heap.size → ρ'.S B i = some v → ρ.own B ∨ ρ.S B i = some v
  dr : w.drawn ≤ w'.drawn := by first | exact Nat.le_refl _ | exact Nat.le_succ _ | (simp; done) | omega

theorem Ext.refl (ρ : Env) (w : World) : Ext ρ w ρ w := ⟨.refl ρ, rfl, rfl, rfl, Nat.le_refl _, fun _ _ _ => rfl, fun _ _ h => h, fun _ _ _ _ h => .inr h, Nat.le_refl _⟩

theorem Ext.trans {ρ ρ₁ ρ₂ : Env} {w w₁ w₂ : World} (h : Ext ρ w ρ₁ w₁) (k : Ext ρ₁ w₁ ρ₂ w₂) : Ext ρ w ρ₂ w₂ :=
  ⟨h.le.trans k.le, k.os.trans h.os, k.tape.trans h.tape, k.output.trans h.output, Nat.le_trans h.size k.size,
   fun i hi ho => (k.blk i (Nat.lt_of_lt_of_le hi h.size) (fun x => ho (h.own i hi x))).trans (h.blk i hi ho),
   fun i hi ho => h.own i hi (k.own i (Nat.lt_of_lt_of_le hi h.size) ho),
   fun B i v hB hv => (k.old B i v (Nat.lt_of_lt_of_le hB h.size) hv).elim (fun x => .inl (h.own B hB x)) (fun x => h.old B i v hB x), Nat.le_trans h.dr k.dr⟩

/-- A draw changes nothing that is known. -/
theorem Ext.drew (ρ : Env) (w : World) : Ext ρ w ρ w.drew := ⟨.refl ρ, rfl, rfl, rfl, Nat.le_refl _, fun _ _ _ => rfl, fun _ _ h => h, fun _ _ _ _ h => .inr h, Nat.le_succ _⟩

theorem Real.drew {T : TypeId → Sh} {ρ : Env} {h : Heap} {w : World} (r : Real T ρ h w) : Real T ρ h w.drew :=
  ⟨r.st, r.lenB, r.lenT, r.bown, fun b B sh sh' d h1 h2 h3 => by
    obtain ⟨k1, k2, k3, k4⟩ := r.box b B sh sh' d h1 h2 h3
    exact ⟨k1, k2, k3, k4.keep (.refl ρ) (fun _ h => h) fun _ _ _ => ⟨fun _ h => h, fun _ h => h⟩⟩, r.inj, r.tok, r.tinj, r.lt⟩

/-- A new block that nobody asks of (garbage). -/
theorem Real.alloc {T : TypeId → Sh} {ρ : Env} {h : Heap} {w : World} (r : Real T ρ h w) (o : Obj) : Real T ρ h (w.alloc o) := by
  have key : ∀ (B : Nat) (x : Obj), w.heap[B]? = some x → (w.alloc o).heap[B]? = some x := by
    intro B x hx
    rw [heap_alloc_old w o B (Array.getElem?_eq_some_iff.1 hx).1]; exact hx
  refine ⟨?_, r.lenB, r.lenT, r.bown, ?_, r.inj, ?_, r.tinj, ?_⟩
  · intro B i v hv
    obtain ⟨c, e, fr, hb, hc⟩ := r.st B i v hv
    exact ⟨c, e, fr, key _ _ hb, hc⟩
  · intro b B sh sh' d hb hd hne
    obtain ⟨h1, h2, h4, h5⟩ := r.box b B sh sh' d hb hd hne
    refine ⟨h1, h2, h4, h5.keep (.refl ρ) (key B) fun m Bm hm => ⟨fun x hx => ?_, fun _ h => h⟩⟩
    rw [heap_alloc_old w o Bm (r.lt Bm (r.bown m Bm _ hm))] at hx; exact hx
  · intro t B n lim ht hl
    obtain ⟨h1, h2, ⟨c, e, hc, hs⟩, h4⟩ := r.tok t B n lim ht hl
    exact ⟨h1, h2, ⟨c, e, key _ _ hc, hs⟩, h4⟩
  · intro B hB
    have := r.lt B hB
    simp; omega

theorem Ext.alloc (ρ : Env) (w : World) (o : Obj) : Ext ρ w ρ (w.alloc o) :=
  ⟨.refl ρ, rfl, rfl, rfl, by simp, fun k hk _ => heap_alloc_old w o k hk, fun _ _ h => h, fun _ _ _ _ h => .inr h, Nat.le_refl _⟩

/-- A new block of cells that stay. -/
def Env.row (ρ : Env) (B : Nat) (cs : List Value) : Env :=
  { ρ with S := fun b i => if b = B then cs[i]? else ρ.S b i }

theorem row_le {T : TypeId → Sh} {ρ : Env} {h : Heap} {w : World} (r : Real T ρ h w) (cs : List Value) : ρ.le (ρ.row w.heap.size cs) := by
  refine ⟨?_, fun _ _ h => h, fun _ _ h => h⟩
  intro B i v hv
  obtain ⟨c, e, fr, hb, _⟩ := r.st B i v hv
  have := (Array.getElem?_eq_some_iff.1 hb).1
  simp only [Env.row]
  rw [if_neg (by omega)]; exact hv

theorem row_real {T : TypeId → Sh} {ρ : Env} {h : Heap} {w : World} (r : Real T ρ h w) (cs : List Value) (e : TypeId) :
    Real T (ρ.row w.heap.size cs) h (w.alloc (.cells cs.toArray e)) := by
  have r' := r.alloc (.cells cs.toArray e)
  have hle := row_le r cs
  refine ⟨?_, r.lenB, r.lenT, r.bown, ?_, r.inj, ?_, r.tinj, r'.lt⟩
  · intro B i v hv
    simp only [Env.row] at hv
    split at hv
    · rename_i hB
      subst hB
      exact ⟨_, e, (0, 0), heap_alloc_new w _, by simpa using hv⟩
    · exact r'.st B i v hv
  · intro b B sh sh' d hb hd hne
    obtain ⟨h1, h2, h4, h5⟩ := r'.box b B sh sh' d hb hd hne
    refine ⟨h1, h2, ?_, h5.keep hle (fun _ h => h) fun _ _ _ => ⟨fun _ h => h, fun _ h => h⟩⟩
    intro j
    have := r.lt B (r.bown b B sh hb)
    simp only [Env.row]
    rw [if_neg (by omega)]; exact h4 j
  · intro t B n lim ht hl
    obtain ⟨h1, h2, h3, h4⟩ := r'.tok t B n lim ht hl
    refine ⟨h1, ?_, h3, h4⟩
    intro j hj
    have := r.lt B h1
    simp only [Env.row]
    rw [if_neg (by omega)]; exact h2 j hj

theorem row_ext {T : TypeId → Sh} {ρ : Env} {h : Heap} {w : World} (r : Real T ρ h w) (cs : List Value) (e : TypeId) :
    Ext ρ w (ρ.row w.heap.size cs) (w.alloc (.cells cs.toArray e)) :=
  ⟨row_le r cs, rfl, rfl, rfl, by simp, fun k hk _ => heap_alloc_old w _ k hk, fun _ _ h => h, (fun B i v hB hv => by
    simp only [Env.row] at hv
    rw [if_neg (by omega)] at hv; exact .inr hv), Nat.le_refl _⟩

theorem row_at (ρ : Env) (B : Nat) (cs : List Value) : RowAt (ρ.row B cs).S ⟨B, 0, none⟩ cs := by
  intro i c hc
  refine ⟨rfl, ?_⟩
  simp [Env.row, hc]

/-- A new own variable. -/
def Env.var (ρ : Env) (B : Nat) (sh : Sh) : Env :=
  { ρ with box := ρ.box ++ [(B, sh)], own := fun b => ρ.own b ∨ b = B }

def Heap.var (h : Heap) (sh : Sh) (d : D) : Heap := { h with boxes := h.boxes ++ [(sh, d)] }

theorem var_le (ρ : Env) (B : Nat) (sh : Sh) : ρ.le (ρ.var B sh) := by
  refine ⟨fun _ _ _ h => h, ?_, fun _ _ h => h⟩
  intro b x hb
  simp only [Env.var]
  rw [List.getElem?_append_left (List.getElem?_eq_some_iff.1 hb).1]; exact hb

/-- A new block, its own variable. -/
theorem new_real {T : TypeId → Sh} {ρ : Env} {h : Heap} {w : World} (r : Real T ρ h w) {sh : Sh} {d : D} (o : Obj)
    (hs : hasSh sh d) (ha : BoxAt T (ρ.var w.heap.size sh) (h.var sh d) (w.alloc o) w.heap.size sh d) :
    Real T (ρ.var w.heap.size sh) (h.var sh d) (w.alloc o) := by
  have r' := r.alloc o
  have hle := var_le ρ w.heap.size sh
  have old : ∀ (b B : Nat) (s : Sh), ρ.box[b]? = some (B, s) → B < w.heap.size := fun b B s hb => r.lt B (r.bown b B s hb)
  have part : ∀ (b B : Nat) (s : Sh), (ρ.var w.heap.size sh).box[b]? = some (B, s) → (ρ.box[b]? = some (B, s) ∧ b < ρ.box.length) ∨ (b = ρ.box.length ∧ B = w.heap.size ∧ s = sh) := by
    intro b B s hb
    simp only [Env.var] at hb
    rcases Nat.lt_or_ge b ρ.box.length with hlt | hge
    · rw [List.getElem?_append_left hlt] at hb
      exact .inl ⟨hb, hlt⟩
    · rw [List.getElem?_append_right hge] at hb
      rcases Nat.eq_or_lt_of_le hge with he | hgt
      · subst he
        simp at hb
        exact .inr ⟨rfl, hb.1.symm, hb.2.symm⟩
      · rw [List.getElem?_eq_none (by simp; omega)] at hb; cases hb
  refine ⟨r'.st, by simp [Heap.var, Env.var, r.lenB], r.lenT, ?_, ?_, ?_, ?_, r.tinj, ?_⟩
  · intro b B s hb
    rcases part b B s hb with ⟨h1, _⟩ | ⟨_, h2, _⟩
    · exact .inl (r.bown b B s h1)
    · exact .inr h2
  · intro b B s s' d' hb hd hne
    rcases part b B s hb with ⟨h1, h2⟩ | ⟨h1, h2, h3⟩
    · simp only [Heap.var] at hd
      rw [List.getElem?_append_left (by rw [r.lenB]; exact h2)] at hd
      obtain ⟨k1, k2, k4, k5⟩ := r'.box b B s s' d' h1 hd hne
      refine ⟨k1, k2, k4, k5.keep hle (fun _ h => h) fun m Bm hm => ⟨fun _ h => h, fun x hx => ?_⟩⟩
      simp only [Heap.var] at hx
      rw [List.getElem?_append_left (by rw [r.lenB]; exact (List.getElem?_eq_some_iff.1 hm).1)] at hx
      exact hx
    · subst h1; subst h2; subst h3
      simp only [Heap.var] at hd
      rw [List.getElem?_append_right (by rw [r.lenB]; exact Nat.le_refl _), r.lenB, Nat.sub_self] at hd
      simp at hd
      obtain ⟨rfl, rfl⟩ := hd
      refine ⟨rfl, hs, ?_, ha⟩
      intro j
      cases hS : ρ.S w.heap.size j with
      | none => exact hS
      | some v =>
        obtain ⟨c', e', fr, hb', _⟩ := r.st _ _ _ hS
        have := (Array.getElem?_eq_some_iff.1 hb').1
        omega
  · intro b b' B s s' hb hb'
    rcases part b B s hb with ⟨h1, h2⟩ | ⟨h1, h2, h3⟩ <;> rcases part b' B s' hb' with ⟨k1, k2⟩ | ⟨k1, k2, k3⟩
    · exact r.inj b b' B s s' h1 k1
    · have := old b B s h1; omega
    · have := old b' B s' k1; omega
    · omega
  · intro t B n lim ht hl
    obtain ⟨h1, h2, h3, h4⟩ := r'.tok t B n lim ht hl
    refine ⟨.inl h1, h2, h3, ?_⟩
    intro b s hb
    rcases part b B s hb with ⟨k1, k2⟩ | ⟨k1, k2, k3⟩
    · exact h4 b s k1
    · have := r.lt B h1; omega
  · intro B hB
    rcases hB with hB | hB
    · exact r'.lt B hB
    · subst hB; simp

/-- A shape of cells. -/
def Sh.cellular : Sh → Bool
  | .obj _ => false
  | _ => true
theorem boxAt_cells {T : TypeId → Sh} {ρ : Env} {h : Heap} {w : World} {B : Nat} {sh : Sh} {d : D} (hc : sh.cellular = true) : BoxAt T ρ h w B sh d ↔ ∃ c e, w.heap[B]? = some (.cells c e (0, 0)) ∧ All2 (VV T ρ) c.toList (leaves d) := by
  cases sh <;> first | (simp [Sh.cellular] at hc; done) | exact Iff.rfl

theorem var_real {T : TypeId → Sh} {ρ : Env} {h : Heap} {w : World} (r : Real T ρ h w) {sh : Sh} {d : D} {c : Array Value} (e : TypeId) (hcl : sh.cellular = true)
    (hs : hasSh sh d) (ha : All2 (VV T ρ) c.toList (leaves d)) :
    Real T (ρ.var w.heap.size sh) (h.var sh d) (w.alloc (.cells c e)) :=
  new_real r _ hs ((boxAt_cells hcl).2 ⟨c, e, heap_alloc_new w _, ha.mono fun _ _ => VV.mono (var_le ρ w.heap.size sh)⟩)

theorem var_ext (ρ : Env) (w : World) (sh : Sh) (o : Obj) : Ext ρ w (ρ.var w.heap.size sh) (w.alloc o) :=
  ⟨var_le _ _ _, rfl, rfl, rfl, by simp, fun k hk _ => heap_alloc_old w _ k hk, fun k hk h => h.elim id (fun h => by omega), fun _ _ _ _ h => .inr h, Nat.le_refl _⟩

/-- What an own variable's block becomes. -/
theorem block_set {T : TypeId → Sh} {ρ : Env} {h : Heap} {w : World} (r : Real T ρ h w) {b B : Nat} {sh sh' : Sh} {d d' : D} (hb : ρ.box[b]? = some (B, sh)) (hd : h.boxes[b]? = some (sh, d)) (hne : sh ≠ .obj 0)
    (hs : sh' ≠ .obj 0 → sh' = sh ∧ hasSh sh d' ) (w' : World)
    (ha : sh' ≠ .obj 0 → BoxAt T ρ { h with boxes := h.boxes.set b (sh', d') } w' B sh d')
    (hit : sh = .obj 1 → ∀ (b' B' : Nat) (x : D), ρ.box[b']? = some (B', Sh.obj 2) → h.boxes[b']? = some (Sh.obj 2, x) → IterAt ρ h w B' x → IterAt ρ { h with boxes := h.boxes.set b (sh', d') } w' B' x)
    (hsz : w'.heap.size = w.heap.size) (hk : ∀ k, k ≠ B → w'.heap[k]? = w.heap[k]?) :
    Real T ρ { h with boxes := h.boxes.set b (sh', d') } w' := by
  have hown := r.bown b B sh hb
  obtain ⟨_, _, hS, _⟩ := r.box b B sh sh d hb hd hne
  refine ⟨?_, by simp [r.lenB], r.lenT, r.bown, ?_, r.inj, ?_, r.tinj, ?_⟩
  · intro B' i v hv
    have hne : B' ≠ B := by intro e'; subst e'; rw [hS i] at hv; cases hv
    rw [hk B' hne]; exact r.st B' i v hv
  · intro b' B' s s' x hb' hx hne'
    simp only at hx
    rw [List.getElem?_set] at hx
    by_cases hbb : b = b'
    · subst hbb
      rw [if_pos rfl] at hx
      split at hx
      case isFalse => cases hx
      cases hx
      rw [hb] at hb'; cases hb'
      obtain ⟨rfl, h2⟩ := hs hne'
      exact ⟨rfl, h2, hS, ha hne'⟩
    · rw [if_neg hbb] at hx
      obtain ⟨k1, k2, k4, k5⟩ := r.box b' B' s s' x hb' hx hne'
      have hBB : B' ≠ B := fun e' => hbb (r.inj b b' B sh s hb (e' ▸ hb'))
      refine ⟨k1, k2, k4, ?_⟩
      by_cases h2 : s = .obj 2 ∧ sh = .obj 1
      · obtain ⟨rfl, h3⟩ := h2
        subst k1
        exact hit h3 b' B' x hb' hx k5
      · by_cases h3 : s = .obj 2
        · subst h3
          refine k5.keep (.refl ρ) (fun y hy => by rw [hk B' hBB]; exact hy) fun m Bm hm => ?_
          have hmb : b ≠ m := by
            rintro rfl
            rw [hb] at hm; cases hm
            exact h2 ⟨rfl, rfl⟩
          have hmB : Bm ≠ B := fun e' => hmb (r.inj b m B sh _ hb (e' ▸ hm))
          refine ⟨fun y hy => by rw [hk Bm hmB] at hy; exact hy, fun y hy => ?_⟩
          simp only at hy
          rw [List.getElem?_set, if_neg hmb] at hy; exact hy
        · cases s with
          | obj k =>
            by_cases hk1 : k = 1
            · subst hk1
              obtain ⟨ks, vs, g, es, clock, h1, h2, h3⟩ := k5
              exact ⟨ks, vs, g, es, clock, h1, by rw [hk B' hBB]; exact h2, h3⟩
            · have hk2 : k ≠ 2 := fun e => h3 (by rw [e])
              unfold BoxAt at k5 ⊢
              split at k5
              · rename_i heq; simp at heq; omega
              · rename_i heq; simp at heq; omega
              · obtain ⟨c, e, h1, h2⟩ := k5
                exact ⟨c, e, by rw [hk B' hBB]; exact h1, h2⟩
          | _ =>
            obtain ⟨c, e, h1, h2⟩ := k5
            exact ⟨c, e, by rw [hk B' hBB]; exact h1, h2⟩
  · intro t B' n lim ht hl
    obtain ⟨h1, h2, ⟨c, e', hc, hs'⟩, h4⟩ := r.tok t B' n lim ht hl
    refine ⟨h1, h2, ⟨c, e', ?_, hs'⟩, h4⟩
    rw [hk B' (fun e' => h4 b sh (e' ▸ hb))]; exact hc
  · intro B' hB'; rw [hsz]; exact r.lt B' hB'

/-- What an own variable's cells become by a store. -/
theorem box_set {T : TypeId → Sh} {ρ : Env} {h : Heap} {w : World} (r : Real T ρ h w) {b B : Nat} {sh : Sh} {d d' : D} (hb : ρ.box[b]? = some (B, sh)) (hd : h.boxes[b]? = some (sh, d)) (hcl : sh.cellular = true)
    (hs : hasSh sh d') (cs : Array Value) (ha : All2 (VV T ρ) cs.toList (leaves d')) (w' : World) (e : TypeId)
    (hw : w'.heap[B]? = some (.cells cs e (0, 0))) (hsz : w'.heap.size = w.heap.size) (hk : ∀ k, k ≠ B → w'.heap[k]? = w.heap[k]?) :
    Real T ρ { h with boxes := h.boxes.set b (sh, d') } w' :=
  block_set r hb hd (by rintro rfl; cases hcl) (fun _ => ⟨rfl, hs⟩) w' (fun _ => (boxAt_cells hcl).2 ⟨cs, e, hw, ha⟩) (by rintro rfl; cases hcl) hsz hk

theorem box_ext {T : TypeId → Sh} {ρ : Env} {h : Heap} {w w' : World} (r : Real T ρ h w) {b B : Nat} {sh : Sh} (hb : ρ.box[b]? = some (B, sh))
    (h1 : w'.os = w.os) (h2 : w'.tape = w.tape) (h3 : w'.output = w.output) (hsz : w'.heap.size = w.heap.size) (hk : ∀ k, k ≠ B → w'.heap[k]? = w.heap[k]?) (hdr : w.drawn ≤ w'.drawn := by first | exact Nat.le_refl _ | exact Nat.le_succ _ | (simp; done) | omega) : Ext ρ w ρ w' := by
  have hown := r.bown b B sh hb
  exact ⟨.refl ρ, h1, h2, h3, by omega, fun k _ hko => hk k (fun e => hko (e ▸ hown)), fun _ _ h => h, fun _ _ _ _ h => .inr h, hdr⟩

end Go.Ab
