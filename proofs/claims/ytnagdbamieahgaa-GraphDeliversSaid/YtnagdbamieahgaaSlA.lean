/- Slices of the call's own: what the library's functions of slices do to them; what is the same for each kind of element. Conditions: none. -/
import Derived.Test.YtnagdbamieahgaaAbPg
import Derived.Laws.Externs
set_option linter.unusedSimpArgs false
namespace Go.Ab
open Go.Proofs

theorem get_enc {α : Type} [Inhabited α] (enc : α → D) (l : List α) (k : Nat) (h : (k < l.length) = True) : (l.map enc)[k]? = some (enc (l.getD k default)) := by
  have h := of_eq_true h
  simp [h]
theorem pureL_app {a b : List D} (h1 : pureL a) (h2 : pureL b) : pureL (a ++ b) := by
  induction a with
  | nil => exact h2
  | cons x r ih => exact ⟨h1.1, ih h1.2⟩
theorem pure_rep (n : Nat) (d : D) (h : pureD d) : pureL (List.replicate n d) := by
  induction n with
  | zero => trivial
  | succ n ih => exact ⟨h, ih⟩
/-- A slice of the call's own, and what its cells hold. -/
def OutL (e : TypeId) (k : Nat) (d : D) (ex : List (Sh × D)) (l : List D) : Prop :=
  (d = .lst e [] .full ∧ l = [] ∧ ex = []) ∨ ∃ j N L, d = .sl e (k + j) 0 l.length N ∧ ex[j]? = some (.arr N (CT.sh e), .agg L) ∧ L.length = N ∧ l.length ≤ N ∧ N ≤ maxLen ∧ L.take l.length = l ∧ ∀ N s L, (Sh.arr N s, D.agg L) ∈ ex → pureL L
/-- What a function of an element answers, whatever else is in memory. -/
def PredF {α : Type} (f : FuncId) (caps : List D) (enc : α → D) (p : α → Bool) (bs : List (Sh × D)) : Prop :=
  ∀ (x : α) (bs' : List (Sh × D)), (∀ i, i < bs.length → bs'[i]? = bs[i]?) → HSpec Try.prog CT f (enc x :: caps) bs' fun r b' => r = .bool (p x) ∧ b' = bs'
def idxF {α : Type} (p : α → Bool) (l : List α) : Int := if l.any p then (l.findIdx p : Int) else -1
theorem idxF_at {α : Type} [Inhabited α] {p : α → Bool} {l : List α} {k : Nat} (hk : k < l.length) (h0 : ∀ q, q < k → p (l.getD q default) = false) (h : p (l.getD k default) = true) : idxF p l = k := by
  have hk2 : p l[k] = true := by rwa [List.getD_eq_getElem?_getD, List.getElem?_eq_getElem hk] at h
  have hany : l.any p = true := List.any_eq_true.2 ⟨_, List.getElem_mem hk, hk2⟩
  have : l.findIdx p = k := by
    rw [List.findIdx_eq hk]
    refine ⟨hk2, fun j hj => ?_⟩
    have := h0 j hj
    rw [List.getD_eq_getElem?_getD, List.getElem?_eq_getElem (by omega)] at this
    simpa using this
  simp [idxF, hany, this]
theorem idxF_none {α : Type} [Inhabited α] {p : α → Bool} {l : List α} (h0 : ∀ q, q < l.length → p (l.getD q default) = false) : idxF p l = -1 := by
  have : l.any p = false := by
    rw [List.any_eq_false]
    intro x hx
    obtain ⟨i, hi, rfl⟩ := List.getElem_of_mem hx
    have := h0 i hi
    rw [List.getD_eq_getElem?_getD, List.getElem?_eq_getElem hi] at this
    simpa using this
  simp [idxF, this]
theorem idxF_lt {α : Type} (p : α → Bool) (l : List α) : idxF p l < l.length := by
  unfold idxF
  split
  · rename_i h
    have := List.findIdx_lt_length_of_exists (List.any_eq_true.1 h)
    omega
  · omega
theorem idxF_ge {α : Type} (p : α → Bool) (l : List α) : decide (0 ≤ idxF p l) = l.any p := by
  unfold idxF
  cases l.any p <;> simp <;> omega
theorem slice_sl_lo_t (C : Tab) (t e : TypeId) (b lo n c : Nat) (k : IntKind) (i : Int) (ht : (C.ty t = .slice e) = True) (h0 : (0 ≤ i) = True) (h1 : (i.toNat ≤ n) = True) (h2 : (n ≤ c) = True) : sliceD C t (.sl e b lo n c) (some (.lit (.int k i))) none none = some (.sl e b (lo + i.toNat) (n - i.toNat) (c - i.toNat)) := by
  have ht := of_eq_true ht
  have h0 := of_eq_true h0
  have h1 := of_eq_true h1
  have h2 := of_eq_true h2
  have h3 : max i 0 = i := by omega
  have h4 : i ≤ (n : Int) := by omega
  simp [sliceD, ht, boundD, natOf, h0, h1, h2, h3, h4]
def keptL {α : Type} (p : α → Bool) (l : List α) : List α := l.filter fun x => !p x
theorem kept_start {α : Type} {p : α → Bool} : ∀ {l : List α}, l.any p = true → keptL p (l.take (l.findIdx p + 1)) = l.take (l.findIdx p) ∧ l.findIdx p < l.length
  | [], h => by simp at h
  | x :: r, h => by
    cases hx : p x with
    | true => simp [List.findIdx_cons, hx, keptL]
    | false =>
      have hr : r.any p = true := by simpa [hx] using h
      obtain ⟨h1, h2⟩ := kept_start hr
      simp only [keptL] at h1 ⊢
      simp only [List.findIdx_cons, hx, cond_false, List.take_succ_cons, List.filter_cons, Bool.not_false, if_true, List.length_cons]
      exact ⟨by rw [h1], by omega⟩
theorem kept_none {α : Type} {p : α → Bool} {l : List α} (h : l.any p = false) : keptL p l = l := by
  rw [keptL, List.filter_eq_self]
  intro x hx
  have := List.any_eq_false.1 h x hx
  simpa using this
theorem kept_snoc {α : Type} [Inhabited α] {p : α → Bool} {l : List α} {j : Nat} (hj : j < l.length) : keptL p (l.take (j + 1)) = keptL p (l.take j) ++ (if p (l.getD j default) then [] else [l.getD j default]) := by
  have e : l.take (j + 1) = l.take j ++ [l.getD j default] := by rw [List.take_add_one, List.getElem?_eq_getElem hj, List.getD_eq_getElem?_getD, List.getElem?_eq_getElem hj]; rfl
  rw [e, keptL, List.filter_append, ← keptL]
  cases h : p (l.getD j default) <;> simp [List.filter_cons]
  · have := h; simp only [List.getD_eq_getElem?_getD] at this; simp [this]
  · have := h; simp only [List.getD_eq_getElem?_getD] at this; simp [this]
theorem kept_len {α : Type} (p : α → Bool) (l : List α) : (keptL p l).length ≤ l.length := List.length_filter_le _ _
theorem pureL_set {L : List D} {k : Nat} {d : D} (h : pureL L) (hd : pureD d) : pureL (L.set k d) := by
  induction L generalizing k with
  | nil => simpa using h
  | cons x r ih => cases k with
    | zero => exact ⟨hd, h.2⟩
    | succ k => exact ⟨h.1, ih h.2⟩
theorem pureL_take {a : List D} (n : Nat) (h : pureL a) : pureL (a.take n) := by
  induction a generalizing n with
  | nil => simpa using h
  | cons x r ih => cases n with
    | zero => trivial
    | succ n => exact ⟨h.1, ih n h.2⟩
theorem pureL_drop {a : List D} (n : Nat) (h : pureL a) : pureL (a.drop n) := by
  induction a generalizing n with
  | nil => simpa using h
  | cons x r ih => cases n with
    | zero => exact h
    | succ n => exact ih n h.2
theorem pureL_over {L m : List D} {o : Nat} (h : pureL L) (hm : pureL m) : pureL (overL L o m) := pureL_app (pureL_app (pureL_take _ h) hm) (pureL_drop _ h)
mutual
theorem low_of_pure {k n : Nat} : ∀ d : D, pureD d → lowD k n d
  | .lit _, _ => trivial
  | .agg l, h => lowL_of_pure l h
  | .lst _ _ t, h => by cases t <;> first | trivial | exact h.elim
  | .ref _ _, _ => trivial
  | .ptr _ _, h => h.elim
  | .fn _ _, h => h.elim
  | .tup _, h => h.elim
  | .ifc _ _, _ => trivial
  | .mref _, h => h.elim
  | .mp _ _ _, h => h.elim
  | .it _ _ _, h => h.elim
  | .sl _ _ _ _ _, h => h.elim
theorem lowL_of_pure {k n : Nat} : ∀ l : List D, pureL l → lowL k n l
  | [], _ => trivial
  | d :: r, h => ⟨low_of_pure d h.1, lowL_of_pure r h.2⟩
end
theorem take_set_snoc {L : List D} {l : List D} {d : D} (h : L.take l.length = l) (hl : l.length < L.length) : (L.set l.length d).take (l.length + 1) = l ++ [d] := by
  rw [List.take_add_one, List.getElem?_set_self hl, List.take_set_of_le (Nat.le_refl _), h]; rfl
/-- The same, where nothing is to be put behind it. -/
def OutM (e : TypeId) (k : Nat) (d : D) (ex : List (Sh × D)) (l : List D) : Prop :=
  (d = .lst e [] .no ∧ l = [] ∧ ex = []) ∨ ∃ j N L, d = .sl e (k + j) 0 l.length N ∧ ex[j]? = some (.arr N (CT.sh e), .agg L) ∧ L.length = N ∧ l.length ≤ N ∧ N ≤ maxLen ∧ L.take l.length = l ∧ ∀ N s L, (Sh.arr N s, D.agg L) ∈ ex → pureL L
theorem run_overlaps_own {P : Program} (w : World) (tS tR e : TypeId) (ht : P.underlying tS = some (.slice e)) (size : Nat) (hz : ∀ w, (Go.sizeOf e).run P w = .ok size w)
    (a b : Addr) (la ca lb cb : Nat) (hne : a.block ≠ b.block) {cA cB : Array Value} {eA eB : TypeId} {frA : Nat × Nat} (hA : w.heap[a.block]? = some (.cells cA eA frA)) (hB : w.heap[b.block]? = some (.cells cB eB (0, 0))) (hkA : cA.size ≠ 0) :
    (Extern.SlicesOverlaps.overlaps #[tS, tS] #[tR] #[.slice (some a) la ca, .slice (some b) lb cb]).run P w = .ok (.bool false) w := by
  have hnb : (a.block != b.block) = true := by simpa using hne
  have hnb' : (a.block == b.block) = false := by simpa using hne
  have hsa : w.shape? a.block = some (eA, cA.size) := by simp [World.shape?, hA]
  have hsb : w.shape? b.block = some (eB, cB.size) := by simp [World.shape?, hB]
  have hfb : w.frozen? b = false := by simp [World.frozen?, hB]
  have hfe : w.frozen? { block := b.block, off := cB.size } = false := by simp [World.frozen?, hB]
  change Sem.run P (α := Value) (do
    let some t := (#[tS, tS] : Array TypeId)[0]? | stuck "slices.overlaps: no parameter types"
    let .slice elem ← underlying t | stuck "slices.overlaps: slice type expected"
    let size ← sizeOf elem
    match (some a : Option Addr), (some b : Option Addr) with
    | some a, some b =>
      if la = 0 ∨ lb = 0 ∨ size = 0 then pure (Value.bool false)
      else if a.block != b.block && (← frozen a) && (← frozen b) then unsupported .addressObserved
      else do
        if a.block != b.block then do
          noView a; noView b
          if ← mayBeOne a b then return Value.bool ((← choose (.extern "sameAddr.stringBytes" 2)) == 1)
        pure (Value.bool (a.block == b.block && a.off < b.off + lb * size && b.off < a.off + la * size))
    | _, _ => pure (Value.bool false)) w = _
  by_cases h0 : la = 0 ∨ lb = 0 ∨ size = 0
  · simp [run_underlying ht, hz, h0]
  · cases hk : cA.size with
    | zero => exact absurd hk hkA
    | succ kA =>
      rw [hk] at hsa
      cases hfa : w.frozen? a <;> cases hfae : w.frozen? { block := a.block, off := kA + 1 } <;>
        simp [run_underlying ht, hz, h0, hnb, hnb', frozen, noView, viewAt, mayBeOne, stringish, shape, Sem.run, hsa, hsb, hfa, hfae, hfb, hfe]
theorem run_overlaps_none {P : Program} (w : World) (tS tR e : TypeId) (ht : P.underlying tS = some (.slice e)) (size : Nat) (hz : ∀ w, (Go.sizeOf e).run P w = .ok size w) (b : Option Addr) (la ca lb cb : Nat) :
    (Extern.SlicesOverlaps.overlaps #[tS, tS] #[tR] #[.slice none la ca, .slice b lb cb]).run P w = .ok (.bool false) w := by
  change Sem.run P (α := Value) (do
    let some t := (#[tS, tS] : Array TypeId)[0]? | stuck "slices.overlaps: no parameter types"
    let .slice elem ← underlying t | stuck "slices.overlaps: slice type expected"
    let size ← sizeOf elem
    match (none : Option Addr), b with
    | some a, some b =>
      if la = 0 ∨ lb = 0 ∨ size = 0 then pure (Value.bool false)
      else if a.block != b.block && (← frozen a) && (← frozen b) then unsupported .addressObserved
      else do
        if a.block != b.block then do
          noView a; noView b
          if ← mayBeOne a b then return Value.bool ((← choose (.extern "sameAddr.stringBytes" 2)) == 1)
        pure (Value.bool (a.block == b.block && a.off < b.off + lb * size && b.off < a.off + la * size))
    | _, _ => pure (Value.bool false)) w = _
  simp [run_underlying ht, hz]
theorem run_overlaps_zero {P : Program} (w : World) (tS tR e : TypeId) (ht : P.underlying tS = some (.slice e)) (size : Nat) (hz : ∀ w, (Go.sizeOf e).run P w = .ok size w) (a b : Addr) (ca lb cb : Nat) :
    (Extern.SlicesOverlaps.overlaps #[tS, tS] #[tR] #[.slice (some a) 0 ca, .slice (some b) lb cb]).run P w = .ok (.bool false) w := by
  change Sem.run P (α := Value) (do
    let some t := (#[tS, tS] : Array TypeId)[0]? | stuck "slices.overlaps: no parameter types"
    let .slice elem ← underlying t | stuck "slices.overlaps: slice type expected"
    let size ← sizeOf elem
    match (some a : Option Addr), (some b : Option Addr) with
    | some a, some b =>
      if 0 = 0 ∨ lb = 0 ∨ size = 0 then pure (Value.bool false)
      else if a.block != b.block && (← frozen a) && (← frozen b) then unsupported .addressObserved
      else do
        if a.block != b.block then do
          noView a; noView b
          if ← mayBeOne a b then return Value.bool ((← choose (.extern "sameAddr.stringBytes" 2)) == 1)
        pure (Value.bool (a.block == b.block && a.off < b.off + lb * size && b.off < a.off + 0 * size))
    | _, _ => pure (Value.bool false)) w = _
  simp [run_underlying ht, hz]
def insAt {α : Type} (l : List α) (i : Nat) (x : α) : List α := l.take i ++ x :: l.drop i
theorem overL_get {L m : List D} {o q : Nat} (h : o + m.length ≤ L.length) : (overL L o m)[q]? = if q < o then L[q]? else if q < o + m.length then m[q - o]? else L[q]? := by
  unfold overL
  have h1 : (L.take o).length = o := by rw [List.length_take]; omega
  by_cases h2 : q < o
  · rw [if_pos h2, List.append_assoc, List.getElem?_append_left (by omega), List.getElem?_take, if_pos h2]
  · rw [if_neg h2, List.append_assoc, List.getElem?_append_right (by omega), h1]
    by_cases h3 : q < o + m.length
    · rw [if_pos h3, List.getElem?_append_left (by omega)]
    · rw [if_neg h3, List.getElem?_append_right (by omega), List.getElem?_drop]
      congr 1; omega
theorem overL_len {L m : List D} {o : Nat} (h : o + m.length ≤ L.length) : (overL L o m).length = L.length := by
  simp [overL]; omega
theorem insAt_len {α : Type} (l : List α) (i : Nat) (x : α) (h : i ≤ l.length) : (insAt l i x).length = l.length + 1 := by simp [insAt]; omega
theorem melt_out {l : List D} {base ex : List (Sh × D)} {d : D} {k : Nat} {e : TypeId} (hb : base.length = k) (ho : OutM e k d ex l) : meltD (base ++ ex) 0 d = .lst e l .no := by
  subst hb
  rcases ho with ⟨rfl, rfl, rfl⟩ | ⟨j, N, L, rfl, hj, hL, hlN, hN, hlL, _⟩
  · simp [meltD]
  · have : (base ++ ex)[base.length + j]? = some (.arr N (CT.sh e), .agg L) := by rw [List.getElem?_append_right (by omega), Nat.add_sub_cancel_left]; exact hj
    simp only [meltD]
    rw [if_pos (by omega), this]
    simp only [List.drop_zero, hlL]
theorem outM_pure {l : List D} {ex : List (Sh × D)} {d : D} {k : Nat} {e : TypeId} (ho : OutM e k d ex l) : ∀ N s L, (Sh.arr N s, D.agg L) ∈ ex → pureL L := by
  rcases ho with ⟨_, _, rfl⟩ | ⟨_, _, _, _, _, _, _, _, _, h⟩
  · simp
  · exact h
theorem finH_all {r : D} {bs : List (Sh × D)} {tk : List Bool} {R : D → List (Sh × D) → Prop} (h3 : ∀ (N : Nat) (s' : Sh) (L : List D), (Sh.arr N s', D.agg L) ∈ bs → pureL L)
    {q : D} (hq : meltD bs 0 r = q) (hp : pureD q) (h5 : R q []) : finH (some r) [] tk R bs tk := by
  have := finH_drop (bs := []) (ex := bs) (tk := tk) (r := r) (R := R) h3 (by simp only [List.nil_append, List.length_nil]; rw [hq]; exact low_of_pure _ hp) (by simp only [List.nil_append, List.length_nil]; rw [hq]; exact h5) []
  simpa using this
theorem out_nrmM {k : Nat} {e : TypeId} {d : D} {ex : List (Sh × D)} {l : List D} (ho : OutM e k d ex l) (t : TypeId) : nrm CT t d = d := by
  rcases ho with ⟨rfl, _⟩ | ⟨j, N, L, rfl, _⟩
  · simp only [nrm_lst]
  · simp only [nrm_sl]
theorem out_nrmL {k : Nat} {e : TypeId} {d : D} {ex : List (Sh × D)} {l : List D} (ho : OutL e k d ex l) (t : TypeId) : nrm CT t d = d := by
  rcases ho with ⟨rfl, _⟩ | ⟨j, N, L, rfl, _⟩
  · simp only [nrm_lst]
  · simp only [nrm_sl]
theorem out_leaf {k : Nat} {e : TypeId} {d : D} {ex : List (Sh × D)} {l : List D} (ho : OutM e k d ex l) : hasSh .leaf d := by
  rcases ho with ⟨rfl, _⟩ | ⟨j, N, L, rfl, _⟩ <;> simp [hasSh, D.isLeaf]
end Go.Ab
