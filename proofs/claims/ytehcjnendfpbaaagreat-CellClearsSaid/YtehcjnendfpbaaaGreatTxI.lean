/- Slices of the call's own: what the library's functions of slices do to them; what is the same for each kind of element. Conditions: none. -/
import Derived.Test.YtehcjnendfpbaaaGreatAbPg
import Derived.Laws.Externs
import Derived.Test.YtehcjnendfpbaaaGreatAbT
set_option linter.unusedSimpArgs false
namespace Go.Ab
open Go.Proofs

theorem get_enc {α : Type} [Inhabited α] (enc : α → D) (l : List α) (k : Nat) (h : (k < l.length) = True) : (l.map enc)[k]? = some (enc (l.getD k default)) := by
  have h := of_eq_true h
  simp [h]
theorem pureL_app {a b : List D} (h1 : pureL a) (h2 : pureL b) : pureL (a ++ b) := by
  induction a with
  | nil => exact h2
  | cons x r ih => exact ⟨h1.1, ih h1.2⟩
theorem pure_rep (n : Nat) (d : D) (h : pureD d) : pureL (List.replicate n d) := by
  induction n with
  | zero => trivial
  | succ n ih => exact ⟨h, ih⟩
/-- A slice of the call's own, and what its cells hold. -/
def OutL (e : TypeId) (k : Nat) (d : D) (ex : List (Sh × D)) (l : List D) : Prop :=
  (d = .lst e [] .full ∧ l = [] ∧ ex = []) ∨ ∃ j N L, d = .sl e (k + j) 0 l.length N ∧ ex[j]? = some (.arr N (CT.sh e), .agg L) ∧ L.length = N ∧ l.length ≤ N ∧ N ≤ maxLen ∧ L.take l.length = l ∧ ∀ N s L, (Sh.arr N s, D.agg L) ∈ ex → pureL L
/-- What a function of an element answers, whatever else is in memory. -/
def PredF {α : Type} (f : FuncId) (caps : List D) (enc : α → D) (p : α → Bool) (bs : List (Sh × D)) : Prop :=
  ∀ (x : α) (bs' : List (Sh × D)), (∀ i, i < bs.length → bs'[i]? = bs[i]?) → HSpec Tryz.prog CT f (enc x :: caps) bs' fun r b' => r = .bool (p x) ∧ b' = bs'
def idxF {α : Type} (p : α → Bool) (l : List α) : Int := if l.any p then (l.findIdx p : Int) else -1
theorem idxF_at {α : Type} [Inhabited α] {p : α → Bool} {l : List α} {k : Nat} (hk : k < l.length) (h0 : ∀ q, q < k → p (l.getD q default) = false) (h : p (l.getD k default) = true) : idxF p l = k := by
  have hk2 : p l[k] = true := by rwa [List.getD_eq_getElem?_getD, List.getElem?_eq_getElem hk] at h
  have hany : l.any p = true := List.any_eq_true.2 ⟨_, List.getElem_mem hk, hk2⟩
  have : l.findIdx p = k := by
    rw [List.findIdx_eq hk]
    refine ⟨hk2, fun j hj => ?_⟩
    have := h0 j hj
    rw [List.getD_eq_getElem?_getD, List.getElem?_eq_getElem (by omega)] at this
    simpa using this
  simp [idxF, hany, this]
theorem idxF_none {α : Type} [Inhabited α] {p : α → Bool} {l : List α} (h0 : ∀ q, q < l.length → p (l.getD q default) = false) : idxF p l = -1 := by
  have : l.any p = false := by
    rw [List.any_eq_false]
    intro x hx
    obtain ⟨i, hi, rfl⟩ := List.getElem_of_mem hx
    have := h0 i hi
    rw [List.getD_eq_getElem?_getD, List.getElem?_eq_getElem hi] at this
    simpa using this
  simp [idxF, this]
theorem idxF_lt {α : Type} (p : α → Bool) (l : List α) : idxF p l < l.length := by
  unfold idxF
  split
  · rename_i h
    have := List.findIdx_lt_length_of_exists (List.any_eq_true.1 h)
    omega
  · omega
theorem idxF_ge {α : Type} (p : α → Bool) (l : List α) : decide (0 ≤ idxF p l) = l.any p := by
  unfold idxF
  cases l.any p <;> simp <;> omega
theorem slice_sl_lo_t (C : Tab) (t e : TypeId) (b lo n c : Nat) (k : IntKind) (i : Int) (ht : (C.ty t = .slice e) = True) (h0 : (0 ≤ i) = True) (h1 : (i.toNat ≤ n) = True) (h2 : (n ≤ c) = True) : sliceD C t (.sl e b lo n c) (some (.lit (.int k i))) none none = some (.sl e b (lo + i.toNat) (n - i.toNat) (c - i.toNat)) := by
  have ht := of_eq_true ht
  have h0 := of_eq_true h0
  have h1 := of_eq_true h1
  have h2 := of_eq_true h2
  have h3 : max i 0 = i := by omega
  have h4 : i ≤ (n : Int) := by omega
  simp [sliceD, ht, boundD, natOf, h0, h1, h2, h3, h4]
def keptL {α : Type} (p : α → Bool) (l : List α) : List α := l.filter fun x => !p x
theorem kept_start {α : Type} {p : α → Bool} : ∀ {l : List α}, l.any p = true → keptL p (l.take (l.findIdx p + 1)) = l.take (l.findIdx p) ∧ l.findIdx p < l.length
  | [], h => by simp at h
  | x :: r, h => by
    cases hx : p x with
    | true => simp [List.findIdx_cons, hx, keptL]
    | false =>
      have hr : r.any p = true := by simpa [hx] using h
      obtain ⟨h1, h2⟩ := kept_start hr
      simp only [keptL] at h1 ⊢
      simp only [List.findIdx_cons, hx, cond_false, List.take_succ_cons, List.filter_cons, Bool.not_false, if_true, List.length_cons]
      exact ⟨by rw [h1], by omega⟩
theorem kept_none {α : Type} {p : α → Bool} {l : List α} (h : l.any p = false) : keptL p l = l := by
  rw [keptL, List.filter_eq_self]
  intro x hx
  have := List.any_eq_false.1 h x hx
  simpa using this
theorem kept_snoc {α : Type} [Inhabited α] {p : α → Bool} {l : List α} {j : Nat} (hj : j < l.length) : keptL p (l.take (j + 1)) = keptL p (l.take j) ++ (if p (l.getD j default) then [] else [l.getD j default]) := by
  have e : l.take (j + 1) = l.take j ++ [l.getD j default] := by rw [List.take_add_one, List.getElem?_eq_getElem hj, List.getD_eq_getElem?_getD, List.getElem?_eq_getElem hj]; rfl
  rw [e, keptL, List.filter_append, ← keptL]
  cases h : p (l.getD j default) <;> simp [List.filter_cons]
  · have := h; simp only [List.getD_eq_getElem?_getD] at this; simp [this]
  · have := h; simp only [List.getD_eq_getElem?_getD] at this; simp [this]
theorem kept_len {α : Type} (p : α → Bool) (l : List α) : (keptL p l).length ≤ l.length := List.length_filter_le _ _
theorem pureL_set {L : List D} {k : Nat} {d : D} (h : pureL L) (hd : pureD d) : pureL (L.set k d) := by
  induction L generalizing k with
  | nil => simpa using h
  | cons x r ih => cases k with
    | zero => exact ⟨hd, h.2⟩
    | succ k => exact ⟨h.1, ih h.2⟩
theorem pureL_take {a : List D} (n : Nat) (h : pureL a) : pureL (a.take n) := by
  induction a generalizing n with
  | nil => simpa using h
  | cons x r ih => cases n with
    | zero => trivial
    | succ n => exact ⟨h.1, ih n h.2⟩
theorem pureL_drop {a : List D} (n : Nat) (h : pureL a) : pureL (a.drop n) := by
  induction a generalizing n with
  | nil => simpa using h
  | cons x r ih => cases n with
    | zero => exact h
    | succ n => exact ih n h.2
theorem pureL_over {L m : List D} {o : Nat} (h : pureL L) (hm : pureL m) : pureL (overL L o m) := pureL_app (pureL_app (pureL_take _ h) hm) (pureL_drop _ h)
mutual
theorem low_of_pure {k n : Nat} : ∀ d : D, pureD d → lowD k n d
  | .lit _, _ => trivial
  | .agg l, h => lowL_of_pure l h
  | .lst _ _ t, h => by cases t <;> first | trivial | exact h.elim
  | .ref _ _, _ => trivial
  | .ptr _ _, h => h.elim
  | .fn _ _, h => h.elim
  | .tup _, h => h.elim
  | .ifc _ _, _ => trivial
  | .mref _, h => h.elim
  | .mp _ _ _, h => h.elim
  | .it _ _ _, h => h.elim
  | .sl _ _ _ _ _, h => h.elim
theorem lowL_of_pure {k n : Nat} : ∀ l : List D, pureL l → lowL k n l
  | [], _ => trivial
  | d :: r, h => ⟨low_of_pure d h.1, lowL_of_pure r h.2⟩
end
theorem take_set_snoc {L : List D} {l : List D} {d : D} (h : L.take l.length = l) (hl : l.length < L.length) : (L.set l.length d).take (l.length + 1) = l ++ [d] := by
  rw [List.take_add_one, List.getElem?_set_self hl, List.take_set_of_le (Nat.le_refl _), h]; rfl
/-- The same, where nothing is to be put behind it. -/
def OutM (e : TypeId) (k : Nat) (d : D) (ex : List (Sh × D)) (l : List D) : Prop :=
  (d = .lst e [] .no ∧ l = [] ∧ ex = []) ∨ ∃ j N L, d = .sl e (k + j) 0 l.length N ∧ ex[j]? = some (.arr N (CT.sh e), .agg L) ∧ L.length = N ∧ l.length ≤ N ∧ N ≤ maxLen ∧ L.take l.length = l ∧ ∀ N s L, (Sh.arr N s, D.agg L) ∈ ex → pureL L
theorem run_overlaps_own {P : Program} (w : World) (tS tR e : TypeId) (ht : P.underlying tS = some (.slice e)) (size : Nat) (hz : ∀ w, (Go.sizeOf e).run P w = .ok size w)
    (a b : Addr) (la ca lb cb : Nat) (hne : a.block ≠ b.block) {cA cB : Array Value} {eA eB : TypeId} {frA : Nat × Nat} (hA : w.heap[a.block]? = some (.cells cA eA frA)) (hB : w.heap[b.block]? = some (.cells cB eB (0, 0))) (hkA : cA.size ≠ 0) :
    (Extern.SlicesOverlaps.overlaps #[tS, tS] #[tR] #[.slice (some a) la ca, .slice (some b) lb cb]).run P w = .ok (.bool false) w := by
  have hnb : (a.block != b.block) = true := by simpa using hne
  have hnb' : (a.block == b.block) = false := by simpa using hne
  have hsa : w.shape? a.block = some (eA, cA.size) := by simp [World.shape?, hA]
  have hsb : w.shape? b.block = some (eB, cB.size) := by simp [World.shape?, hB]
  have hfb : w.frozen? b = false := by simp [World.frozen?, hB]
  have hfe : w.frozen? { block := b.block, off := cB.size } = false := by simp [World.frozen?, hB]
  change Sem.run P (α := Value) (do
    let some t := (#[tS, tS] : Array TypeId)[0]? | stuck "slices.overlaps: no parameter types"
    let .slice elem ← underlying t | stuck "slices.overlaps: slice type expected"
    let size ← sizeOf elem
    match (some a : Option Addr), (some b : Option Addr) with
    | some a, some b =>
      if la = 0 ∨ lb = 0 ∨ size = 0 then pure (Value.bool false)
      else if a.block != b.block && (← frozen a) && (← frozen b) then unsupported .addressObserved
      else do
        if a.block != b.block then do
          noView a; noView b
          if ← mayBeOne a b then return Value.bool ((← choose (.extern "sameAddr.stringBytes" 2)) == 1)
        pure (Value.bool (a.block == b.block && a.off < b.off + lb * size && b.off < a.off + la * size))
    | _, _ => pure (Value.bool false)) w = _
  by_cases h0 : la = 0 ∨ lb = 0 ∨ size = 0
  · simp [run_underlying ht, hz, h0]
  · cases hk : cA.size with
    | zero => exact absurd hk hkA
    | succ kA =>
      rw [hk] at hsa
      cases hfa : w.frozen? a <;> cases hfae : w.frozen? { block := a.block, off := kA + 1 } <;>
        simp [run_underlying ht, hz, h0, hnb, hnb', frozen, noView, viewAt, mayBeOne, stringish, shape, Sem.run, hsa, hsb, hfa, hfae, hfb, hfe]
theorem run_overlaps_none {P : Program} (w : World) (tS tR e : TypeId) (ht : P.underlying tS = some (.slice e)) (size : Nat) (hz : ∀ w, (Go.sizeOf e).run P w = .ok size w) (b : Option Addr) (la ca lb cb : Nat) :
    (Extern.SlicesOverlaps.overlaps #[tS, tS] #[tR] #[.slice none la ca, .slice b lb cb]).run P w = .ok (.bool false) w := by
  change Sem.run P (α := Value) (do
    let some t := (#[tS, tS] : Array TypeId)[0]? | stuck "slices.overlaps: no parameter types"
    let .slice elem ← underlying t | stuck "slices.overlaps: slice type expected"
    let size ← sizeOf elem
    match (none : Option Addr), b with
    | some a, some b =>
      if la = 0 ∨ lb = 0 ∨ size = 0 then pure (Value.bool false)
      else if a.block != b.block && (← frozen a) && (← frozen b) then unsupported .addressObserved
      else do
        if a.block != b.block then do
          noView a; noView b
          if ← mayBeOne a b then return Value.bool ((← choose (.extern "sameAddr.stringBytes" 2)) == 1)
        pure (Value.bool (a.block == b.block && a.off < b.off + lb * size && b.off < a.off + la * size))
    | _, _ => pure (Value.bool false)) w = _
  simp [run_underlying ht, hz]
theorem run_overlaps_zero {P : Program} (w : World) (tS tR e : TypeId) (ht : P.underlying tS = some (.slice e)) (size : Nat) (hz : ∀ w, (Go.sizeOf e).run P w = .ok size w) (a b : Addr) (ca lb cb : Nat) :
    (Extern.SlicesOverlaps.overlaps #[tS, tS] #[tR] #[.slice (some a) 0 ca, .slice (some b) lb cb]).run P w = .ok (.bool false) w := by
  change Sem.run P (α := Value) (do
    let some t := (#[tS, tS] : Array TypeId)[0]? | stuck "slices.overlaps: no parameter types"
    let .slice elem ← underlying t | stuck "slices.overlaps: slice type expected"
    let size ← sizeOf elem
    match (some a : Option Addr), (some b : Option Addr) with
    | some a, some b =>
      if 0 = 0 ∨ lb = 0 ∨ size = 0 then pure (Value.bool false)
      else if a.block != b.block && (← frozen a) && (← frozen b) then unsupported .addressObserved
      else do
        if a.block != b.block then do
          noView a; noView b
          if ← mayBeOne a b then return Value.bool ((← choose (.extern "sameAddr.stringBytes" 2)) == 1)
        pure (Value.bool (a.block == b.block && a.off < b.off + lb * size && b.off < a.off + 0 * size))
    | _, _ => pure (Value.bool false)) w = _
  simp [run_underlying ht, hz]
def insAt {α : Type} (l : List α) (i : Nat) (x : α) : List α := l.take i ++ x :: l.drop i
theorem overL_get {L m : List D} {o q : Nat} (h : o + m.length ≤ L.length) : (overL L o m)[q]? = if q < o then L[q]? else if q < o + m.length then m[q - o]? else L[q]? := by
  unfold overL
  have h1 : (L.take o).length = o := by rw [List.length_take]; omega
  by_cases h2 : q < o
  · rw [if_pos h2, List.append_assoc, List.getElem?_append_left (by omega), List.getElem?_take, if_pos h2]
  · rw [if_neg h2, List.append_assoc, List.getElem?_append_right (by omega), h1]
    by_cases h3 : q < o + m.length
    · rw [if_pos h3, List.getElem?_append_left (by omega)]
    · rw [if_neg h3, List.getElem?_append_right (by omega), List.getElem?_drop]
      congr 1; omega
theorem overL_len {L m : List D} {o : Nat} (h : o + m.length ≤ L.length) : (overL L o m).length = L.length := by
  simp [overL]; omega
theorem insAt_len {α : Type} (l : List α) (i : Nat) (x : α) (h : i ≤ l.length) : (insAt l i x).length = l.length + 1 := by simp [insAt]; omega
theorem melt_out {l : List D} {base ex : List (Sh × D)} {d : D} {k : Nat} {e : TypeId} (hb : base.length = k) (ho : OutM e k d ex l) : meltD (base ++ ex) 0 d = .lst e l .no := by
  subst hb
  rcases ho with ⟨rfl, rfl, rfl⟩ | ⟨j, N, L, rfl, hj, hL, hlN, hN, hlL, _⟩
  · simp [meltD]
  · have : (base ++ ex)[base.length + j]? = some (.arr N (CT.sh e), .agg L) := by rw [List.getElem?_append_right (by omega), Nat.add_sub_cancel_left]; exact hj
    simp only [meltD]
    rw [if_pos (by omega), this]
    simp only [List.drop_zero, hlL]
theorem outM_pure {l : List D} {ex : List (Sh × D)} {d : D} {k : Nat} {e : TypeId} (ho : OutM e k d ex l) : ∀ N s L, (Sh.arr N s, D.agg L) ∈ ex → pureL L := by
  rcases ho with ⟨_, _, rfl⟩ | ⟨_, _, _, _, _, _, _, _, _, h⟩
  · simp
  · exact h
theorem finH_all {r : D} {bs : List (Sh × D)} {tk : List Bool} {R : D → List (Sh × D) → Prop} (h3 : ∀ (N : Nat) (s' : Sh) (L : List D), (Sh.arr N s', D.agg L) ∈ bs → pureL L)
    {q : D} (hq : meltD bs 0 r = q) (hp : pureD q) (h5 : R q []) : finH (some r) [] tk R bs tk := by
  have := finH_drop (bs := []) (ex := bs) (tk := tk) (r := r) (R := R) h3 (by simp only [List.nil_append, List.length_nil]; rw [hq]; exact low_of_pure _ hp) (by simp only [List.nil_append, List.length_nil]; rw [hq]; exact h5) []
  simpa using this
theorem out_nrmM {k : Nat} {e : TypeId} {d : D} {ex : List (Sh × D)} {l : List D} (ho : OutM e k d ex l) (t : TypeId) : nrm CT t d = d := by
  rcases ho with ⟨rfl, _⟩ | ⟨j, N, L, rfl, _⟩
  · simp only [nrm_lst]
  · simp only [nrm_sl]
theorem out_nrmL {k : Nat} {e : TypeId} {d : D} {ex : List (Sh × D)} {l : List D} (ho : OutL e k d ex l) (t : TypeId) : nrm CT t d = d := by
  rcases ho with ⟨rfl, _⟩ | ⟨j, N, L, rfl, _⟩
  · simp only [nrm_lst]
  · simp only [nrm_sl]
theorem out_leaf {k : Nat} {e : TypeId} {d : D} {ex : List (Sh × D)} {l : List D} (ho : OutM e k d ex l) : hasSh .leaf d := by
  rcases ho with ⟨rfl, _⟩ | ⟨j, N, L, rfl, _⟩ <;> simp [hasSh, D.isLeaf]
end Go.Ab
set_option linter.unusedSimpArgs false
namespace Go.Ab
open Go.Proofs

def vpeer (p : Int) : Bool := decide (1 ≤ p) && decide (p ≤ 12)
theorem vpeer_of {p : Int} (h : vpeer p = true) : 0 ≤ p ∧ p.toNat < 13 := by
  simp only [vpeer, Bool.and_eq_true, decide_eq_true_eq] at h; omega

theorem ref_peer (p : Int) : PSpec Tryz.prog CT 59 [.lit (.int .i64 p)] (· = .bool (vpeer p)) := by
  refine PSpec.of hT Tryz.func59 rfl (by kernel_rfl) rfl rfl ?_
  simp only [Tryz.f59, go_sem, simprocAttr]
  (repeat' (first | ((refine guardK_split (fun hg => ?_) (fun hg => ?_)) <;> (try simp only [go_sem, simprocAttr, hg, vpeer, Bool.true_and, Bool.false_and])) | ((refine condK_split (fun hg => ?_) (fun hg => ?_)) <;> (try simp only [go_sem, simprocAttr, hg, vpeer, Bool.true_and, Bool.false_and])) | ((refine Or.inl ⟨by kernel_rfl, ?_⟩) <;> (try simp only [go_sem, simprocAttr, vpeer, Bool.true_and, Bool.false_and])))) <;> (first | done | skip)

theorem eqB_cons (x y : D) (l m : List D) : eqB (.agg (x :: l)) (.agg (y :: m)) = (eqB x y && eqB (.agg l) (.agg m)) := by
  rw [Bool.eq_iff_iff, Bool.and_eq_true]; simp [eqB_true]
theorem eqB_nil : eqB (.agg []) (.agg []) = true := by simp [eqB_true]
theorem eqB_int (k : IntKind) (a b : Int) : eqB (.lit (.int k a)) (.lit (.int k b)) = decide (a = b) := eqB_eq (by simp)
theorem eqB_str (a b : ByteArray) : eqB (.lit (.string a)) (.lit (.string b)) = decide (a = b) := eqB_eq (by simp)

def named (s : ByteArray) : Bool := decide (1 ≤ (s.size : Int)) && decide ((s.size : Int) ≤ 64)
def fits (k a n : Int) : Bool :=
  if k = 1 then decide (a = 1) && decide (-1073741824 ≤ n) && decide (n ≤ 1073741824)
  else if k = 2 ∨ k = 3 then decide (a = 3) && decide (n = 0)
  else if k = 4 then (decide (a = 1) || decide (a = 2)) && decide (n = 0)
  else if k = 5 then (decide (a = 4) || decide (a = 2)) && decide (n = 0)
  else false
def texts (k a : Int) (s : ByteArray) : Bool :=
  if k = 1 ∨ a = 5 ∨ (k = 5 ∧ a = 2) then decide (s = ⟨#[]⟩) else decide ((s.size : Int) ≤ 64)
def shape (kind : Int) (key field : ByteArray) (inner act n : Int) (text : ByteArray) : Int × Bool :=
  if kind < 1 ∨ 6 < kind ∨ named key = false then (0, false)
  else if kind = 6 then
    (if named field = false ∨ inner < 1 ∨ 5 < inner then (0, false)
     else if act = 5 then (inner, decide (n = 0) && decide (text = ⟨#[]⟩)) else (inner, fits inner act n && texts inner act text))
  else if field ≠ ⟨#[]⟩ ∨ inner ≠ 0 then (0, false) else (kind, fits kind act n && texts kind act text)
def places (leaf act : Int) : Bool := decide (leaf = 5) && decide (act ≠ 5)
abbrev dotD (p s : Int) : D := .agg [.lit (.int .i64 p), .lit (.int .i64 s)]
abbrev markD (p s i : Int) : D := .agg [dotD p s, .lit (.int .i64 i)]
end Go.Ab
set_option linter.unusedSimpArgs false
namespace Go.Ab
open Go.Proofs

theorem wrapNat (k : Nat) (h : k < 4000000000) : IntKind.i64.wrap ((k : Int) + 1) = ((k + 1 : Nat) : Int) := by rw [wrap64] <;> omega

/-- An op's data. -/
structure OpR where
  kind : Int
  key : ByteArray
  field : ByteArray
  inner : Int
  act : Int
  n : Int
  text : ByteArray
  rp : Int
  rs : Int
  ri : Int
  deriving DecidableEq
abbrev opD (o : OpR) : D := .agg [.lit (.int .i64 o.kind), .lit (.string o.key), .lit (.string o.field), .lit (.int .i64 o.inner), .lit (.int .i64 o.act), .lit (.int .i64 o.n), .lit (.string o.text), markD o.rp o.rs o.ri]
/-- A transaction's data. -/
structure TxR where
  peer : Int
  seq : Int
  deps : List Int
  time : Int
  ops : List OpR
abbrev opsD (l : List OpR) : D := .lst 38 (l.map opD) .no
abbrev txD (t : TxR) : D := .agg [dotD t.peer t.seq, ints t.deps, .lit (.int .i64 t.time), opsD t.ops]


def vhas (v : List Int) (p s : Int) : Bool := vpeer p && decide (1 ≤ s) && decide (s ≤ v.getD p.toNat 0)
theorem ref_has (v : List Int) (p s : Int) (hv : v.length = 13) : PSpec Tryz.prog CT 33 [ints v, dotD p s] (· = .bool (vhas v p s)) := by
  refine PSpec.of hT Tryz.func33 rfl (by kernel_rfl) rfl rfl ?_
  simp only [Tryz.f33, go_sem, simprocAttr, hv]
  refine .inl ⟨by kernel_rfl, callD_pure (ref_peer p) (by simp only [go_sem, simprocAttr]) (by simp only [go_sem, simprocAttr]) ?_⟩
  simp only [go_sem, simprocAttr, hv]
  refine guardK_split (fun h => ?_) (fun h => ?_)
  · obtain ⟨h0, h1⟩ := vpeer_of h
    simp only [go_sem, simprocAttr, hv, h0, h1, h]
    (repeat' (first | ((refine guardK_split (fun hg => ?_) (fun hg => ?_)) <;> (try simp only [go_sem, simprocAttr, hg, vhas, Bool.true_and, Bool.false_and, hv, h0, h1, h])) | ((refine condK_split (fun hg => ?_) (fun hg => ?_)) <;> (try simp only [go_sem, simprocAttr, hg, vhas, Bool.true_and, Bool.false_and, hv, h0, h1, h])) | ((refine Or.inl ⟨by kernel_rfl, ?_⟩) <;> (try simp only [go_sem, simprocAttr, vhas, Bool.true_and, Bool.false_and, hv, h0, h1, h])))) <;> (first | done | skip)
  · simp only [go_sem, simprocAttr, h, vhas, Bool.false_and]

def before (p s i : Int) (t : TxR) (k : Int) : Bool := !decide (i < 1) && ((decide (p = t.peer) && decide (s = t.seq) && decide (i < k)) || vhas t.deps p s)
theorem ref_before (p s i : Int) (t : TxR) (k : Int) (hd : t.deps.length = 13) : PSpec Tryz.prog CT 11 [markD p s i, txD t, .int k] (· = .bool (before p s i t k)) := by
  refine PSpec.of hT Tryz.func11 rfl (by kernel_rfl) rfl rfl ?_
  simp only [Tryz.f11, go_sem, simprocAttr, hd]
  (repeat' (first | ((refine guardK_split (fun hg => ?_) (fun hg => ?_)) <;> (try simp only [go_sem, simprocAttr, hg, eqB_cons, eqB_nil, eqB_int, eqB_str, Bool.and_true, hd])) | ((refine condK_split (fun hg => ?_) (fun hg => ?_)) <;> (try simp only [go_sem, simprocAttr, hg, eqB_cons, eqB_nil, eqB_int, eqB_str, Bool.and_true, hd])) | ((first | refine callK_pure (ref_has t.deps p s hd) ?_ ?_ ?_ | refine callD_pure (ref_has t.deps p s hd) ?_ ?_ ?_); (iterate 2 (focus (first | rfl | (simp only [go_sem, eqB_cons, eqB_nil, eqB_int, eqB_str, Bool.and_true, hd]; done)))); try simp only [go_sem, simprocAttr, eqB_cons, eqB_nil, eqB_int, eqB_str, Bool.and_true, hd]) | ((refine Or.inl ⟨by kernel_rfl, ?_⟩) <;> (try simp only [go_sem, simprocAttr, eqB_cons, eqB_nil, eqB_int, eqB_str, Bool.and_true, hd])))) <;> (first | done | (simp_all [before]; done) | (simp_all [before]; omega) | (simp_all [before]; intros; omega) | (simp_all [before]; grind))
end Go.Ab
set_option linter.unusedSimpArgs false
namespace Go.Ab
open Go.Proofs


abbrev txSh : Sh := .pair (.pair .leaf (.pair .leaf .unit)) (.pair (.arr 13 .leaf) (.pair .leaf (.pair .leaf .unit)))
theorem getD_ops (l : List OpR) (k : Nat) (z : OpR) (h : (k < l.length) = True) : (l.map opD)[k]? = some (opD (l.getD k z)) := by
  have h := of_eq_true h
  simp [h]
instance : Inhabited OpR := ⟨⟨0, ⟨#[]⟩, ⟨#[]⟩, 0, 0, 0, ⟨#[]⟩, 0, 0, 0⟩⟩
def opAt (t : TxR) (k : Nat) : OpR := t.ops.getD k default
theorem get_ops (t : TxR) (k : Nat) (h : (k < t.ops.length) = True) : (t.ops.map opD)[k]? = some (opD (opAt t k)) := getD_ops _ _ _ h

end Go.Ab
set_option linter.unusedSimpArgs false
namespace Go.Ab
open Go.Proofs

theorem inv_mark {d : D} (h : HasTy CT 36 d) : ∃ p s i, d = markD p s i := by
  obtain ⟨l, rfl, hl⟩ := h.inv_struct ty36
  match l, hl with
  | [x, y], hl =>
    obtain ⟨hx, hl⟩ := hl.head
    obtain ⟨hy, _⟩ := hl.head
    obtain ⟨m, rfl, hm⟩ := hx.inv_struct ty29
    obtain ⟨i, rfl, _⟩ := hy.inv_i64 ty3
    match m, hm with
    | [u, v], hm =>
      obtain ⟨hu, hm⟩ := hm.head
      obtain ⟨hv, _⟩ := hm.head
      obtain ⟨p, rfl, _⟩ := hu.inv_i64 ty3
      obtain ⟨s, rfl, _⟩ := hv.inv_i64 ty3
      exact ⟨p, s, i, rfl⟩
    | [], hm => exact absurd hm.1 (by simp)
    | [_], hm => exact absurd hm.1 (by simp)
    | _ :: _ :: _ :: _, hm => exact absurd hm.1 (by simp)
  | [], hl => exact absurd hl.1 (by simp)
  | [_], hl => exact absurd hl.1 (by simp)
  | _ :: _ :: _ :: _, hl => exact absurd hl.1 (by simp)

theorem inv_op {d : D} (h : HasTy CT 38 d) : ∃ o : OpR, d = opD o ∧ True := by
  obtain ⟨l, rfl, hl⟩ := h.inv_struct ty38
  have hlen := hl.1
  match l, hl with
  | [a, b, c, e, f, g, i, j], hl =>
    obtain ⟨h1, hl⟩ := hl.head
    obtain ⟨h2, hl⟩ := hl.head
    obtain ⟨h3, hl⟩ := hl.head
    obtain ⟨h4, hl⟩ := hl.head
    obtain ⟨h5, hl⟩ := hl.head
    obtain ⟨h6, hl⟩ := hl.head
    obtain ⟨h7, hl⟩ := hl.head
    obtain ⟨h8, _⟩ := hl.head
    obtain ⟨kind, rfl, _⟩ := h1.inv_i64 ty3
    obtain ⟨key, rfl, _⟩ := h2.inv_str ty9
    obtain ⟨field, rfl, _⟩ := h3.inv_str ty9
    obtain ⟨inner, rfl, _⟩ := h4.inv_i64 ty3
    obtain ⟨act, rfl, _⟩ := h5.inv_i64 ty3
    obtain ⟨n, rfl, _⟩ := h6.inv_i64 ty3
    obtain ⟨text, rfl, _⟩ := h7.inv_str ty9
    obtain ⟨p, s, q, rfl⟩ := inv_mark h8
    exact ⟨⟨kind, key, field, inner, act, n, text, p, s, q⟩, rfl, trivial⟩
  | [], hl => exact absurd hlen (by simp)
  | [_], hl => exact absurd hlen (by simp)
  | [_, _], hl => exact absurd hlen (by simp)
  | [_, _, _], hl => exact absurd hlen (by simp)
  | [_, _, _, _], hl => exact absurd hlen (by simp)
  | [_, _, _, _, _], hl => exact absurd hlen (by simp)
  | [_, _, _, _, _, _], hl => exact absurd hlen (by simp)
  | [_, _, _, _, _, _, _], hl => exact absurd hlen (by simp)
  | _ :: _ :: _ :: _ :: _ :: _ :: _ :: _ :: _ :: _, hl => exact absurd hlen (by simp)

theorem inv_tx {d : D} (h : HasTy CT 34 d) : ∃ t : TxR, d = txD t ∧ t.deps.length = 13 ∧ t.ops.length ≤ 9223372036854775807 := by
  obtain ⟨l, rfl, hl⟩ := h.inv_struct ty34
  have hlen := hl.1
  match l, hl with
  | [a, b, c, e], hl =>
    obtain ⟨h1, hl⟩ := hl.head
    obtain ⟨h2, hl⟩ := hl.head
    obtain ⟨h3, hl⟩ := hl.head
    obtain ⟨h4, _⟩ := hl.head
    obtain ⟨m, rfl, hm⟩ := h1.inv_struct ty29
    obtain ⟨deps, rfl, hd, _⟩ := h2.inv_ints ty31 ty3
    obtain ⟨time, rfl, _⟩ := h3.inv_i64 ty3
    obtain ⟨os, rfl, ho1, ho2⟩ := h4.inv_slice ty32
    obtain ⟨ops, rfl, _⟩ := all_of (enc := opD) (Q := fun _ => True) fun x hx => inv_op (ho2 x hx)
    match m, hm with
    | [u, v], hm =>
      obtain ⟨hu, hm⟩ := hm.head
      obtain ⟨hv, _⟩ := hm.head
      obtain ⟨p, rfl, _⟩ := hu.inv_i64 ty3
      obtain ⟨s, rfl, _⟩ := hv.inv_i64 ty3
      exact ⟨⟨p, s, deps, time, ops⟩, rfl, hd, by simpa [maxLen] using ho1⟩
    | [], hm => exact absurd hm.1 (by simp)
    | [_], hm => exact absurd hm.1 (by simp)
    | _ :: _ :: _ :: _, hm => exact absurd hm.1 (by simp)
  | [], hl => exact absurd hlen (by simp)
  | [_], hl => exact absurd hlen (by simp)
  | [_, _], hl => exact absurd hlen (by simp)
  | [_, _, _], hl => exact absurd hlen (by simp)
  | _ :: _ :: _ :: _ :: _ :: _, hl => exact absurd hlen (by simp)
end Go.Ab
set_option linter.unusedSimpArgs false
namespace Go.Ab
open Go.Proofs

def smallTx (t : TxR) : Bool := decide (t.ops.length ≤ 40) && (List.range t.ops.length).all fun k => decide (((opAt t k).key.size : Int) ≤ 100) && decide (((opAt t k).field.size : Int) ≤ 100) && decide (((opAt t k).text.size : Int) ≤ 100)
def smallAt (t : TxR) (k : Nat) : Bool := decide (((opAt t k).key.size : Int) ≤ 100) && decide (((opAt t k).field.size : Int) ≤ 100) && decide (((opAt t k).text.size : Int) ≤ 100)
theorem smallTx_not {t : TxR} {k : Nat} (hk : k < t.ops.length) (h : smallAt t k = false) : smallTx t = false := by
  have : ((List.range t.ops.length).all fun k => decide (((opAt t k).key.size : Int) ≤ 100) && decide (((opAt t k).field.size : Int) ≤ 100) && decide (((opAt t k).text.size : Int) ≤ 100)) = false := by
    rw [List.all_eq_false]
    refine ⟨k, List.mem_range.2 hk, ?_⟩
    have h2 := h
    unfold smallAt at h2
    rw [h2]; simp
  simp only [smallTx, this, Bool.and_false]
set_option maxRecDepth 8000 in
theorem ref_small (t : TxR) (hd : t.deps.length = 13) : PSpec Tryz.prog CT 9 [txD t] (· = .bool (smallTx t)) := by
  refine PSpec.of hT Tryz.func9 rfl (by kernel_rfl) rfl rfl ?_
  simp only [Tryz.f9, go_sem, simprocAttr, hd]
  refine awp_loop (fun n s => ∃ (k : Nat) (ex : List (Sh × D)) (g : Nat → D), s = ⟨[txD t, .ptr 0 [], g 2, .lit (.int .i64 k), g 4, g 5, g 6, g 7, g 8, g 9, g 10, g 11, g 12, g 13, g 14, g 15, g 16, g 17, g 18, g 19, g 20, g 21, g 22, g 23, g 24, g 25, g 26, g 27, g 28, g 29, g 30, g 31, g 32, g 33, g 34, g 35, g 36, g 37, g 38, g 39, g 40, g 41, g 42], ⟨(txSh, txD t) :: ex, []⟩⟩ ∧ n = t.ops.length - k ∧ k ≤ t.ops.length ∧ (k = 0 ∨ t.ops.length ≤ 40) ∧ ∀ p, p < k → smallAt t p = true) t.ops.length ⟨0, _, reg_intro rfl rfl ⟨by simp, by omega, .inl rfl, by simp⟩⟩ ?_
  rintro n s ⟨k, ex, g, rfl, hn, hk, h40, hp⟩
  simp only [go_sem, simprocAttr, hd]
  have last : (¬ t.ops.length ≤ 40 → smallTx t = false) := fun h => by simp only [smallTx, decide_eq_false h, Bool.false_and]
  refine guardK_split (fun hc => ?_) (fun hc => ?_)
  · have hk' : k < t.ops.length := by have := of_decide_eq_true hc; omega
    simp only [go_sem, simprocAttr, hd, hc]
    refine condK_split (fun h4 => ?_) (fun h4 => ?_)
    · have hl4 : t.ops.length ≤ 40 := by have := of_decide_eq_true h4; omega
      have bad : smallAt t k = false → smallTx t = false := smallTx_not hk'
      have next : smallAt t k = true → ∀ p, p < k + 1 → smallAt t p = true := fun h p hpk => by
        by_cases e : p = k
        · subst e; exact h
        · exact hp p (by omega)
      simp only [go_sem, simprocAttr, hd, hk', get_ops]
      (repeat' (first | ((refine guardK_split (fun hg => ?_) (fun hg => ?_)) <;> (try simp only [go_sem, simprocAttr, hg, hd, hk', wrapNat k (by omega)])) | ((refine condK_split (fun hg => ?_) (fun hg => ?_)) <;> (try simp only [go_sem, simprocAttr, hg, hd, hk', wrapNat k (by omega)])) | ((refine Or.inl ⟨by kernel_rfl, ?_⟩) <;> (try simp only [go_sem, simprocAttr, hd, hk', wrapNat k (by omega)])))) <;> (first | done | (rw [bad (by first | (simp_all [smallAt]; done) | (simp_all [smallAt]; omega))]) | exact ⟨t.ops.length - (k + 1), by omega, k + 1, _, reg_intro rfl rfl ⟨rfl, by omega, .inr hl4, next (by first | (simp_all [smallAt]; done) | (simp_all [smallAt]; omega))⟩⟩)
    · have hl4 : ¬ t.ops.length ≤ 40 := by have := of_decide_eq_false h4; omega
      simp only [go_sem, simprocAttr, hd, last hl4, h4]
  · have hi := of_decide_eq_false hc
    obtain rfl : k = t.ops.length := by omega
    simp only [go_sem, simprocAttr, hd, hc]
    by_cases h4 : t.ops.length ≤ 40
    · have : smallTx t = true := by
        simp only [smallTx, decide_eq_true h4, Bool.true_and, List.all_eq_true, List.mem_range]
        exact hp
      rw [this, decide_eq_true (by omega)]
    · rw [last h4, decide_eq_false (by omega)]
end Go.Ab
set_option linter.unusedSimpArgs false
namespace Go.Ab
open Go.Proofs


end Go.Ab
