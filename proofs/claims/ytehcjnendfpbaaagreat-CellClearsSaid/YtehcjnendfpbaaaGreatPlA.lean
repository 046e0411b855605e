/- Lists that rise, of marks and of texts, in plain words. Conditions: none. -/
import Derived.Test.YtehcjnendfpbaaaGreatSoB
set_option linter.unusedSimpArgs false
namespace Go.Ab
open Go.Proofs

/-- Put ahead of the first such one. -/
def insB {α : Type} (g : α → Bool) (x : α) : List α → List α
  | [] => [x]
  | y :: r => if g y then x :: y :: r else y :: insB g x r
section
variable {α : Type} {g : α → Bool} {x y : α}
theorem insB_len (g : α → Bool) (x : α) : ∀ l : List α, (insB g x l).length = l.length + 1
  | [] => rfl
  | y :: r => by unfold insB; split <;> simp [insB_len g x r]
theorem take_snocG [Inhabited α] (l : List α) (k : Nat) (hk : k < l.length) : l.take (k + 1) = l.take k ++ [l.getD k default] := by
  rw [List.take_add_one, List.getElem?_eq_getElem hk, List.getD_eq_getElem?_getD, List.getElem?_eq_getElem hk]; rfl
end
def markLt (a b : MarkR) : Bool := decide (a.p < b.p) || (decide (a.p = b.p) && (decide (a.s < b.s) || (decide (a.s = b.s) && decide (a.i < b.i))))
theorem any_at {α : Type} [Inhabited α] {p : α → Bool} {l : List α} {k : Nat} (hk : k < l.length) (h : p (l.getD k default) = true) : l.any p = true :=
  List.any_eq_true.2 ⟨_, by rw [List.getD_eq_getElem?_getD, List.getElem?_eq_getElem hk]; exact List.getElem_mem hk, h⟩
theorem any_no {α : Type} [Inhabited α] {p : α → Bool} {l : List α} (h : ∀ q, q < l.length → p (l.getD q default) = false) : l.any p = false := by
  rw [List.any_eq_false]
  intro x hx
  obtain ⟨i, hi, rfl⟩ := List.getElem_of_mem hx
  have := h i hi
  rw [List.getD_eq_getElem?_getD, List.getElem?_eq_getElem hi] at this
  simpa using this
theorem next_bad {k : Nat} {f : Nat → Bool} (hp : ∀ p, p < k → f p = false) (h : f k = false) : ∀ p, p < k + 1 → f p = false := fun p hpk => by
  by_cases e : p = k
  · subst e; exact h
  · exact hp p (by omega)
theorem eqB_mk (a1 a2 a3 b1 b2 b3 : Int) : eqB (.agg [.agg [.lit (.int .i64 a1), .lit (.int .i64 a2)], .lit (.int .i64 a3)]) (.agg [.agg [.lit (.int .i64 b1), .lit (.int .i64 b2)], .lit (.int .i64 b3)]) = decide ((⟨a1, a2, a3⟩ : MarkR) = ⟨b1, b2, b3⟩) := by
  refine eqB_eq ?_
  simp [MarkR.mk.injEq, and_assoc]
theorem decM (a b : MarkR) : (decide (a.p = b.p) && (decide (a.s = b.s) && decide (a.i = b.i))) = decide (a = b) := by
  rw [Bool.eq_iff_iff]
  cases a; cases b
  simp [MarkR.mk.injEq]
theorem insB_insAt {α : Type} [Inhabited α] {g : α → Bool} {x : α} : ∀ {l : List α} {k : Nat}, k ≤ l.length → (∀ q, q < k → g (l.getD q default) = false) → (k < l.length → g (l.getD k default) = true) → insB g x l = insAt l k x
  | [], k, hk, _, _ => by
    obtain rfl : k = 0 := by simpa using hk
    rfl
  | y :: r, 0, _, _, h => by
    have : g y = true := by simpa using h (by simp)
    simp [insB, insAt, this]
  | y :: r, k + 1, hk, h1, h2 => by
    have hy : g y = false := by simpa using h1 0 (by omega)
    have ih := insB_insAt (g := g) (x := x) (l := r) (k := k) (by simpa using hk) (fun q hq => by simpa using h1 (q + 1) (by omega)) (fun hq => by simpa using h2 (by simpa using hq))
    simp [insB, insAt, hy, ih]
theorem markLt_asymm {a b : MarkR} (h : markLt a b = true) : markLt b a = false := by
  cases hb : markLt b a with
  | false => rfl
  | true =>
    simp only [markLt, Bool.or_eq_true, Bool.and_eq_true, decide_eq_true_eq] at h hb
    omega
theorem markLt_total {a b : MarkR} (h : markLt a b = false) (hne : a ≠ b) : markLt b a = true := by
  cases hb : markLt b a with
  | true => rfl
  | false =>
    exfalso
    apply hne
    cases a; cases b
    simp only [markLt, Bool.or_eq_false_iff, Bool.and_eq_false_iff, decide_eq_false_iff_not] at h hb
    simp only [MarkR.mk.injEq]
    omega
def bLt (a b : ByteArray) : Bool := Op.bytesLess a.toList b.toList
def goesB (x : ByteArray) : ByteArray → Bool := fun y => bLt x y
def sameB (x : ByteArray) : ByteArray → Bool := fun y => decide (y = x)
def riseL (l : List ByteArray) (x : ByteArray) : List ByteArray := if l.any (sameB x) then l else insB (goesB x) x l
instance : Inhabited ByteArray := ⟨⟨#[]⟩⟩
theorem txt_snoc (l : List ByteArray) (x : ByteArray) : (l.map fun s => D.lit (.string s)) ++ [.lit (.string x)] = (l ++ [x]).map fun s => .lit (.string s) := by simp
def risesL (l : List ByteArray) : List ByteArray := l.foldl riseL []
def addT (o : List ByteArray) (x : ByteArray) : List ByteArray := if o.any (sameB x) then o else o ++ [x]
def dedupT (l : List ByteArray) : List ByteArray := l.foldl addT []
theorem dedup_len (l : List ByteArray) : (dedupT l).length ≤ l.length := by
  have : ∀ (l o : List ByteArray), (l.foldl addT o).length ≤ o.length + l.length := by
    intro l
    induction l with
    | nil => intro o; simp
    | cons x r ih =>
      intro o
      have h1 := ih (addT o x)
      have h2 : (addT o x).length ≤ o.length + 1 := by unfold addT; split <;> simp
      simp only [List.foldl_cons, List.length_cons]; omega
  have h := this l []
  simp only [List.length_nil, Nat.zero_add] at h
  exact h
def bytesOf (l : List ByteArray) : List (List UInt8) := l.map fun x => x.data.toList
def sortT (l : List ByteArray) : List ByteArray := (sortB (bytesOf l)).map fun n => ⟨n.toArray⟩
theorem enc_bytes (l : List ByteArray) : (bytesOf l).map (fun n => D.lit (encStr n)) = l.map fun x => D.lit (.string x) := by
  simp only [bytesOf, List.map_map]
  refine List.map_congr_left fun x _ => ?_
  cases x with | mk a => simp [encStr]
theorem enc_sorted (l : List ByteArray) : (sortB (bytesOf l)).map (fun n => D.lit (encStr n)) = (sortT l).map fun x => D.lit (.string x) := by
  simp only [sortT, List.map_map]
  refine List.map_congr_left fun n _ => ?_
  simp [encStr]
theorem mem_same (o : List ByteArray) (x : ByteArray) : (x ∈ o) ↔ o.any (sameB x) = true := by
  simp [sameB]
abbrev kS : ByteArray → D := fun x => .lit (.string x)
theorem less_lt : ∀ (x y : List UInt8), Op.bytesLess x y = decide (x < y)
  | [], [] => by simp [Op.bytesLess]
  | _ :: _, [] => by simp [Op.bytesLess]
  | [], _ :: _ => by simp [Op.bytesLess]
  | a :: x, b :: y => by
    rw [Op.bytesLess, less_lt x y]
    simp only [List.cons_lt_cons_iff]
    by_cases h1 : a < b <;> by_cases h2 : a = b <;> by_cases h3 : x < y <;> simp [h1, h2, h3]
theorem bLt_iff (a b : ByteArray) : bLt a b = true ↔ a.data.toList < b.data.toList := by
  rw [bLt, less_lt, Lib.toList_data, Lib.toList_data]; simp
theorem txt_inj {a b : ByteArray} (h : a.data.toList = b.data.toList) : a = b := by
  cases a with | mk x => cases b with | mk y =>
  have : x = y := by rw [← Array.toList_inj]; exact h
  rw [this]
theorem lt_tr {a b c : List UInt8} (h : a < b) (k : b < c) : a < c := by
  have h1 : a ≤ c := List.le_trans (List.le_of_lt h) (List.le_of_lt k)
  rcases List.le_total c a with h2 | h2
  · exact absurd (List.le_antisymm (List.le_of_lt h) (List.le_trans (List.le_of_lt k) h2)) (fun e => by subst e; exact List.lt_irrefl _ h)
  · rw [← List.not_le]
    intro h3
    have e := List.le_antisymm h3 h1
    subst e
    have e2 := List.le_antisymm (List.le_of_lt h) (List.le_of_lt k)
    subst e2
    exact List.lt_irrefl _ h
theorem bLt_trans {a b c : ByteArray} (h : bLt a b = true) (k : bLt b c = true) : bLt a c = true := by
  rw [bLt_iff] at *; exact lt_tr h k
theorem bLt_irr (a : ByteArray) : bLt a a = false := by
  cases h : bLt a a with
  | false => rfl
  | true => rw [bLt_iff] at h; exact absurd h (List.lt_irrefl _)
theorem bLt_total {a b : ByteArray} (h : bLt a b = false) (hne : a ≠ b) : bLt b a = true := by
  rw [bLt_iff]
  have h1 : ¬ a.data.toList < b.data.toList := fun e => by rw [(bLt_iff a b).2 e] at h; cases h
  rw [List.not_lt] at h1
  rw [← List.not_le]
  intro h2
  exact hne (txt_inj (List.le_antisymm h2 h1))
theorem mem_insB {α : Type} {g : α → Bool} {x z : α} : ∀ {l : List α}, z ∈ insB g x l ↔ z = x ∨ z ∈ l
  | [] => by simp [insB]
  | y :: r => by
    unfold insB
    split
    · simp
    · simp only [List.mem_cons, mem_insB (l := r)]
      constructor <;> (rintro (h | h | h) <;> simp [h])
def Rising (l : List ByteArray) : Prop := l.Pairwise fun a b => bLt a b = true
theorem insB_rising : ∀ {l : List ByteArray} {x : ByteArray}, Rising l → x ∉ l → Rising (insB (goesB x) x l)
  | [], x, _, _ => by simp [insB, Rising]
  | y :: r, x, h, hn => by
    simp only [Rising, List.pairwise_cons] at h
    unfold insB
    split
    · rename_i hg
      simp only [Rising, List.pairwise_cons, List.mem_cons]
      refine ⟨?_, h⟩
      rintro z (rfl | hz)
      · exact hg
      · exact bLt_trans hg (h.1 z hz)
    · rename_i hg
      have hyx : bLt y x = true := bLt_total (by simpa [goesB] using hg) (fun e => hn (by simp [e]))
      simp only [Rising, List.pairwise_cons]
      refine ⟨?_, insB_rising h.2 fun e => hn (by simp [e])⟩
      intro z hz
      rcases mem_insB.1 hz with rfl | hz
      · exact hyx
      · exact h.1 z hz
theorem mem_rise {l : List ByteArray} {x z : ByteArray} : z ∈ riseL l x ↔ z = x ∨ z ∈ l := by
  unfold riseL
  split
  · rename_i h
    rw [← mem_same] at h
    constructor
    · exact .inr
    · rintro (rfl | h2)
      · exact h
      · exact h2
  · exact mem_insB
theorem rise_rising {l : List ByteArray} {x : ByteArray} (h : Rising l) : Rising (riseL l x) := by
  unfold riseL
  split
  · exact h
  · rename_i hn
    exact insB_rising h fun e => hn ((mem_same _ _).1 e)
theorem rises_spec : ∀ (l o : List ByteArray), Rising o → Rising (l.foldl riseL o) ∧ ∀ z, z ∈ l.foldl riseL o ↔ z ∈ o ∨ z ∈ l
  | [], o, h => ⟨h, by simp⟩
  | x :: r, o, h => by
    obtain ⟨h1, h2⟩ := rises_spec r (riseL o x) (rise_rising h)
    refine ⟨h1, fun z => ?_⟩
    rw [List.foldl_cons, h2, mem_rise, List.mem_cons]
    constructor
    · rintro ((h | h) | h) <;> simp [h]
    · rintro (h | h | h) <;> simp [h]
theorem dedup_spec : ∀ (l o : List ByteArray), o.Nodup → (l.foldl addT o).Nodup ∧ ∀ z, z ∈ l.foldl addT o ↔ z ∈ o ∨ z ∈ l
  | [], o, h => ⟨h, by simp⟩
  | x :: r, o, h => by
    have ha : (addT o x).Nodup ∧ ∀ z, z ∈ addT o x ↔ z ∈ o ∨ z = x := by
      unfold addT
      split
      · rename_i hm
        rw [← mem_same] at hm
        exact ⟨h, fun z => ⟨.inl, by rintro (h | rfl); exact h; exact hm⟩⟩
      · rename_i hm
        rw [← mem_same] at hm
        refine ⟨List.nodup_append.2 ⟨h, by simp, ?_⟩, fun z => by simp⟩
        intro a ha b hb e
        rw [List.mem_singleton] at hb
        subst hb; subst e; exact hm ha
    obtain ⟨h1, h2⟩ := dedup_spec r (addT o x) ha.1
    refine ⟨h1, fun z => ?_⟩
    rw [List.foldl_cons, h2, ha.2, List.mem_cons]
    constructor
    · rintro ((h | h) | h) <;> simp [h]
    · rintro (h | h | h) <;> simp [h]
theorem sortT_spec {l : List ByteArray} (hn : l.Nodup) : Rising (sortT l) ∧ ∀ z, z ∈ sortT l ↔ z ∈ l := by
  have hp : (sortB (bytesOf l)).Perm (bytesOf l) := List.mergeSort_perm _ _
  have hnb : (bytesOf l).Nodup := by
    rw [bytesOf, List.Nodup, List.pairwise_map]
    exact hn.imp fun h e => h (txt_inj e)
  have hs : (sortB (bytesOf l)).Pairwise fun a b => a < b := by
    have h1 := List.pairwise_mergeSort (le := fun x y : List UInt8 => decide (x ≤ y)) (fun a b c => by simpa using List.le_trans) (fun a b => by simpa using List.le_total a b) (bytesOf l)
    have h2 : (sortB (bytesOf l)).Nodup := hp.nodup_iff.2 hnb
    refine (h1.and h2).imp ?_
    rintro a b ⟨h3, h4⟩
    simp only [decide_eq_true_eq] at h3
    rw [← List.not_le]
    intro h5
    exact h4 (List.le_antisymm h3 h5)
  refine ⟨?_, fun z => ?_⟩
  · rw [Rising, sortT, List.pairwise_map]
    refine hs.imp fun h => ?_
    rw [bLt_iff]; simpa using h
  · simp only [sortT, List.mem_map]
    constructor
    · rintro ⟨n, hn1, rfl⟩
      have := hp.mem_iff.1 hn1
      simp only [bytesOf, List.mem_map] at this
      obtain ⟨x, hx, rfl⟩ := this
      cases x with | mk a => simpa using hx
    · intro hz
      refine ⟨z.data.toList, hp.mem_iff.2 (List.mem_map.2 ⟨z, hz, rfl⟩), ?_⟩
      cases z with | mk a => simp
theorem rising_ext {l m : List ByteArray} (h1 : Rising l) (h2 : Rising m) (h : ∀ z, z ∈ l ↔ z ∈ m) : l = m := by
  have nd : ∀ {l : List ByteArray}, Rising l → l.Nodup := fun h => h.imp fun {a b} hab e => by subst e; rw [bLt_irr] at hab; cases hab
  refine List.Perm.eq_of_pairwise (le := fun a b => bLt a b = true) (fun a b _ _ h3 h4 => ?_) h1 h2 ((List.perm_ext_iff_of_nodup (nd h1) (nd h2)).2 h)
  have := bLt_trans h3 h4
  rw [bLt_irr] at this; cases this
theorem sort_rises (l : List ByteArray) : sortT (dedupT l) = risesL l := by
  obtain ⟨h1, h2⟩ := dedup_spec l [] (by simp)
  obtain ⟨h3, h4⟩ := sortT_spec (l := dedupT l) h1
  obtain ⟨h5, h6⟩ := rises_spec l [] (by simp [Rising])
  refine rising_ext h3 h5 fun z => ?_
  rw [h4]; exact (h2 z).trans (h6 z).symm
theorem markLt_trans {a b c : MarkR} (h : markLt a b = true) (k : markLt b c = true) : markLt a c = true := by
  simp only [markLt, Bool.or_eq_true, Bool.and_eq_true, decide_eq_true_eq] at *
  omega
theorem markLt_irr (a : MarkR) : markLt a a = false := by simp [markLt]
theorem pairwise_of_next {α : Type} [Inhabited α] {R : α → α → Prop} (tr : ∀ a b c, R a b → R b c → R a c) : ∀ {l : List α}, (∀ k, 0 < k → k < l.length → R (l.getD (k - 1) default) (l.getD k default)) → l.Pairwise R
  | [], _ => .nil
  | [x], _ => by simp
  | x :: y :: r, h => by
    have h1 : R x y := by have := h 1 (by omega) (by simp); simpa using this
    have h2 : (y :: r).Pairwise R := pairwise_of_next tr fun k hk hl => by
      have := h (k + 1) (by omega) (by simpa using hl)
      have e : (x :: y :: r).getD (k + 1 - 1) default = (y :: r).getD (k - 1) default := by
        obtain ⟨j, rfl⟩ : ∃ j, k = j + 1 := ⟨k - 1, by omega⟩
        simp
      rw [e] at this
      simpa using this
    refine List.pairwise_cons.2 ⟨?_, h2⟩
    intro z hz
    rcases List.mem_cons.1 hz with rfl | hz
    · exact h1
    · exact tr _ _ _ h1 ((List.pairwise_cons.1 h2).1 z hz)
theorem next_of_pairwise {α : Type} [Inhabited α] {R : α → α → Prop} {l : List α} (h : l.Pairwise R) {k : Nat} (hk : 0 < k) (hl : k < l.length) : R (l.getD (k - 1) default) (l.getD k default) := by
  have := List.pairwise_iff_getElem.1 h (k - 1) k (by omega) hl (by omega)
  rw [List.getD_eq_getElem?_getD, List.getD_eq_getElem?_getD, List.getElem?_eq_getElem hl, List.getElem?_eq_getElem (by omega)]
  exact this
end Go.Ab
