/- Maps, as lists of keys and values. Conditions: none. -/
import Derived.Test.YtehcjnendfpbaaaGreatAbHs
set_option linter.unusedSimpArgs false
set_option linter.unusedSectionVars false
namespace Go.Ab
open Go.Proofs
theorem str_leq (a b : ByteArray) : strOp .leq a b = some (.bool (Op.bytesLess a.toList b.toList || decide (a = b))) := Eq.trans rfl rfl
attribute [go_sem] str_leq
theorem zero_lt1 (n : Nat) : (0 < n + 1) = True := by simp
theorem one_le1 (n : Nat) : (1 ≤ n + 1) = True := by simp
attribute [go_sem] zero_lt1 one_le1 List.getElem?_cons_zero List.length_cons List.drop_succ_cons List.drop_zero
section
variable {C : Tab} {α β : Type} [DecidableEq α]

/-- Keys of a type, as data. -/
structure KeyEnc (C : Tab) (k : TypeId) (kd : α → D) : Prop where
  inj : ∀ a b, kd a = kd b → a = b
  ok : ∀ a, plain C k (kd a)
theorem keyStr {k : TypeId} (hk : C.ty k = .str) : KeyEnc C k (fun s : ByteArray => D.lit (.string s)) := ⟨fun a b h => by cases h; rfl, fun a => by simp [plain, hk]⟩

def mapG (kd : α → D) (enc : β → D) (l : List (α × β)) (g : Nat) : D := .mp (l.map fun p => kd p.1) (l.map fun p => enc p.2) g
def getA : List (α × β) → α → Option β
  | [], _ => none
  | p :: r, a => if p.1 = a then some p.2 else getA r a
def putA : List (α × β) → α → β → List (α × β)
  | [], a, b => [(a, b)]
  | p :: r, a, b => if p.1 = a then (a, b) :: r else p :: putA r a b
def delA : List (α × β) → α → List (α × β)
  | [], _ => []
  | p :: r, a => if p.1 = a then r else p :: delA r a
def cntA (l : List (α × β)) (a : α) : Nat := if (getA l a).isSome then 0 else 1

variable {k e t : TypeId} {kd : α → D} {enc : β → D} {l : List (α × β)} {g b : Nat} {K : St → Prop} {dst : Option Tmp} {ts : List D} {bs : List (Sh × D)} {tk : List Bool}
theorem look_g (hk : KeyEnc C k kd) (l : List (α × β)) (a : α) : lookK (l.map fun p => kd p.1) (l.map fun p => enc p.2) (kd a) = (getA l a).map enc := by
  induction l with
  | nil => rfl
  | cons p r ih =>
    simp only [List.map_cons, lookK, getA]
    by_cases h : p.1 = a
    · rw [if_pos (by rw [h]), if_pos h]; rfl
    · rw [if_neg (fun e => h (hk.inj _ _ e)), if_neg h, ih]
theorem updK_g (hk : KeyEnc C k kd) (l : List (α × β)) (a : α) (v : β) : ((getA l a).isSome = true → updK (l.map fun p => kd p.1) (l.map fun p => enc p.2) (kd a) (enc v) = some ((putA l a v).map fun p => enc p.2)) ∧ ((getA l a).isSome = false → updK (l.map fun p => kd p.1) (l.map fun p => enc p.2) (kd a) (enc v) = none) := by
  induction l with
  | nil => exact ⟨fun h => by simp [getA] at h, fun _ => rfl⟩
  | cons p r ih =>
    by_cases h : p.1 = a
    · have e1 : getA (p :: r) a = some p.2 := if_pos h
      have e2 : putA (p :: r) a v = (a, v) :: r := if_pos h
      rw [e1, e2]
      exact ⟨fun _ => by simp only [List.map_cons, updK]; rw [if_pos (by rw [h])], fun h => by simp at h⟩
    · have e1 : getA (p :: r) a = getA r a := if_neg h
      have e2 : putA (p :: r) a v = p :: putA r a v := if_neg h
      have e3 : updK ((p :: r).map fun p => kd p.1) ((p :: r).map fun p => enc p.2) (kd a) (enc v) = (updK (r.map fun p => kd p.1) (r.map fun p => enc p.2) (kd a) (enc v)).map (enc p.2 :: ·) := if_neg (fun e => h (hk.inj _ _ e))
      rw [e1, e2, e3]
      exact ⟨fun h => by rw [ih.1 h]; rfl, fun h => by rw [ih.2 h]; rfl⟩
theorem put_keys {γ : Type} (kd : α → γ) (l : List (α × β)) (a : α) (v : β) (h : (getA l a).isSome = true) : (putA l a v).map (fun p => kd p.1) = l.map fun p => kd p.1 := by
  induction l with
  | nil => simp [getA] at h
  | cons p r ih =>
    simp only [getA, putA] at h ⊢
    by_cases hp : p.1 = a
    · rw [if_pos hp]; simp [hp]
    · rw [if_neg hp] at h ⊢; simp [ih h]
theorem put_new (l : List (α × β)) (a : α) (v : β) (h : (getA l a).isSome = false) : putA l a v = l ++ [(a, v)] := by
  induction l with
  | nil => rfl
  | cons p r ih =>
    simp only [getA, putA] at h ⊢
    by_cases hp : p.1 = a
    · rw [if_pos hp] at h; simp at h
    · rw [if_neg hp] at h ⊢; simp [ih h]
theorem upd_g (hk : KeyEnc C k kd) (l : List (α × β)) (a : α) (v : β) : updD (l.map fun p => kd p.1) (l.map fun p => enc p.2) g (kd a) (enc v) = mapG kd enc (putA l a v) (g + cntA l a) := by
  unfold updD
  cases h : (getA l a).isSome with
  | true => rw [(updK_g hk l a v).1 h]; simp only [mapG, cntA, h, if_true, Nat.add_zero, put_keys kd l a v h]
  | false => rw [(updK_g hk l a v).2 h]; simp only [Bool.false_eq_true, if_false, mapG, cntA, h, put_new l a v h, List.map_append, List.map_cons, List.map_nil]
theorem del_g (hk : KeyEnc C k kd) (l : List (α × β)) (a : α) : deleteD (l.map fun p => kd p.1) (l.map fun p => enc p.2) g (kd a) = mapG kd enc (delA l a) g := by
  have key : ∀ l : List (α × β), (delK (l.map fun p => kd p.1) (l.map fun p => enc p.2) (kd a) = some ((delA l a).map (fun p => kd p.1), (delA l a).map fun p => enc p.2)) ∨ (delK (l.map fun p => kd p.1) (l.map fun p => enc p.2) (kd a) = none ∧ delA l a = l) := by
    intro l
    induction l with
    | nil => exact .inr ⟨rfl, rfl⟩
    | cons p r ih =>
      simp only [List.map_cons, delK, delA]
      by_cases h : p.1 = a
      · rw [if_pos (by rw [h]), if_pos h]; exact .inl rfl
      · rw [if_neg (fun e => h (hk.inj _ _ e)), if_neg h]
        rcases ih with h1 | ⟨h1, h2⟩
        · rw [h1]; exact .inl rfl
        · rw [h1, h2]; exact .inr ⟨rfl, rfl⟩
  unfold deleteD
  rcases key l with h | ⟨h1, h2⟩
  · rw [h]; rfl
  · rw [h1, h2]; rfl
theorem keys_g (hk : KeyEnc C k kd) (l : List (α × β)) : ∀ q ∈ l.map (fun p => kd p.1), keyOk C k q := by
  intro q hq
  obtain ⟨p, _, rfl⟩ := List.mem_map.1 hq
  exact hk.ok _

theorem mapUpd_g (hk : KeyEnc C k kd) (ht : C.ty t = .map k e) (hb : bs[b]? = some (.obj 1, mapG kd enc l g)) (a : α) (v : β) {x y : D} (hx : x = kd a) (hy : nrm C e y = enc v)
    (h : K (St.put ⟨ts, ⟨bs.set b (.obj 1, mapG kd enc (putA l a v) (g + cntA l a)), tk⟩⟩ dst (.lit undef))) : mapUpdK C K dst ts bs tk t (.mref b) x y := by
  subst hx
  unfold mapUpdK
  rw [mapD_iff]
  refine ⟨k, e, b, _, _, g, ht, rfl, hb, keys_g hk l, by simp only [mapKey, ht]; exact hk.ok a, ?_⟩
  rw [hy, upd_g hk]; exact h
theorem mapDel_g (hk : KeyEnc C k kd) (ht : C.ty t = .map k e) (hb : bs[b]? = some (.obj 1, mapG kd enc l g)) (a : α) {x : D} (hx : x = kd a)
    (h : K (St.put ⟨ts, ⟨bs.set b (.obj 1, mapG kd enc (delA l a) g), tk⟩⟩ dst (.tup []))) : mapDelK C K dst ts bs tk t (.mref b) x := by
  subst hx
  unfold mapDelK
  rw [mapD_iff]
  refine ⟨k, e, b, _, _, g, ht, rfl, hb, keys_g hk l, by simp only [mapKey, ht]; exact hk.ok a, ?_⟩
  rw [del_g hk]; exact h
theorem mapRange_g (hk : KeyEnc C k kd) (ht : C.ty t = .map k e) (hb : bs[b]? = some (.obj 1, mapG kd enc l g))
    (h : K (St.put ⟨ts, ⟨bs ++ [(.obj 2, .it b g (([] : List α).map kd))], tk⟩⟩ dst (.ptr bs.length []))) : mapRangeK C K dst ts bs tk t (.mref b) := by
  unfold mapRangeK
  rw [mapD_iff]
  exact ⟨k, e, b, _, _, g, ht, rfl, hb, keys_g hk l, h⟩
theorem lookup_g (hk : KeyEnc C k kd) (ht : C.ty t = .map k e) (hb : bs[b]? = some (.obj 1, mapG kd enc l g)) (ok : Bool) (a : α) {x : D} (hx : x = kd a) :
    lookupD C ⟨bs, tk⟩ t ok (.mref b) x = some (match getA l a with | some v => packD ok (enc v) true | none => packD ok (C.zero e) false) := by
  subst hx
  have h2 := keys_g hk l
  unfold lookupD
  rw [ht]
  simp only [hb, mapG]
  rw [if_pos (show keyOk C k (kd a) from hk.ok a), if_pos h2, look_g hk]
  cases getA l a <;> rfl
theorem next_g (hk : KeyEnc C k kd) {i : Nat} {m : List α} (hb : bs[b]? = some (.obj 1, mapG kd enc l g)) (hi : bs[i]? = some (.obj 2, .it b g (m.map kd)))
    (h1 : ∀ a v, (a, v) ∈ l → a ∉ m → K (St.put ⟨ts, ⟨bs.set i (.obj 2, .it b g ((m ++ [a]).map kd)), tk⟩⟩ dst (.tup [.bool true, kd a, enc v])))
    (h2 : (∀ p ∈ l, p.1 ∈ m) → K (St.put ⟨ts, ⟨bs, tk⟩⟩ dst (.tup [.bool false]))) : nextK K dst ts bs tk (.ptr i []) := by
  refine ⟨i, b, g, m.map kd, _, _, rfl, hi, hb, ?_, ?_⟩
  · intro j q y hq hy hn
    rw [List.getElem?_map, Option.map_eq_some_iff] at hq hy
    obtain ⟨p, hj, rfl⟩ := hq
    obtain ⟨p', hj2, rfl⟩ := hy
    rw [hj] at hj2; cases hj2
    have := h1 p.1 p.2 (List.mem_of_getElem? hj) (fun hm => hn (List.mem_map.2 ⟨_, hm, rfl⟩))
    simpa using this
  · intro h
    refine h2 fun p hp => ?_
    have := h (kd p.1) (List.mem_map.2 ⟨p, hp, rfl⟩)
    obtain ⟨a, ha, e⟩ := List.mem_map.1 this
    rw [← hk.inj _ _ e]; exact ha
theorem entry_g (hk : KeyEnc C k kd) {i : Nat} {m : List α} {a : α} {v : β} (hb : bs[b]? = some (.obj 1, mapG kd enc l g)) (hi : bs[i]? = some (.obj 2, .it b g ((m ++ [a]).map kd))) (hv : getA l a = some v) :
    entryD ⟨bs, tk⟩ (.ptr i []) = some (.tup [kd a, enc v]) := by
  simp only [entryD, hi]
  simp only [hb, mapG, if_true, List.map_append, List.map_cons, List.map_nil, List.getLast?_append, List.getLast?_singleton, Option.some_or, Option.bind_some, look_g hk, hv, Option.map_some]
theorem len_g (hb : bs[b]? = some (.obj 1, mapG kd enc l g)) : lenM ⟨bs, tk⟩ (.mref b) = some (.int l.length) := by
  simp [lenM, hb, mapG]

theorem getA_mem {l : List (α × β)} {a : α} {v : β} (h : getA l a = some v) : (a, v) ∈ l := by
  induction l with
  | nil => simp [getA] at h
  | cons p r ih =>
    simp only [getA] at h
    by_cases hp : p.1 = a
    · rw [if_pos hp] at h; cases h; rw [← hp]; simp
    · rw [if_neg hp] at h; exact List.mem_cons_of_mem _ (ih h)
theorem getA_none {l : List (α × β)} {a : α} : getA l a = none ↔ ∀ p ∈ l, p.1 ≠ a := by
  induction l with
  | nil => simp [getA]
  | cons p r ih =>
    simp only [getA, List.mem_cons, forall_eq_or_imp]
    by_cases hp : p.1 = a
    · simp [hp]
    · simp [hp, ih]
theorem getA_of_mem {l : List (α × β)} {a : α} {v : β} (hn : (l.map (·.1)).Nodup) (h : (a, v) ∈ l) : getA l a = some v := by
  induction l with
  | nil => simp at h
  | cons p r ih =>
    simp only [List.map_cons, List.nodup_cons] at hn
    simp only [getA]
    rcases List.mem_cons.1 h with rfl | h
    · simp
    · rw [if_neg (fun e => hn.1 (by rw [e]; exact List.mem_map.2 ⟨_, h, rfl⟩)), ih hn.2 h]
theorem getA_put (l : List (α × β)) (a c : α) (v : β) : getA (putA l a v) c = if a = c then some v else getA l c := by
  induction l with
  | nil => rfl
  | cons p r ih =>
    simp only [putA]
    by_cases hp : p.1 = a
    · rw [if_pos hp]
      simp only [getA, hp]
      split <;> rfl
    · rw [if_neg hp]
      simp only [getA, ih]
      by_cases hc : p.1 = c
      · rw [if_pos hc, if_pos hc, if_neg (fun e => hp (by rw [hc, e]))]
      · rw [if_neg hc, if_neg hc]
theorem keys_put (l : List (α × β)) (a : α) (v : β) : (putA l a v).map (·.1) = if (getA l a).isSome then l.map (·.1) else l.map (·.1) ++ [a] := by
  cases h : (getA l a).isSome with
  | true => simp only [if_true]; exact put_keys id l a v h
  | false => rw [put_new l a v h]; simp
theorem nodup_put {l : List (α × β)} {a : α} {v : β} (hn : (l.map (·.1)).Nodup) : ((putA l a v).map (·.1)).Nodup := by
  rw [keys_put]
  split
  · exact hn
  · rename_i h
    have h2 : getA l a = none := by cases hg : getA l a with | none => rfl | some x => rw [hg] at h; simp at h
    rw [getA_none] at h2
    refine List.nodup_append.2 ⟨hn, by simp, ?_⟩
    intro x hx y hy e
    rw [List.mem_singleton] at hy
    obtain ⟨p, hp, rfl⟩ := List.mem_map.1 hx
    exact h2 p hp (by rw [e, hy])
theorem getA_del {l : List (α × β)} (hn : (l.map (·.1)).Nodup) (a c : α) : getA (delA l a) c = if a = c then none else getA l c := by
  induction l with
  | nil => simp [delA, getA]
  | cons p r ih =>
    simp only [List.map_cons, List.nodup_cons] at hn
    simp only [delA]
    by_cases hp : p.1 = a
    · rw [if_pos hp]
      by_cases hc : a = c
      · rw [if_pos hc, getA_none]
        intro q hq e
        exact hn.1 (by rw [hp, hc, ← e]; exact List.mem_map.2 ⟨q, hq, rfl⟩)
      · rw [if_neg hc]; simp only [getA]; rw [if_neg (fun e => hc (by rw [← hp, e]))]
    · rw [if_neg hp]
      simp only [getA, ih hn.2]
      by_cases hc : p.1 = c
      · rw [if_pos hc, if_pos hc, if_neg (fun e => hp (by rw [hc, e]))]
      · rw [if_neg hc, if_neg hc]
theorem del_sub (l : List (α × β)) (a : α) : (delA l a).Sublist l := by
  induction l with
  | nil => exact .slnil
  | cons p r ih =>
    simp only [delA]
    split
    · exact List.sublist_cons_self _ _
    · exact ih.cons_cons _

/-- A set. -/
def setG (kd : α → D) (s : List α) (g : Nat) : D := mapG kd (fun b : Bool => D.lit (.bool b)) (s.map fun a => (a, true)) g
theorem getA_set (s : List α) (a : α) : (a ∈ s ∧ getA (s.map fun a => (a, true)) a = some true) ∨ (a ∉ s ∧ getA (s.map fun a => (a, true)) a = none) := by
  induction s with
  | nil => simp [getA]
  | cons x r ih =>
    simp only [List.map_cons, getA, List.mem_cons]
    by_cases h : x = a
    · simp [h]
    · have h2 : ¬ a = x := fun e => h e.symm
      simp only [h, h2, false_or, if_false]; exact ih
theorem putA_set (s : List α) (a : α) : (a ∈ s → putA (s.map fun a => (a, true)) a true = s.map fun a => (a, true)) ∧ (a ∉ s → putA (s.map fun a => (a, true)) a true = (s ++ [a]).map fun a => (a, true)) := by
  induction s with
  | nil => simp [putA]
  | cons x r ih =>
    simp only [List.map_cons, putA, List.mem_cons]
    by_cases h : x = a
    · simp [h]
    · have h2 : ¬ a = x := fun e => h e.symm
      simp only [h, h2, false_or, if_false]
      exact ⟨fun hm => by rw [ih.1 hm], fun hm => by rw [ih.2 hm]; simp⟩
theorem setUpd_g (hk : KeyEnc C k kd) (ht : C.ty t = .map k e) {s : List α} (hb : bs[b]? = some (.obj 1, setG kd s g)) (a : α) {x : D} (hx : x = kd a)
    (h : ∀ s' g', ((a ∈ s ∧ s' = s ∧ g' = g) ∨ (a ∉ s ∧ s' = s ++ [a] ∧ g' = g + 1)) → K (St.put ⟨ts, ⟨bs.set b (.obj 1, setG kd s' g'), tk⟩⟩ dst (.lit undef))) : mapUpdK C K dst ts bs tk t (.mref b) x (.lit (.bool true)) := by
  refine mapUpd_g hk ht hb a true hx rfl ?_
  rcases getA_set s a with ⟨h1, h2⟩ | ⟨h1, h2⟩
  · have := h s g (.inl ⟨h1, rfl, rfl⟩)
    simpa only [setG, cntA, h2, Option.isSome_some, if_true, Nat.add_zero, (putA_set s a).1 h1] using this
  · have := h (s ++ [a]) (g + 1) (.inr ⟨h1, rfl, rfl⟩)
    simpa only [setG, cntA, h2, Option.isSome_none, Bool.false_eq_true, if_false, (putA_set s a).2 h1] using this
theorem setLook_g (hk : KeyEnc C k kd) (ht : C.ty t = .map k e) (hz : C.zero e = .lit (.bool false)) {s : List α} (hb : bs[b]? = some (.obj 1, setG kd s g)) (a : α) {x : D} (hx : x = kd a) :
    lookupD C ⟨bs, tk⟩ t false (.mref b) x = some (.lit (.bool (decide (a ∈ s)))) := by
  rw [lookup_g hk ht hb false a hx]
  rcases getA_set s a with ⟨h1, h2⟩ | ⟨h1, h2⟩
  · simp [h2, h1, packD]
  · simp [h2, h1, packD, hz]
end
end Go.Ab
set_option linter.unusedSimpArgs false
namespace Go.Ab
open Go.Proofs

theorem pureL_cat {a b : List D} (h1 : pureL a) (h2 : pureL b) : pureL (a ++ b) := by
  induction a with
  | nil => exact h2
  | cons x r ih => exact ⟨h1.1, ih h1.2⟩
theorem pureL_rep (n : Nat) (d : D) (h : pureD d) : pureL (List.replicate n d) := by
  induction n with
  | zero => trivial
  | succ n ih => exact ⟨h, ih⟩
theorem pureL_tk {a : List D} (n : Nat) (h : pureL a) : pureL (a.take n) := by
  induction a generalizing n with
  | nil => simpa using h
  | cons x r ih => cases n with
    | zero => trivial
    | succ n => exact ⟨h.1, ih n h.2⟩
theorem pureL_dr {a : List D} (n : Nat) (h : pureL a) : pureL (a.drop n) := by
  induction a generalizing n with
  | nil => simpa using h
  | cons x r ih => cases n with
    | zero => exact h
    | succ n => exact ih n h.2
theorem pureL_ov {L m : List D} {o : Nat} (h : pureL L) (hm : pureL m) : pureL (overL L o m) := pureL_cat (pureL_cat (pureL_tk _ h) hm) (pureL_dr _ h)
theorem pureL_all {l : List D} (h : ∀ d ∈ l, pureD d) : pureL l := by
  induction l with
  | nil => trivial
  | cons x r ih => exact ⟨h x (by simp), ih fun d hd => h d (by simp [hd])⟩

/-- What a slice's cells hold, behind the boxes that were there. -/
def OutX (e : TypeId) (k : Nat) (d : D) (ex : List (Sh × D)) (l : List D) : Prop :=
  (∀ N s L, (Sh.arr N s, D.agg L) ∈ ex → pureL L) ∧ pureL l ∧ ((d = .lst e [] .full ∧ l = []) ∨ ∃ j N L, d = .sl e (k + j) 0 l.length N ∧ ex[j]? = some (.arr N (CT.sh e), .agg L) ∧ L.length = N ∧ l.length ≤ N ∧ N ≤ maxLen ∧ L.take l.length = l)

theorem outX_nil (e : TypeId) (k : Nat) : OutX e k (.lst e [] .full) [] [] := ⟨by simp, trivial, .inl ⟨rfl, rfl⟩⟩
theorem outX_push {e : TypeId} {k : Nat} {d : D} {ex : List (Sh × D)} {l : List D} (ho : OutX e k d ex l) (ys : List (Sh × D)) (hy : ∀ N s L, (Sh.arr N s, D.agg L) ∈ ys → pureL L) : OutX e k d (ex ++ ys) l := by
  obtain ⟨h1, hp, h2⟩ := ho
  refine ⟨fun N s L h => (List.mem_append.1 h).elim (h1 N s L) (hy N s L), hp, ?_⟩
  rcases h2 with h2 | ⟨j, N, L, h3, h4, h5⟩
  · exact .inl h2
  · exact .inr ⟨j, N, L, h3, by rw [List.getElem?_append_left (List.getElem?_eq_some_iff.1 h4).1]; exact h4, h5⟩
theorem outX_nrm {e : TypeId} {k : Nat} {d : D} {ex : List (Sh × D)} {l : List D} (ho : OutX e k d ex l) (t : TypeId) : nrm CT t d = d := by
  rcases ho.2.2 with ⟨rfl, _⟩ | ⟨j, N, L, rfl, _⟩
  · simp only [nrm_lst]
  · simp only [nrm_sl]
theorem outX_leaf {e : TypeId} {k : Nat} {d : D} {ex : List (Sh × D)} {l : List D} (ho : OutX e k d ex l) : hasSh .leaf d := by
  rcases ho.2.2 with ⟨rfl, _⟩ | ⟨j, N, L, rfl, _⟩ <;> simp [hasSh, D.isLeaf]
theorem outX_row {e : TypeId} {k : Nat} {d : D} {base ex : List (Sh × D)} {tk : List Bool} {l : List D} (ho : OutX e k d ex l) (hk : base.length = k) : rowOf ⟨base ++ ex, tk⟩ d = some (e, l) := by
  rcases ho.2.2 with ⟨rfl, rfl⟩ | ⟨j, N, L, rfl, hj, _, _, _, hl⟩
  · rfl
  · have : (base ++ ex)[k + j]? = some (.arr N (CT.sh e), .agg L) := by rw [List.getElem?_append_right (by omega), hk, Nat.add_sub_cancel_left]; exact hj
    simp only [rowOf, this, List.drop_zero, hl]
theorem outX_len {e : TypeId} {k : Nat} {d : D} {ex : List (Sh × D)} {l : List D} (ho : OutX e k d ex l) {t : TypeId} (ht : CT.ty t = .slice e) (h : Heap) (ts : List TypeId) : builtinD CT h .len (t :: ts) [d] = some (.int l.length) := by
  rcases ho.2.2 with ⟨rfl, rfl⟩ | ⟨j, N, L, rfl, hj, _, _, _, hl⟩
  · simp [builtinD, nrm, lenD, ht]
  · simp [builtinD, nrm, lenD, ht]
/-- At a function's end: what was put into it. -/
theorem outX_melt {e : TypeId} {k : Nat} {d : D} {base ex : List (Sh × D)} {l : List D} (ho : OutX e k d ex l) (hk : base.length = k) {q : Nat} (hq : q ≤ k) : meltD (base ++ ex) q d = .lst e l .no := by
  rcases ho.2.2 with ⟨rfl, rfl⟩ | ⟨j, N, L, rfl, hj, _, _, _, hl⟩
  · rfl
  · have : (base ++ ex)[k + j]? = some (.arr N (CT.sh e), .agg L) := by rw [List.getElem?_append_right (by omega), hk, Nat.add_sub_cancel_left]; exact hj
    simp only [meltD]
    rw [if_pos (by omega), this]
    simp only [List.drop_zero, hl]

/-- One more element comes. -/
theorem outX_app {e : TypeId} {k : Nat} {d : D} {base ex : List (Sh × D)} {l : List D} {x : D} {K : St → Prop} {dst : Option Tmp} {ts : List D} {tk : List Bool} (t' : Tok) (ho : OutX e k d ex l) (hk : base.length = k) (hl : l.length < 1000000000)
    (hby : 0 < CT.bytes e ∧ CT.bytes e ≤ 100000) (hx : pureD x) (hz : pureD (CT.zero e))
    (h : ∀ d' ex', OutX e k d' ex' (l ++ [x]) → ex.length ≤ ex'.length → K (St.put ⟨ts, ⟨base ++ ex', tk⟩⟩ dst d')) : appK CT true K dst ts (base ++ ex) tk (.slice e) d (.lst e [x] t') := by
  have hrow := outX_row (tk := tk) ho hk
  obtain ⟨hpu, hpl, ho⟩ := ho
  have hbb : (l.length + 1) * CT.bytes e ≤ 140737488355328 := by
    calc (l.length + 1) * CT.bytes e ≤ 1000000001 * 100000 := Nat.mul_le_mul (by omega) hby.2
      _ ≤ _ := by omega
  refine appK_mut K dst ts e _ tk _ _ ⟨l, [x], hrow, rfl, hby.1, by simpa using hbb, by rcases ho with ⟨rfl, _⟩ | ⟨j, N, L, rfl, _⟩ <;> trivial, (by intro h; cases h), ?_, ?_⟩
  · intro b1 lo1 n1 c1 N1 s1 L1 h1 _ h2 h3
    rcases ho with ⟨rfl, rfl⟩ | ⟨j, N, L, rfl, hj, hL, hlN, hN, htk⟩
    · cases h1
    · have hjl : j < ex.length := (List.getElem?_eq_some_iff.1 hj).1
      have hbx : (base ++ ex)[k + j]? = some (.arr N (CT.sh e), .agg L) := by rw [List.getElem?_append_right (by omega), hk, Nat.add_sub_cancel_left]; exact hj
      have hset : ∀ y, (base ++ ex).set (k + j) y = base ++ ex.set j y := fun y => by rw [List.set_append_right _ _ (by omega), hk, Nat.add_sub_cancel_left]
      have hpL : pureL L := hpu _ _ _ (List.mem_of_getElem? hj)
      simp only [D.sl.injEq] at h1
      obtain ⟨_, rfl, rfl, rfl, rfl⟩ := h1
      simp only at h3
      rw [hbx] at h3
      simp only [Option.some.injEq, Prod.mk.injEq, Sh.arr.injEq, D.agg.injEq] at h3
      obtain ⟨⟨rfl, rfl⟩, rfl⟩ := h3
      have e1 : l.length + 1 ≤ N := by simpa using h2
      have e2 : overL L (0 + l.length) [x] = overL L l.length [x] := by rw [Nat.zero_add]
      rw [e2]
      have := h (.sl e (k + j) 0 (l ++ [x]).length N) (ex.set j (.arr N (CT.sh e), .agg (overL L l.length [x]))) ⟨?_, pureL_cat hpl ⟨hx, trivial⟩, .inr ⟨j, N, _, rfl, List.getElem?_set_self hjl, by simp [overL]; omega, by simpa using e1, hN, ?_⟩⟩ (by simp)
      · simpa [hset] using this
      · intro N' s' L' hm
        rcases List.mem_or_eq_of_mem_set hm with h' | h'
        · exact hpu _ _ _ h'
        · simp only [Prod.mk.injEq, D.agg.injEq] at h'
          obtain ⟨_, rfl⟩ := h'
          exact pureL_ov hpL ⟨hx, trivial⟩
      · have := overL_take (L := L) (m := [x]) (n := l.length) (by simp; omega)
        simp only [List.length_singleton] at this
        rw [List.length_append, List.length_singleton, this, htk]
  · intro _ _ N' h2 h3
    simp only [List.length_singleton] at h2 ⊢
    have := h (.sl e (k + ex.length) 0 (l ++ [x]).length N') (ex ++ [(.arr N' (CT.sh e), .agg (l ++ [x] ++ List.replicate (N' - (l.length + 1)) (CT.zero e)))]) ⟨?_, pureL_cat hpl ⟨hx, trivial⟩, .inr ⟨ex.length, N', l ++ [x] ++ List.replicate (N' - (l.length + 1)) (CT.zero e), rfl, by simp, by simp at h2 ⊢; omega, by simpa using h2, h3, by rw [List.take_append_of_le_length (by simp), List.take_of_length_le (by simp)]⟩⟩ (by simp)
    · subst hk
      simpa [Heap.var] using this
    · intro N' s' L' hm
      rcases List.mem_append.1 hm with h' | h'
      · exact hpu _ _ _ h'
      · simp only [List.mem_singleton, Prod.mk.injEq, D.agg.injEq] at h'
        obtain ⟨_, rfl⟩ := h'
        exact pureL_cat (pureL_cat hpl ⟨hx, trivial⟩) (pureL_rep _ _ hz)

/-- A slice whose token is of this call's own. -/
def liveH (u : Tok) (tk z : List Bool) : Prop := live u (tk ++ z) ∧ match u with | .own id => tk.length ≤ id | _ => True
theorem appK_liveH {C : Tab} {mu : Bool} {K : St → Prop} {dst : Option Tmp} {ts : List D} (e : TypeId) (l m : List D) (t t' : Tok) (bs : List (Sh × D)) (tk z : List Bool) (ha : liveH t tk z) (hm : m ≠ []) (hb : 0 < C.bytes e) (hl : (l.length + m.length) * C.bytes e ≤ 140737488355328)
    (hk : ∀ u z', liveH u tk z' → K (St.put ⟨ts, ⟨bs, tk ++ z'⟩⟩ dst (.lst e (l ++ m) u))) : appK C mu K dst ts bs (tk ++ z) (.slice e) (.lst e l t) (.lst e m t') := by
  cases t with
  | no => exact ha.1.elim
  | full => exact appK_full _ _ _ _ _ _ _ _ _ hm hb hl (by rw [List.append_assoc]; exact hk _ _ ⟨by simp [live], by simp⟩)
  | own id =>
    have hid := ha.2
    have hs : (tk ++ z).set id false = tk ++ z.set (id - tk.length) false := by rw [List.set_append_right _ _ hid]
    exact appK_own _ _ _ _ _ _ _ _ _ _ hm hb hl ha.1 (by
      rw [hs, List.append_assoc]
      have h1 := hk (.own (tk ++ z).length) (z.set (id - tk.length) false ++ [true]) ⟨by simp [live], by simp⟩
      exact h1)
end Go.Ab
