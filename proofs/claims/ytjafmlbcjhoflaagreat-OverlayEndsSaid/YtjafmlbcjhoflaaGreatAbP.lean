/- Sets of numbers, as maps. Conditions: none. -/
import Derived.Test.YtjafmlbcjhoflaaGreatAbT
set_option linter.unusedSimpArgs false
namespace Go.Ab
open Go.Proofs
section
variable {C : Tab}

/-- A set of numbers, in the order in which they came. -/
def setD (s : List Int) (g : Nat) : D := .mp (s.map fun n => .lit (.int .i64 n)) (s.map fun _ => .lit (.bool true)) g
theorem keys_ok {k : TypeId} (hk : C.ty k = .int .i64) (s : List Int) : ∀ q ∈ s.map (fun n => D.lit (.int .i64 n)), keyOk C k q := by
  intro q hq
  obtain ⟨n, _, rfl⟩ := List.mem_map.1 hq
  simp [keyOk, plain, hk]
theorem look_set (s : List Int) (n : Int) : lookK (s.map fun n => D.lit (.int .i64 n)) (s.map fun _ => D.lit (.bool true)) (.lit (.int .i64 n)) = if n ∈ s then some (.lit (.bool true)) else none := by
  induction s with
  | nil => simp [lookK]
  | cons x r ih =>
    simp only [List.map_cons, lookK, D.lit.injEq, Value.int.injEq, true_and, ih, List.mem_cons]
    by_cases h : x = n
    · simp [h]
    · have h2 : ¬ n = x := fun e => h e.symm
      simp [h, h2]
theorem upd_set (s : List Int) (g : Nat) (n : Int) : updD (s.map fun n => D.lit (.int .i64 n)) (s.map fun _ => D.lit (.bool true)) g (.lit (.int .i64 n)) (.lit (.bool true)) = if n ∈ s then setD s g else setD (s ++ [n]) (g + 1) := by
  have key : updK (s.map fun n => D.lit (.int .i64 n)) (s.map fun _ => D.lit (.bool true)) (.lit (.int .i64 n)) (.lit (.bool true)) = if n ∈ s then some (s.map fun _ => D.lit (.bool true)) else none := by
    induction s with
    | nil => simp [updK]
    | cons x r ih =>
      simp only [List.map_cons, updK, D.lit.injEq, Value.int.injEq, true_and, ih, List.mem_cons]
      by_cases h : x = n
      · simp [h]
      · have h2 : ¬ n = x := fun e => h e.symm
        by_cases hm : n ∈ r <;> simp [h, h2, hm]
  unfold updD
  rw [key]
  by_cases h : n ∈ s <;> simp [h, setD]
theorem del_set (s : List Int) (g : Nat) (n : Int) : deleteD (s.map fun n => D.lit (.int .i64 n)) (s.map fun _ => D.lit (.bool true)) g (.lit (.int .i64 n)) = setD (s.erase n) g := by
  have key : delK (s.map fun n => D.lit (.int .i64 n)) (s.map fun _ => D.lit (.bool true)) (.lit (.int .i64 n)) = if n ∈ s then some ((s.erase n).map (fun n => D.lit (.int .i64 n)), (s.erase n).map fun _ => D.lit (.bool true)) else none := by
    induction s with
    | nil => simp [delK]
    | cons x r ih =>
      simp only [List.map_cons, delK, D.lit.injEq, Value.int.injEq, true_and, ih, List.mem_cons]
      by_cases h : x = n
      · simp [h]
      · have h2 : ¬ n = x := fun e => h e.symm
        by_cases hm : n ∈ r <;> simp [h, h2, hm, List.erase_cons]
  unfold deleteD
  rw [key]
  by_cases h : n ∈ s
  · simp [h, setD]
  · simp [h, setD, List.erase_of_not_mem h]

theorem mapUpd_set {K : St → Prop} {dst : Option Tmp} {ts : List D} {bs : List (Sh × D)} {tk : List Bool} {t k e : TypeId} {b : Nat} {s : List Int} {g : Nat} {n : Int} (ht : C.ty t = .map k e) (hk : C.ty k = .int .i64) (hb : bs[b]? = some (.obj 1, setD s g))
    (h : ∀ s' g', ((n ∈ s ∧ s' = s ∧ g' = g) ∨ (n ∉ s ∧ s' = s ++ [n] ∧ g' = g + 1)) → K (St.put ⟨ts, ⟨bs.set b (.obj 1, setD s' g'), tk⟩⟩ dst (.lit undef))) :
    mapUpdK C K dst ts bs tk t (.mref b) (.lit (.int .i64 n)) (.lit (.bool true)) := by
  unfold mapUpdK
  rw [mapD_iff]
  refine ⟨k, e, b, _, _, g, ht, rfl, hb, keys_ok hk s, by simp [mapKey, ht, keyOk, plain, hk], ?_⟩
  have hn : nrm C e (.lit (.bool true)) = .lit (.bool true) := rfl
  rw [hn, upd_set]
  by_cases hm : n ∈ s
  · rw [if_pos hm]; exact h _ _ (.inl ⟨hm, rfl, rfl⟩)
  · rw [if_neg hm]; exact h _ _ (.inr ⟨hm, rfl, rfl⟩)
theorem mapDel_set {K : St → Prop} {dst : Option Tmp} {ts : List D} {bs : List (Sh × D)} {tk : List Bool} {t k e : TypeId} {b : Nat} {s : List Int} {g : Nat} {n : Int} (ht : C.ty t = .map k e) (hk : C.ty k = .int .i64) (hb : bs[b]? = some (.obj 1, setD s g))
    (h : K (St.put ⟨ts, ⟨bs.set b (.obj 1, setD (s.erase n) g), tk⟩⟩ dst (.tup []))) :
    mapDelK C K dst ts bs tk t (.mref b) (.lit (.int .i64 n)) := by
  unfold mapDelK
  rw [mapD_iff]
  refine ⟨k, e, b, _, _, g, ht, rfl, hb, keys_ok hk s, by simp [mapKey, ht, keyOk, plain, hk], ?_⟩
  rw [del_set]; exact h
theorem mapRange_set {K : St → Prop} {dst : Option Tmp} {ts : List D} {bs : List (Sh × D)} {tk : List Bool} {t k e : TypeId} {b : Nat} {s : List Int} {g : Nat} (ht : C.ty t = .map k e) (hk : C.ty k = .int .i64) (hb : bs[b]? = some (.obj 1, setD s g))
    (h : K (St.put ⟨ts, ⟨bs ++ [(.obj 2, .it b g [])], tk⟩⟩ dst (.ptr bs.length []))) : mapRangeK C K dst ts bs tk t (.mref b) := by
  unfold mapRangeK
  rw [mapD_iff]
  exact ⟨k, e, b, _, _, g, ht, rfl, hb, keys_ok hk s, h⟩
/-- What an iterator has handed out, as numbers. -/
def seenD (l : List Int) : List D := l.map fun n => .lit (.int .i64 n)
theorem next_set {K : St → Prop} {dst : Option Tmp} {ts : List D} {bs : List (Sh × D)} {tk : List Bool} {b i : Nat} {s l : List Int} {g : Nat} (hb : bs[b]? = some (.obj 1, setD s g)) (hi : bs[i]? = some (.obj 2, .it b g (seenD l)))
    (h1 : ∀ n, n ∈ s → n ∉ l → K (St.put ⟨ts, ⟨bs.set i (.obj 2, .it b g (seenD (l ++ [n]))), tk⟩⟩ dst (.tup [.bool true, .lit (.int .i64 n), .bool true])))
    (h2 : (∀ n ∈ s, n ∈ l) → K (St.put ⟨ts, ⟨bs, tk⟩⟩ dst (.tup [.bool false]))) : nextK K dst ts bs tk (.ptr i []) := by
  refine ⟨i, b, g, seenD l, _, _, rfl, hi, hb, ?_, ?_⟩
  · intro j k y hk hy hn
    rw [List.getElem?_map, Option.map_eq_some_iff] at hk hy
    obtain ⟨n, hj, rfl⟩ := hk
    obtain ⟨m, hj2, rfl⟩ := hy
    have hm : n ∈ s := List.mem_of_getElem? hj
    have hnl : n ∉ l := fun hm => hn (by simp [seenD, hm])
    have := h1 n hm hnl
    simpa [seenD] using this
  · intro h
    refine h2 fun n hn => ?_
    have := h (.lit (.int .i64 n)) (List.mem_map.2 ⟨n, hn, rfl⟩)
    simpa [seenD] using this
theorem entry_set {bs : List (Sh × D)} {tk : List Bool} {b i : Nat} {s l : List Int} {g : Nat} {n : Int} (hb : bs[b]? = some (.obj 1, setD s g)) (hi : bs[i]? = some (.obj 2, .it b g (seenD (l ++ [n])))) (hn : n ∈ s) :
    entryD ⟨bs, tk⟩ (.ptr i []) = some (.tup [.lit (.int .i64 n), .lit (.bool true)]) := by
  simp only [entryD, hi]
  simp only [hb, setD, if_true, seenD, List.map_append, List.map_cons, List.map_nil, List.getLast?_append, List.getLast?_singleton, Option.some_or, Option.bind_some, look_set, hn, if_true, Option.map_some]
theorem lookup_set {t k e : TypeId} {bs : List (Sh × D)} {tk : List Bool} {b : Nat} {s : List Int} {g : Nat} (n : Int) (ht : C.ty t = .map k e) (hk : C.ty k = .int .i64) (hz : C.zero e = .lit (.bool false)) (hb : bs[b]? = some (.obj 1, setD s g)) :
    lookupD C ⟨bs, tk⟩ t false (.mref b) (.lit (.int .i64 n)) = some (.lit (.bool (decide (n ∈ s)))) := by
  have h1 : keyOk C k (.lit (.int .i64 n)) := by simp [keyOk, plain, hk]
  have h2 := keys_ok hk s
  unfold lookupD
  rw [ht]
  simp only [hb, setD]
  rw [if_pos h1, if_pos h2, look_set]
  by_cases hm : n ∈ s <;> simp [hm, packD, hz]
end
end Go.Ab
