/- Maps, as lists of keys and values. Conditions: none. -/
import Derived.Test.YtjafmlbcjhoflaaGreatAbHs
set_option linter.unusedSimpArgs false
set_option linter.unusedSectionVars false
namespace Go.Ab
open Go.Proofs
theorem drawN_one {P : Program} {C : Tab} {l : List Oper} {Q : St → Prop} {s sA : St} (mk : List Nat) (ords : List (List Nat)) (h : okDrawsM mk l.toArray ords = true)
    (h1 : ∀ Q' : St → Prop, Q' sA → ∀ ord ∈ ords, aopsD P C l.toArray Q' (pickL l ord) s) (hA : Q sA) : drawN P C l.toArray Q s :=
  drawN_many mk ords h (h1 Q hA)
theorem str_leq (a b : ByteArray) : strOp .leq a b = some (.bool (Op.bytesLess a.toList b.toList || decide (a = b))) := Eq.trans rfl rfl
theorem str_gtr (a b : ByteArray) : strOp .gtr a b = some (.bool (!(Op.bytesLess a.toList b.toList || decide (a = b)))) := Eq.trans rfl rfl
theorem str_geq (a b : ByteArray) : strOp .geq a b = some (.bool (!Op.bytesLess a.toList b.toList)) := Eq.trans rfl rfl
attribute [go_sem] str_leq str_gtr str_geq
theorem zero_lt1 (n : Nat) : (0 < n + 1) = True := by simp
theorem one_le1 (n : Nat) : (1 ≤ n + 1) = True := by simp
attribute [go_sem] zero_lt1 one_le1 List.getElem?_cons_zero List.length_cons List.drop_succ_cons List.drop_zero
section
variable {C : Tab} {α β : Type} [DecidableEq α]

/-- Keys of a type, as data. -/
structure KeyEnc (C : Tab) (k : TypeId) (kd : α → D) : Prop where
  inj : ∀ a b, kd a = kd b → a = b
  ok : ∀ a, plain C k (kd a)
theorem keyInt {k : TypeId} (hk : C.ty k = .int .i64) : KeyEnc C k (fun n : Int => D.lit (.int .i64 n)) := ⟨fun a b h => by cases h; rfl, fun a => by simp [plain, hk]⟩

def mapG (kd : α → D) (enc : β → D) (l : List (α × β)) (g : Nat) : D := .mp (l.map fun p => kd p.1) (l.map fun p => enc p.2) g
def getA : List (α × β) → α → Option β
  | [], _ => none
  | p :: r, a => if p.1 = a then some p.2 else getA r a
def putA : List (α × β) → α → β → List (α × β)
  | [], a, b => [(a, b)]
  | p :: r, a, b => if p.1 = a then (a, b) :: r else p :: putA r a b
def delA : List (α × β) → α → List (α × β)
  | [], _ => []
  | p :: r, a => if p.1 = a then r else p :: delA r a
def cntA (l : List (α × β)) (a : α) : Nat := if (getA l a).isSome then 0 else 1

variable {k e t : TypeId} {kd : α → D} {enc : β → D} {l : List (α × β)} {g b : Nat} {K : St → Prop} {dst : Option Tmp} {ts : List D} {bs : List (Sh × D)} {tk : List Bool}
theorem look_g (hk : KeyEnc C k kd) (l : List (α × β)) (a : α) : lookK (l.map fun p => kd p.1) (l.map fun p => enc p.2) (kd a) = (getA l a).map enc := by
  induction l with
  | nil => rfl
  | cons p r ih =>
    simp only [List.map_cons, lookK, getA]
    by_cases h : p.1 = a
    · rw [if_pos (by rw [h]), if_pos h]; rfl
    · rw [if_neg (fun e => h (hk.inj _ _ e)), if_neg h, ih]
theorem updK_g (hk : KeyEnc C k kd) (l : List (α × β)) (a : α) (v : β) : ((getA l a).isSome = true → updK (l.map fun p => kd p.1) (l.map fun p => enc p.2) (kd a) (enc v) = some ((putA l a v).map fun p => enc p.2)) ∧ ((getA l a).isSome = false → updK (l.map fun p => kd p.1) (l.map fun p => enc p.2) (kd a) (enc v) = none) := by
  induction l with
  | nil => exact ⟨fun h => by simp [getA] at h, fun _ => rfl⟩
  | cons p r ih =>
    by_cases h : p.1 = a
    · have e1 : getA (p :: r) a = some p.2 := if_pos h
      have e2 : putA (p :: r) a v = (a, v) :: r := if_pos h
      rw [e1, e2]
      exact ⟨fun _ => by simp only [List.map_cons, updK]; rw [if_pos (by rw [h])], fun h => by simp at h⟩
    · have e1 : getA (p :: r) a = getA r a := if_neg h
      have e2 : putA (p :: r) a v = p :: putA r a v := if_neg h
      have e3 : updK ((p :: r).map fun p => kd p.1) ((p :: r).map fun p => enc p.2) (kd a) (enc v) = (updK (r.map fun p => kd p.1) (r.map fun p => enc p.2) (kd a) (enc v)).map (enc p.2 :: ·) := if_neg (fun e => h (hk.inj _ _ e))
      rw [e1, e2, e3]
      exact ⟨fun h => by rw [ih.1 h]; rfl, fun h => by rw [ih.2 h]; rfl⟩
theorem put_keys {γ : Type} (kd : α → γ) (l : List (α × β)) (a : α) (v : β) (h : (getA l a).isSome = true) : (putA l a v).map (fun p => kd p.1) = l.map fun p => kd p.1 := by
  induction l with
  | nil => simp [getA] at h
  | cons p r ih =>
    simp only [getA, putA] at h ⊢
    by_cases hp : p.1 = a
    · rw [if_pos hp]; simp [hp]
    · rw [if_neg hp] at h ⊢; simp [ih h]
theorem put_new (l : List (α × β)) (a : α) (v : β) (h : (getA l a).isSome = false) : putA l a v = l ++ [(a, v)] := by
  induction l with
  | nil => rfl
  | cons p r ih =>
    simp only [getA, putA] at h ⊢
    by_cases hp : p.1 = a
    · rw [if_pos hp] at h; simp at h
    · rw [if_neg hp] at h ⊢; simp [ih h]
theorem upd_g (hk : KeyEnc C k kd) (l : List (α × β)) (a : α) (v : β) : updD (l.map fun p => kd p.1) (l.map fun p => enc p.2) g (kd a) (enc v) = mapG kd enc (putA l a v) (g + cntA l a) := by
  unfold updD
  cases h : (getA l a).isSome with
  | true => rw [(updK_g hk l a v).1 h]; simp only [mapG, cntA, h, if_true, Nat.add_zero, put_keys kd l a v h]
  | false => rw [(updK_g hk l a v).2 h]; simp only [Bool.false_eq_true, if_false, mapG, cntA, h, put_new l a v h, List.map_append, List.map_cons, List.map_nil]
theorem keys_g (hk : KeyEnc C k kd) (l : List (α × β)) : ∀ q ∈ l.map (fun p => kd p.1), keyOk C k q := by
  intro q hq
  obtain ⟨p, _, rfl⟩ := List.mem_map.1 hq
  exact hk.ok _

theorem mapUpd_g (hk : KeyEnc C k kd) (ht : C.ty t = .map k e) (hb : bs[b]? = some (.obj 1, mapG kd enc l g)) (a : α) (v : β) {x y : D} (hx : x = kd a) (hy : nrm C e y = enc v)
    (h : K (St.put ⟨ts, ⟨bs.set b (.obj 1, mapG kd enc (putA l a v) (g + cntA l a)), tk⟩⟩ dst (.lit undef))) : mapUpdK C K dst ts bs tk t (.mref b) x y := by
  subst hx
  unfold mapUpdK
  rw [mapD_iff]
  refine ⟨k, e, b, _, _, g, ht, rfl, hb, keys_g hk l, by simp only [mapKey, ht]; exact hk.ok a, ?_⟩
  rw [hy, upd_g hk]; exact h
theorem lookup_g (hk : KeyEnc C k kd) (ht : C.ty t = .map k e) (hb : bs[b]? = some (.obj 1, mapG kd enc l g)) (ok : Bool) (a : α) {x : D} (hx : x = kd a) :
    lookupD C ⟨bs, tk⟩ t ok (.mref b) x = some (match getA l a with | some v => packD ok (enc v) true | none => packD ok (C.zero e) false) := by
  subst hx
  have h2 := keys_g hk l
  unfold lookupD
  rw [ht]
  simp only [hb, mapG]
  rw [if_pos (show keyOk C k (kd a) from hk.ok a), if_pos h2, look_g hk]
  cases getA l a <;> rfl
theorem len_g (hb : bs[b]? = some (.obj 1, mapG kd enc l g)) : lenM ⟨bs, tk⟩ (.mref b) = some (.int l.length) := by
  simp [lenM, hb, mapG]


/-- A set. -/
def setG (kd : α → D) (s : List α) (g : Nat) : D := mapG kd (fun b : Bool => D.lit (.bool b)) (s.map fun a => (a, true)) g
end
end Go.Ab
set_option linter.unusedSimpArgs false
namespace Go.Ab
open Go.Proofs


/-- What a slice's cells hold, behind the boxes that were there. -/
def OutX (e : TypeId) (k : Nat) (d : D) (ex : List (Sh × D)) (l : List D) : Prop :=
  (∀ N s L, (Sh.arr N s, D.agg L) ∈ ex → pureL L) ∧ pureL l ∧ ((d = .lst e [] .full ∧ l = []) ∨ ∃ j N L, d = .sl e (k + j) 0 l.length N ∧ ex[j]? = some (.arr N (CT.sh e), .agg L) ∧ L.length = N ∧ l.length ≤ N ∧ N ≤ maxLen ∧ L.take l.length = l)

theorem outX_nil (e : TypeId) (k : Nat) : OutX e k (.lst e [] .full) [] [] := ⟨by simp, trivial, .inl ⟨rfl, rfl⟩⟩


/-- A slice whose token is of this call's own. -/
def liveH (u : Tok) (tk z : List Bool) : Prop := live u (tk ++ z) ∧ match u with | .own id => tk.length ≤ id | _ => True
theorem appK_liveH {C : Tab} {mu : Bool} {K : St → Prop} {dst : Option Tmp} {ts : List D} (e : TypeId) (l m : List D) (t t' : Tok) (bs : List (Sh × D)) (tk z : List Bool) (ha : liveH t tk z) (hm : m ≠ []) (hb : 0 < C.bytes e) (hl : (l.length + m.length) * C.bytes e ≤ 140737488355328)
    (hk : ∀ u z', liveH u tk z' → K (St.put ⟨ts, ⟨bs, tk ++ z'⟩⟩ dst (.lst e (l ++ m) u))) : appK C mu K dst ts bs (tk ++ z) (.slice e) (.lst e l t) (.lst e m t') := by
  cases t with
  | no => exact ha.1.elim
  | full => exact appK_full _ _ _ _ _ _ _ _ _ hm hb hl (by rw [List.append_assoc]; exact hk _ _ ⟨by simp [live], by simp⟩)
  | own id =>
    have hid := ha.2
    have hs : (tk ++ z).set id false = tk ++ z.set (id - tk.length) false := by rw [List.set_append_right _ _ hid]
    exact appK_own _ _ _ _ _ _ _ _ _ _ hm hb hl ha.1 (by
      rw [hs, List.append_assoc]
      have h1 := hk (.own (tk ++ z).length) (z.set (id - tk.length) false ++ [true]) ⟨by simp [live], by simp⟩
      exact h1)
end Go.Ab
