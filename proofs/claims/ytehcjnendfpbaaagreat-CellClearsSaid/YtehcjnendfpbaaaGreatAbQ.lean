/- From a law's contract at the level of values to the statement: whatever can be read as data. Conditions: closed looks at the program. -/
import Derived.Test.YtehcjnendfpbaaaGreatAbO
import Derived.WalkKit
import Derived.ProofKit
import Derived.SizedLaws
namespace Go.Ab
open Go.RowKit

/-- Data of a type. -/
inductive HasTy (C : Tab) : TypeId → D → Prop where
  | bool {t : TypeId} (b : Bool) (h : C.ty t = .bool) : HasTy C t (.lit (.bool b))
  | int {t : TypeId} {k : IntKind} (n : Int) (h : C.ty t = .int k) (h1 : k.min ≤ n) (h2 : n ≤ k.max) : HasTy C t (.lit (.int k n))
  | str {t : TypeId} (s : ByteArray) (h : C.ty t = .str) (h1 : s.size ≤ maxLen) : HasTy C t (.lit (.string s))
  | slice {t e : TypeId} (l : List D) (h : C.ty t = .slice e) (h1 : l.length ≤ maxLen) (h2 : ∀ x ∈ l, HasTy C e x) (h3 : l.length * C.bytes e ≤ reachBytes) : HasTy C t (.lst e l .no)
  | arr {t e : TypeId} {n : Nat} (l : List D) (h : C.ty t = .arr n e) (h1 : l.length = n) (h2 : ∀ x ∈ l, HasTy C e x) : HasTy C t (.agg l)
  | struct {t : TypeId} {fs : List TypeId} (l : List D) (h : C.ty t = .struct fs) (h1 : l.length = fs.length) (h2 : ∀ (i : Nat) (f : TypeId) (x : D), fs[i]? = some f → l[i]? = some x → HasTy C f x) : HasTy C t (.agg l)

/-- Types that can be read, with all that they are made of. -/
def closedR (C : Tab) (R : List TypeId) : Bool :=
  R.all fun t => match C.ty t with
    | .bool | .str | .int _ => true
    | .slice e => R.contains e
    | .arr _ e => R.contains e
    | .struct fs => fs.all R.contains
    | _ => false

def allCells (W : World) : Nat → Nat → Option Value := fun B i => W.cell? ⟨B, i, none⟩

theorem choose_list {α : Type} {n : Nat} {Q : Nat → α → Prop} (h : ∀ i, i < n → ∃ x, Q i x) : ∃ l : List α, l.length = n ∧ ∀ (i : Nat) (x : α), l[i]? = some x → Q i x := by
  induction n with
  | zero => exact ⟨[], rfl, by simp⟩
  | succ n ih =>
    obtain ⟨l, hl, hq⟩ := ih (fun i hi => h i (by omega))
    obtain ⟨x, hx⟩ := h n (by omega)
    refine ⟨l ++ [x], by simp [hl], ?_⟩
    intro i y hy
    rcases Nat.lt_or_ge i l.length with hi | hi
    · rw [List.getElem?_append_left hi] at hy; exact hq i y hy
    · rw [List.getElem?_append_right hi] at hy
      rcases Nat.eq_or_lt_of_le hi with he | hgt
      · subst he; simp at hy; subst hy; rw [hl]; exact hx
      · rw [List.getElem?_eq_none (by simp; omega)] at hy; cases hy

theorem mapM_get {α β : Type} {f : α → Option β} : ∀ {l : List α} {r : List β}, l.mapM f = some r → l.length = r.length ∧ ∀ (i : Nat) (x : α), l[i]? = some x → ∃ y, r[i]? = some y ∧ f x = some y
  | [], r, h => by simp at h; subst h; exact ⟨rfl, by simp⟩
  | a :: l, r, h => by
    simp only [List.mapM_cons, Option.bind_eq_bind, Option.bind_eq_some_iff, Option.pure_def, Option.some.injEq] at h
    obtain ⟨b, hb, r', hr, rfl⟩ := h
    obtain ⟨i1, i2⟩ := mapM_get hr
    refine ⟨by simp [i1], ?_⟩
    intro i x hx
    cases i with
    | zero => simp at hx; subst hx; exact ⟨b, rfl, hb⟩
    | succ i => obtain ⟨y, h1, h2⟩ := i2 i x (by simpa using hx); exact ⟨y, by simpa using h1, h2⟩

section
variable {P : Program} {C : Tab}

theorem cells_of {W : World} {a : Addr} {n : Nat} {cs : List Value} (h : W.cells? 0 a n = some cs) : cs.length = n ∧ ∀ (i : Nat) (c : Value), cs[i]? = some c → W.cell? (a.add i) = some c := by
  unfold World.cells? at h
  rw [if_pos (Nat.zero_le _)] at h
  obtain ⟨h1, h2⟩ := mapM_get h
  rw [List.length_range] at h1
  refine ⟨h1.symm, ?_⟩
  intro i c hc
  have hi : i < n := by rw [h1]; exact (List.getElem?_eq_some_iff.1 hc).1
  obtain ⟨y, k1, k2⟩ := h2 i i (by simp [hi])
  rw [hc] at k1; cases k1; exact k2

theorem ofList_split {fs : List TypeId} : ∀ {cs : List Value} {l : List D} {S : Nat → Nat → Option Value}, l.length = fs.length → cs.length = (Sh.ofList (fs.map C.sh)).size →
    (∀ (i : Nat) (u : TypeId) (x : D), fs[i]? = some u → l[i]? = some x → hasSh (C.sh u) x ∧ All2 (VP C.sh S) ((cs.drop ((Sh.ofList (fs.map C.sh)).kidOff i)).take (C.sh u).size) (leaves x)) →
    hasSh (Sh.ofList (fs.map C.sh)) (.agg l) ∧ All2 (VP C.sh S) cs (leavesL l) := by
  induction fs with
  | nil =>
    intro cs l S h1 h2 _
    have e1 : l = [] := List.eq_nil_of_length_eq_zero h1
    have e2 : cs = [] := List.eq_nil_of_length_eq_zero h2
    subst e1; subst e2
    exact ⟨rfl, All2.nil⟩
  | cons u us ih =>
    intro cs l S h1 h2 h3
    cases l with
    | nil => simp at h1
    | cons x r =>
      have h0 := h3 0 u x rfl rfl
      simp only [List.map_cons, Sh.ofList, Sh.kidOff, List.drop_zero] at h0 h2 h3 ⊢
      obtain ⟨k1, k2⟩ := ih (cs := cs.drop (C.sh u).size) (l := r) (S := S) (by simpa using h1) (by simp only [List.length_drop]; simp only [Sh.size] at h2; omega) (by
        intro i v y hv hy
        have := h3 (i + 1) v y (by simpa using hv) (by simpa using hy)
        simp only [Sh.kidOff] at this
        rw [List.drop_drop]; exact this)
      refine ⟨⟨x, r, rfl, h0.1, k1⟩, ?_⟩
      simp only [leavesL]
      have := h0.2.append k2
      rwa [List.take_append_drop] at this

theorem arr_split {u : TypeId} {S : Nat → Nat → Option Value} : ∀ {l : List D} {cs : List Value}, cs.length = l.length * (C.sh u).size →
    (∀ (i : Nat) (x : D), l[i]? = some x → hasSh (C.sh u) x ∧ All2 (VP C.sh S) ((cs.drop (i * (C.sh u).size)).take (C.sh u).size) (leaves x)) →
    (∀ x ∈ l, hasSh (C.sh u) x) ∧ All2 (VP C.sh S) cs (leavesL l)
  | [], cs, h1, _ => by
    have : cs = [] := List.eq_nil_of_length_eq_zero (by simpa using h1)
    subst this
    exact ⟨by simp, All2.nil⟩
  | x :: l, cs, h1, h2 => by
    have h0 := h2 0 x rfl
    simp only [Nat.zero_mul, List.drop_zero] at h0
    simp only [List.length_cons, Nat.add_mul, Nat.one_mul] at h1
    obtain ⟨k1, k2⟩ := arr_split (u := u) (l := l) (cs := cs.drop (C.sh u).size) (S := S) (by simp only [List.length_drop]; omega) (by
      intro i y hy
      have := h2 (i + 1) y (by simpa using hy)
      rw [List.drop_drop, show (C.sh u).size + i * (C.sh u).size = (i + 1) * (C.sh u).size by rw [Nat.add_mul]; omega]; exact this)
    refine ⟨?_, ?_⟩
    · intro y hy
      rcases List.mem_cons.1 hy with rfl | hy
      · exact h0.1
      · exact k1 y hy
    · simp only [leavesL]
      have := h0.2.append k2
      rwa [List.take_append_drop] at this

theorem weights_all {H : Type} {e : TypeId} : ∀ {l : List (DataW H)} {d : DataW H}, d ∈ l → ∀ n ∈ d.weights P e, n ∈ DataW.weightsAll P e l
  | x :: r, d, hd, n, hn => by
    rcases List.mem_cons.1 hd with rfl | hd
    · simp [DataW.weightsAll, hn]
    · simp [DataW.weightsAll, weights_all hd n hn]
theorem trod_ty {H : Type} {enc : TypeId × Value → H} (hT : TabOk P C) {R : List TypeId} (hR : closedR C R = true) {W : World} {sp : Nat → Bool} {held : Bool} : ∀ (fuel : Nat) (t : TypeId) (cs : List Value) (d : DataW H) (ps : List MemPlace),
    t ∈ R → (∀ n ∈ d.weights P t, n ≤ reachBytes) → DataW.trod enc P W 0 sp held fuel t cs = some (d, ps) → ∃ x, HasTy C t x ∧ hasSh (C.sh t) x ∧ All2 (VP C.sh (allCells W)) cs (leaves x) := by
  intro fuel
  induction fuel with
  | zero => intro t cs d ps _ _ h; simp [DataW.trod] at h
  | succ fuel ih =>
    intro t cs d ps htR hwt h
    have hcl := List.all_eq_true.1 hR t htR
    have htb : C.ty t ≠ .bad := by intro e; rw [e] at hcl; simp at hcl
    have hf := hT t htb
    have hd := hf.desc
    have hcell : ∀ u, C.ty u ≠ .bad → P.cellsOf u = (C.sh u).size := by
      intro u hu
      obtain ⟨i, z, hi, hs, _⟩ := (hT u hu).info
      simp [Program.cellsOf, hi, hs]
    cases hty : C.ty t with
    | bad => exact absurd hty htb
    | cell => rw [hty] at hcl; simp at hcl
    | map k e => rw [hty] at hcl; simp at hcl
    | bool =>
      rw [hty] at hd
      rcases cs with _ | ⟨c, _ | ⟨c2, r⟩⟩
      · simp [DataW.trod, hd.2] at h
      · cases c <;> simp [DataW.trod, hd.2] at h
        rename_i b
        exact ⟨.lit (.bool b), .bool b hty, by rw [hd.1]; rfl, by simp only [leaves]; exact All2.cons (.lit _) All2.nil⟩
      · simp [DataW.trod, hd.2] at h
    | int k =>
      rw [hty] at hd
      rcases cs with _ | ⟨c, _ | ⟨c2, r⟩⟩
      · simp [DataW.trod, hd.2] at h
      · cases c <;> simp [DataW.trod, hd.2] at h
        rename_i k' n
        obtain ⟨⟨rfl, hwf⟩, _⟩ := h
        simp only [Lit.wf, Bool.and_eq_true, decide_eq_true_eq] at hwf
        exact ⟨.lit (.int _ n), .int n hty hwf.1 hwf.2, by rw [hd.1]; rfl, by simp only [leaves]; exact All2.cons (.lit _) All2.nil⟩
      · simp [DataW.trod, hd.2] at h
    | str =>
      rw [hty] at hd
      rcases cs with _ | ⟨c, _ | ⟨c2, r⟩⟩
      · simp [DataW.trod, hd.2] at h
      · cases c <;> simp [DataW.trod, hd.2] at h
        rename_i s
        exact ⟨.lit (.string s), .str s hty h.1, by rw [hd.1]; rfl, by simp only [leaves]; exact All2.cons (.lit _) All2.nil⟩
      · simp [DataW.trod, hd.2] at h
    | slice e =>
      rw [hty] at hd hcl
      obtain ⟨h1, h2, h3, h4⟩ := hd
      have heR : e ∈ R := by simpa using hcl
      have hce := hcell e h3
      rcases cs with _ | ⟨c, _ | ⟨c2, r⟩⟩
      · simp [DataW.trod, h2] at h
      · cases c with
        | slice a len cap =>
          cases a with
          | none =>
            cases len with
            | succ n => simp [DataW.trod, h2] at h
            | zero =>
              cases cap with
              | succ n => simp [DataW.trod, h2] at h
              | zero => exact ⟨.lst e [] .no, .slice [] hty (by simp) (by simp) (by simp), by rw [h1]; rfl, by simp only [leaves]; exact All2.cons (.nil (by simp)) All2.nil⟩
          | some a =>
            simp only [DataW.trod, h2, hce] at h
            split at h
            case isFalse => cases h
            rename_i hb
            obtain ⟨_, hlc, hcm⟩ := hb
            simp only [Option.bind_eq_some_iff, Option.map_eq_some_iff] at h
            obtain ⟨elems, hel, rest, _, hdd⟩ := h
            obtain ⟨m1, m2⟩ := mapM_get hel
            rw [List.length_range] at m1
            have hde : d = .slice (elems.map (·.1)) (rest.map (·.1)) := (congrArg Prod.fst hdd).symm
            have hbe : P.bytesOf e = C.bytes e := by
              obtain ⟨i, z, hi, _, hby, _⟩ := (hT e h3).info
              simp [Program.bytesOf, hi, hby]
            have hwe : ∀ y ∈ elems, ∀ n ∈ y.1.weights P e, n ≤ reachBytes := by
              intro y hy n hn
              refine hwt n ?_
              rw [hde]
              simp only [DataW.weights, h2, List.mem_cons, List.mem_append]
              exact .inr (.inl (weights_all (List.mem_map_of_mem hy) n hn))
            have hwl : len * C.bytes e ≤ reachBytes := by
              have := hwt (((elems.map (·.1)).length + (rest.map (·.1)).length) * P.bytesOf e) (by rw [hde]; simp only [DataW.weights, h2, List.mem_cons, true_or])
              rw [hbe, List.length_map, ← m1] at this
              exact Nat.le_trans (Nat.mul_le_mul_right _ (Nat.le_add_right _ _)) this
            -- each element
            have each : ∀ i, i < len → ∃ z : D × List Value, HasTy C e z.1 ∧ hasSh (C.sh e) z.1 ∧ All2 (VP C.sh (allCells W)) z.2 (leaves z.1) ∧ z.2.length = (C.sh e).size ∧ ∀ (j : Nat) (c : Value), z.2[j]? = some c → W.cell? ((a.add (i * (C.sh e).size)).add j) = some c := by
              intro i hi
              obtain ⟨y, hyi, hy⟩ := m2 i i (by simp [hi])
              rw [Option.bind_eq_some_iff] at hy
              obtain ⟨csi, hci, htr⟩ := hy
              obtain ⟨q1, q2⟩ := cells_of hci
              obtain ⟨x, k1, k2, k3⟩ := ih e csi y.1 y.2 heR (hwe y (List.mem_of_getElem? hyi)) htr
              exact ⟨(x, csi), k1, k2, k3, q1, q2⟩
            obtain ⟨zs, hzl, hz⟩ := choose_list each
            have hzmem : ∀ z ∈ zs, ∃ i, i < len ∧ zs[i]? = some z := by
              intro z hz
              obtain ⟨i, hi, rfl⟩ := List.getElem_of_mem hz
              exact ⟨i, by omega, List.getElem?_eq_getElem hi⟩
            have hleaf : ∀ zs' : List (D × List Value), (∀ z ∈ zs', hasSh (C.sh e) z.1 ∧ All2 (VP C.sh (allCells W)) z.2 (leaves z.1) ∧ z.2.length = (C.sh e).size) →
                All2 (VP C.sh (allCells W)) (zs'.flatMap (·.2)) (leavesL (zs'.map (·.1))) ∧ ∀ (i : Nat) (c : Value), (zs'.flatMap (·.2))[i]? = some c → ∃ z, zs'[i / (C.sh e).size]? = some z ∧ z.2[i % (C.sh e).size]? = some c := by
              intro zs'
              induction zs' with
              | nil => intro _; exact ⟨All2.nil, by simp⟩
              | cons z r ihr =>
                intro hall
                obtain ⟨j1, j2⟩ := ihr (fun y hy => hall y (by simp [hy]))
                obtain ⟨a1, a2, a3⟩ := hall z (by simp)
                refine ⟨?_, ?_⟩
                · simp only [List.flatMap_cons, List.map_cons, leavesL]
                  exact a2.append j1
                · intro i c hc
                  simp only [List.flatMap_cons] at hc
                  rcases Nat.lt_or_ge i z.2.length with hi | hi
                  · rw [List.getElem?_append_left hi] at hc
                    rw [a3] at hi
                    exact ⟨z, by rw [Nat.div_eq_of_lt hi]; rfl, by rw [Nat.mod_eq_of_lt hi]; exact hc⟩
                  · rw [List.getElem?_append_right hi, a3] at hc
                    obtain ⟨z', b1, b2⟩ := j2 _ c hc
                    rw [a3] at hi
                    refine ⟨z', ?_, ?_⟩
                    · rw [Nat.div_eq_sub_div (by omega) hi]; exact b1
                    · rw [Nat.mod_eq_sub_mod hi]; exact b2
            have hzall : ∀ z ∈ zs, hasSh (C.sh e) z.1 ∧ All2 (VP C.sh (allCells W)) z.2 (leaves z.1) ∧ z.2.length = (C.sh e).size := by
              intro z hzm
              obtain ⟨i, hi, hzi⟩ := hzmem z hzm
              have := hz i z hzi
              exact ⟨this.2.1, this.2.2.1, this.2.2.2.1⟩
            obtain ⟨l1, l2⟩ := hleaf zs hzall
            refine ⟨.lst e (zs.map (·.1)) .no, .slice _ hty (by rw [List.length_map, hzl]; omega) ?_ (by rw [List.length_map, hzl]; exact hwl), by rw [h1]; rfl, ?_⟩
            · intro x hx
              obtain ⟨z, hzm, rfl⟩ := List.mem_map.1 hx
              obtain ⟨i, hi, hzi⟩ := hzmem z hzm
              exact (hz i z hzi).1
            · simp only [leaves]
              refine All2.cons ?_ All2.nil
              have hlen : (zs.map (·.1)).length = len := by rw [List.length_map, hzl]
              have key := VP.lst (T := C.sh) (S := allCells W) (a := a) (cap := cap) (e := e) (l := zs.map (·.1)) (t := .no) (zs.flatMap (·.2)) ?_ l1.1 l1.2 ?_ (by rw [hlen]; exact hlc) hcm (by simp) (by simp)
              · rw [hlen] at key; exact key
              · intro i c hc
                obtain ⟨z, b1, b2⟩ := l2 i c hc
                have hzi := hz _ z b1
                have hcl := hzi.2.2.2.2 _ c b2
                -- the address
                have hadd : (a.add (i / (C.sh e).size * (C.sh e).size)).add (i % (C.sh e).size) = a.add i := by
                  have hdm := Nat.div_add_mod' i (C.sh e).size
                  unfold Addr.add
                  by_cases h0 : i / (C.sh e).size * (C.sh e).size = 0
                  · have : i % (C.sh e).size = i := by omega
                    simp [h0, this]
                  · by_cases h5 : i % (C.sh e).size = 0
                    · have : i / (C.sh e).size * (C.sh e).size = i := by omega
                      have hi0 : i ≠ 0 := by omega
                      simp [h5, this, hi0]
                    · have hi0 : i ≠ 0 := by omega
                      simp only [h0, h5, hi0, if_false, Addr.mk.injEq, true_and, and_true]
                      omega
                rw [hadd] at hcl
                obtain ⟨z0, hz0⟩ : ∃ z0, zs[0]? = some z0 := by
                  cases zs with
                  | nil => simp at b1
                  | cons y r => exact ⟨y, rfl⟩
                have hspot : a.spot = none := by
                  have h00 := (hz 0 z0 hz0).2.2.2
                  have hlt : 0 < z0.2.length := by rw [h00.1]; omega
                  have := h00.2 0 _ (List.getElem?_eq_getElem hlt)
                  have e0 : (a.add (0 * (C.sh e).size)).add 0 = a := by simp [Addr.add]
                  rw [e0] at this
                  exact World.cell?_spot this
                refine ⟨hspot, ?_⟩
                rw [addr_add a i hspot] at hcl
                exact hcl
              · intro d hd
                obtain ⟨z, hzm, rfl⟩ := List.mem_map.1 hd
                exact (hzall z hzm).1
        | _ => simp [DataW.trod, h2] at h
      · simp [DataW.trod, h2] at h
    | arr n e =>
      rw [hty] at hd hcl
      obtain ⟨h1, h2, h3, h4⟩ := hd
      have heR : e ∈ R := by simpa using hcl
      have hce := hcell e h3
      have hct := hcell t htb
      rw [h1] at hct
      simp only [Sh.size] at hct
      simp only [DataW.trod, h2, hce, hct] at h
      have h' := h
      split at h'
      case isFalse => cases h'
      rename_i hlen
      obtain ⟨xs, hxs, hdd⟩ := Option.map_eq_some_iff.1 h'
      obtain ⟨m1, m2⟩ := mapM_get hxs
      have hwe : ∀ y ∈ xs, ∀ n ∈ y.1.weights P e, n ≤ reachBytes := by
        intro y hy n hn
        refine hwt n ?_
        rw [show d = .agg (xs.map (·.1)) from (congrArg Prod.fst hdd).symm]
        simp only [DataW.weights, h2]
        exact weights_all (List.mem_map_of_mem hy) n hn
      have each : ∀ i, i < n → ∃ x : D, HasTy C e x ∧ hasSh (C.sh e) x ∧ All2 (VP C.sh (allCells W)) ((cs.drop (i * (C.sh e).size)).take (C.sh e).size) (leaves x) := by
        intro i hi
        obtain ⟨y, hyi, hy⟩ := m2 i i (by simp [hi])
        exact ih e _ y.1 y.2 heR (hwe y (List.mem_of_getElem? hyi)) hy
      obtain ⟨l, hl, hall⟩ := choose_list each
      obtain ⟨g1, g2⟩ := arr_split (u := e) (S := allCells W) (l := l) (cs := cs) (by rw [hl]; exact hlen) (fun i x hx => (hall i x hx).2)
      refine ⟨.agg l, .arr l hty hl ?_, by rw [h1]; exact ⟨hl, g1⟩, by simpa only [leaves] using g2⟩
      intro x hx
      obtain ⟨i, hi, rfl⟩ := List.getElem_of_mem hx
      exact (hall i _ (List.getElem?_eq_getElem hi)).1
    | struct fs =>
      rw [hty] at hd hcl
      obtain ⟨h1, fl, h2, h3, h4, h5⟩ := hd
      have hct := hcell t htb
      simp only [DataW.trod, h2, hct] at h
      have h' := h
      split at h'
      case isFalse => cases h'
      rename_i hlen
      obtain ⟨xs, hxs, hdd⟩ := Option.map_eq_some_iff.1 h'
      obtain ⟨m1, m2⟩ := mapM_get hxs
      have each : ∀ i, i < fs.length → ∃ x : D, ∀ u, fs[i]? = some u → HasTy C u x ∧ hasSh (C.sh u) x ∧ All2 (VP C.sh (allCells W)) ((cs.drop ((C.sh t).kidOff i)).take (C.sh u).size) (leaves x) := by
        intro i hi
        have hif : i < fl.size := by omega
        obtain ⟨k1, k2, k3, k4, k5, k6⟩ := h5 i fl[i] (Array.getElem?_eq_getElem hif)
        obtain ⟨y, hyi, hy⟩ := m2 i fl[i] (by simp [hif])
        have hwy : ∀ n ∈ y.1.weights P fl[i].type, n ≤ reachBytes := by
          intro n hn
          refine hwt n ?_
          rw [show d = .agg (xs.map (·.1)) from (congrArg Prod.fst hdd).symm]
          simp only [DataW.weights, h2]
          exact DataW.weights_mem_each (j := i) (t := fl[i].type) (d := y.1) (by simp [hif]) (by simp [hyi]) n hn
        rw [hcell _ k5, k2] at hy
        have hmem : fl[i].type ∈ R := by
          have := List.all_eq_true.1 hcl fl[i].type (List.mem_of_getElem? k1)
          simpa using this
        obtain ⟨x, hx⟩ := ih _ _ y.1 y.2 hmem hwy hy
        refine ⟨x, ?_⟩
        intro u hu
        rw [k1] at hu; cases hu
        exact hx
      obtain ⟨l, hl, hall⟩ := choose_list each
      rw [h1] at hlen hall
      obtain ⟨g1, g2⟩ := ofList_split (S := allCells W) hl hlen (fun i u x hu hx => (hall i x hx u hu).2)
      exact ⟨.agg l, .struct l hty hl (fun i u x hu hx => (hall i x hx u hu).1), by rw [h1]; exact g1, by simpa only [leaves] using g2⟩

theorem all_real (T : TypeId → Sh) (W : World) : Real T { S := allCells W, box := [], tok := [], own := fun _ => False } noHeap W := by
  refine ⟨?_, rfl, rfl, ?_, ?_, ?_, ?_, ?_, fun _ h => h.elim⟩
  · intro B i v hv
    have hv' : W.cell? ⟨B, i, none⟩ = some v := hv
    unfold World.cell? at hv'
    split at hv'
    · rename_i c e fr hb
      exact ⟨c, e, fr, hb, by simpa using hv'⟩
    · cases hv'
  · intro b B sh hb; simp at hb
  · intro b B sh sh' d hb; simp at hb
  · intro b b' B sh sh' hb; simp at hb
  · intro t B n lim ht; simp at ht
  · intro t t' B n n' lim lim' ht; simp at ht

theorem trodAll_ty {H : Type} {enc : TypeId × Value → H} (hT : TabOk P C) {R : List TypeId} (hR : closedR C R = true) {W : World} {b : Nat} : ∀ {ts : List TypeId} {vs : List Value} {ds : List (DataW H)} {ps : List MemPlace},
    (∀ t ∈ ts, t ∈ R) → (∀ n ∈ DataW.weightsEach P ts ds, n ≤ reachBytes) → (∀ (j : Nat) t v, ts[j]? = some t → vs[j]? = some v → Value.okWide P W .any b t v) → DataW.TrodAll enc P W 0 (fun _ => true) true ts vs ds ps → ∃ xs : List D, All2 (HasTy C) ts xs ∧ All2 (VP C.sh (allCells W)) vs xs
  | [], [], [], _, _, _, _, _ => ⟨[], All2.nil, All2.nil⟩
  | t :: ts, v :: vs, d :: ds, ps, hts, hwt, hok, h => by
    obtain ⟨p, q, ⟨fuel, h1⟩, h2, _⟩ := h
    obtain ⟨xs, k1, k2⟩ := trodAll_ty hT hR (fun u hu => hts u (by simp [hu])) (fun n hn => hwt n (by simp [DataW.weightsEach, hn])) (fun j t v ht hv => hok (j + 1) t v (by simpa using ht) (by simpa using hv)) h2
    obtain ⟨x, j1, j2, j3⟩ := trod_ty hT hR fuel t v.cells.toList d p (hts t (by simp)) (fun n hn => hwt n (by simp [DataW.weightsEach, hn])) h1
    have htb : C.ty t ≠ .bad := by
      intro e
      have := List.all_eq_true.1 hR t (hts t (by simp))
      rw [e] at this; simp at this
    refine ⟨x :: xs, All2.cons j1 k1, All2.cons ?_ k2⟩
    have hv := hok 0 t v rfl rfl
    have hf := hT t htb
    -- a struct or an array is its cells; all else is one cell
    by_cases hagg : (C.ty t).isAgg = true
    · obtain ⟨l, rfl⟩ := hf.sh_agg hagg j2
      have : ∃ cs, v = .agg cs := by
        have hd := hf.desc
        cases hty : C.ty t <;> rw [hty] at hd hagg <;> first | (simp [Ty.isAgg] at hagg; done) | skip
        · simp only [Value.okWide, hd.2.1] at hv
          obtain ⟨cs, h1, _⟩ := hv
          exact ⟨cs, h1⟩
        · obtain ⟨_, fl, hu, _⟩ := hd
          simp only [Value.okWide, hu] at hv
          obtain ⟨cs, h1, _⟩ := hv
          exact ⟨cs, h1⟩
      obtain ⟨cs, rfl⟩ := this
      simp only [Value.cells, leaves] at j3
      have := VP.agg (T := C.sh) (S := allCells W) (cs := cs.toList) (l := l) j3.1 j3.2
      simpa using this
    · have hleaf : C.sh t = .leaf := by
        rcases hf.agg_cases with ⟨h1, _⟩ | ⟨_, h2, _⟩
        · exact absurd h1 hagg
        · exact h2
      rw [hleaf] at j2
      rw [leaves_of_isLeaf j2] at j3
      have hone : v.cells = #[v] := by
        have hl := j3.1
        cases v <;> first | rfl | skip
        rename_i cs
        exfalso
        have hd := hf.desc
        simp only [Value.okWide] at hv
        cases hty : C.ty t <;> rw [hty] at hd hagg <;> first | (exact hd.elim) | (simp [Ty.isAgg] at hagg; done) | skip
        · rw [hd.2] at hv; simp [Cell.okWide, Cell.ok, hd.2] at hv
        · rw [hd.2] at hv; simp [Cell.okWide, Cell.ok, hd.2] at hv
        · have := List.all_eq_true.1 hR t (hts t (by simp))
          rw [hty] at this; simp at this
        · rw [hd.2] at hv; simp [Cell.okWide, Cell.ok, hd.2] at hv
        · rw [hd.2.1] at hv; simp [Cell.okWide, Cell.ok, hd.2.1] at hv
        · have := List.all_eq_true.1 hR t (hts t (by simp))
          rw [hty] at this; simp at this
      rw [hone] at j3
      exact j3.head.1
  | [], _ :: _, _, _, _, _, _, h => by simp [DataW.TrodAll] at h
  | [], [], _ :: _, _, _, _, _, h => by simp [DataW.TrodAll] at h
  | _ :: _, [], _, _, _, _, _, h => by simp [DataW.TrodAll] at h
  | _ :: _, _ :: _, [], _, _, _, _, h => by simp [DataW.TrodAll] at h

theorem trodAll_lt {H : Type} {enc : TypeId × Value → H} (hl : laidOutB P = true) {W W' : World} (hb : Below W.heap.size W W') : ∀ {ts : List TypeId} {vs : List Value} {ds : List (DataW H)} {ps : List MemPlace},
    (∀ t ∈ ts, P.readableRec t = true ∧ t < P.types.size) → (∀ x ∈ ps, x.block < W.heap.size) → DataW.TrodAll enc P W 0 (fun _ => true) true ts vs ds ps →
    DataW.TrodAll enc P W' 0 (fun b => decide (b < W.heap.size)) true ts vs ds ps
  | [], [], [], _, _, _, h => h
  | t :: ts, v :: vs, d :: ds, ps, hts, hlt, h => by
    obtain ⟨p, q, h1, h2, rfl⟩ := h
    refine ⟨p, q, ?_, trodAll_lt hl hb (fun u hu => hts u (by simp [hu])) (fun x hx => hlt x (by simp [hx])) h2, rfl⟩
    exact Below.trod hl (hts t (by simp)).1 (hts t (by simp)).2 h1 hb (fun x hx => hlt x (by simp [hx]))
  | [], _ :: _, _, _, _, _, h => by simp [DataW.TrodAll] at h
  | [], [], _ :: _, _, _, _, h => by simp [DataW.TrodAll] at h
  | _ :: _, [], _, _, _, _, h => by simp [DataW.TrodAll] at h
  | _ :: _, _ :: _, [], _, _, _, h => by simp [DataW.TrodAll] at h

theorem trodAll_len {H : Type} {enc : TypeId × Value → H} {W : World} : ∀ {ts : List TypeId} {vs : List Value} {ds : List (DataW H)} {ps : List MemPlace}, DataW.TrodAll enc P W 0 (fun _ => true) true ts vs ds ps → ds.length = ts.length
  | [], [], [], _, _ => rfl
  | _ :: _, _ :: _, _ :: _, _, h => by obtain ⟨p, q, _, h2, _⟩ := h; simp [trodAll_len h2]
  | [], _ :: _, _, _, h => by simp [DataW.TrodAll] at h
  | [], [], _ :: _, _, h => by simp [DataW.TrodAll] at h
  | _ :: _, [], _, _, h => by simp [DataW.TrodAll] at h
  | _ :: _, _ :: _, [], _, h => by simp [DataW.TrodAll] at h

/-- THE LAST STEP: a law that answers true to all data of its parameters' types, at the level of values. -/
theorem law_lifted {K : Checked} (hT : TabOk K.prog C) (hlaid : laidOutB K.prog = true) {R : List TypeId} (hR : closedR C R = true) {os : Os} {H : Type} {enc : TypeId × Value → H} {f : FuncId} {fn : Func} {s : ChangeSpec} {conds : List PathCond} {apart : Bool} {tb : TypeId}
    (own : ownKnob K.prog.godebug = none) (started : os.Started) (noInit : K.prog.inits.idxOf? f = none) (hfn : K.prog.funcs[f]? = some fn)
    (witness : ∃ (w : World) (tape : Tape) (i : Input), w.os = os ∧ (w.forCall tape i).Shaped K.prog ∧ i.vars = [] ∧ Input.okWide K.prog (w.forCall tape i) .any w.heap.size f i ∧
      s.pre6 enc K.prog fn conds apart (w.forCall tape i).memory i.args ∧ ({} : Assume).holds K.prog (lone (Frame.enter K.prog f i.args .normal) [] (w.forCall tape i)))
    (hvars : s.vars = []) (hs : ∀ (H : Type) (ds : List (DataW H)), ds.length = fn.params.size → s.fn H ds = { results := [.lit (.bool true)], args := ds, vars := [] })
    (hrt : fn.resultTypes.toList = [tb]) (hub : K.prog.underlying tb = some .bool)
    (hpar : fn.params.toList.all (fun t => R.contains t && K.prog.readableRec t && decide (t < K.prog.types.size)) = true)
    (law : ∀ args : List D, All2 (HasTy C) fn.params.toList args → PSpec K.prog C f args (· = .lit (.bool true))) :
    ReturnsInHanded {} K os f .any (s.pre6 enc K.prog fn conds apart) (s.post enc K.prog fn apart true false false) := by
  refine returnsInHanded_of_change_sized (C := K) own started noInit hfn witness ?_
  intro W base args ds gs before hval hW _ hwt _
  have hW' := hW
  obtain ⟨p, q, hA, hV, hbef, hnf, _⟩ := hW
  have hlt : ∀ x ∈ before, x.block < W.heap.size := fun x hx => hW'.lt x hx
  rw [hvars] at hV
  obtain ⟨rfl, rfl⟩ := ChangeShapes.trodVars_none hV
  have hvt : s.plain.varTypes K.prog = [] := by simp [ChangeSpec.plain, DataSpec.varTypes, hvars]
  rw [hvt, List.append_nil, List.append_nil] at hwt
  have hwt' : ∀ n ∈ DataW.weightsEach K.prog fn.params.toList ds, n ≤ reachBytes := fun n hn => by simpa using List.all_eq_true.1 hwt n hn
  simp only [List.append_nil] at hbef
  subst hbef
  have hall := List.all_eq_true.1 hpar
  have hts : ∀ t ∈ fn.params.toList, t ∈ R := by
    intro t ht
    have := hall t ht
    simp only [Bool.and_eq_true, List.contains_eq_mem, decide_eq_true_eq] at this
    exact this.1.1
  obtain ⟨xs, h1, h2⟩ := trodAll_ty (b := base) hT hR hts hwt' (fun j t v ht hv => hval j t v (by simpa using ht) (by simpa using hv)) hA
  have hspec := law xs h1
  refine (hspec.2 { S := allCells W, box := [], tok := [], own := fun _ => False } W args (all_real _ W) (h2.mono fun _ _ h => VV.pure h)).mono ?_
  rintro e W' ⟨v, r, h', ρ', rfl, he, _, hv, _, rfl⟩
  have hvb := vv_lit hv
  subst hvb
  have hbel : Below W.heap.size W W' := ⟨he.os, he.tape, he.output, he.size, fun k hk => he.blk k hk (fun h => h)⟩
  have hlen : (ds ++ []).length = fn.params.size := by simp [trodAll_len hA]
  refine ⟨_, rfl, ds, [], before, [], before, [], hW', ?_, ?_, ?_, hbel.frame _, fun h => by cases h⟩
  · rw [hs H (ds ++ []) hlen, hrt]
    have hsz : fn.resultTypes.size = 1 := by rw [← Array.length_toList, hrt]; rfl
    rw [hsz]
    exact ChangeShapes.trodAll_mk1 ⟨1, by simp [DataW.trod, hub, Value.cells]⟩
  · rw [hs H (ds ++ []) hlen]
    simp only [List.append_nil]
    refine trodAll_lt hlaid hbel ?_ hlt hA
    intro t ht
    have := hall t ht
    simp only [Bool.and_eq_true, decide_eq_true_eq] at this
    exact ⟨this.1.2, this.2⟩
  · rw [hs H (ds ++ []) hlen, hvars]
    rfl

end
end Go.Ab
