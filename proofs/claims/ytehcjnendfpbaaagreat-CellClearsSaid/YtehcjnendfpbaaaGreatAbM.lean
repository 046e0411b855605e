/- Whatever order the machine draws for a region, it comes to what the text's order comes to. Conditions: a closed look at the region (okDraw). -/
import Derived.Test.YtehcjnendfpbaaaGreatAbL
namespace Go.Ab
section
variable {P : Program} {C : Tab}

/-- The operations that make variables. -/
def isAlloc (ops : Array Oper) (i : Nat) : Bool := kindAt ops i == 3

def insAll {α : Type} (a : α) : List α → List (List α)
  | [] => [[a]]
  | b :: r => (a :: b :: r) :: (insAll a r).map (b :: ·)
def perms {α : Type} : List α → List (List α)
  | [] => [[]]
  | a :: r => (perms r).flatMap (insAll a)

/-- Each edge that a way binds goes down. -/
def downTo (m : Region.Mode) (ops : Array Oper) (rank : Nat → Nat) : Bool :=
  (List.range ops.size).all fun j => match ops[j]? with
    | some o => o.after.all fun e => !Region.binds m e || (decide (e.on < ops.size) && decide (rank e.on < rank j))
    | none => true

def okOrd (ops : Array Oper) (ord : List Nat) : Bool :=
  ord.isPerm (List.range ops.size) && ord.Pairwise fun k j => (((Region.before ops).getD j 0).testBit k || indep ops k j || (isAlloc ops k && isAlloc ops j)) = true

/-- Whatever order is drawn, it comes to what one of these comes to. -/
def okDraws (ops : Array Oper) (ords : List (List Nat)) : Bool :=
  downTo .any ops (fun j => j) &&
  (!Region.departs ops || (downTo .text ops (fun j => j) && (let g := Region.linearise .gc ops 0; downTo .gc ops fun j => g.idxOf j))) &&
  ords.all (okOrd ops) &&
  (perms ((List.range ops.size).filter (isAlloc ops))).all fun p => ords.any fun ord => ord.filter (isAlloc ops) == p

def okDraw (ops : Array Oper) : Bool := okDraws ops [List.range ops.size]

theorem foldl_push {α β : Type} (g : Array β → α → β) : ∀ (l : List α) (acc0 : Array β),
    (∀ i, i < acc0.size → (l.foldl (fun acc o => acc.push (g acc o)) acc0)[i]? = acc0[i]?) ∧
    ∀ (j : Nat) (x : α), l[j]? = some x → ∃ acc : Array β, acc.size = acc0.size + j ∧ (∀ i, i < acc.size → (l.foldl (fun acc o => acc.push (g acc o)) acc0)[i]? = acc[i]?) ∧
      (l.foldl (fun acc o => acc.push (g acc o)) acc0)[acc0.size + j]? = some (g acc x)
  | [], acc0 => ⟨fun _ _ => rfl, fun j x h => by simp at h⟩
  | a :: l, acc0 => by
    obtain ⟨h1, h2⟩ := foldl_push g l (acc0.push (g acc0 a))
    refine ⟨?_, ?_⟩
    · intro i hi
      simp only [List.foldl_cons]
      rw [h1 i (by simp; omega), Array.getElem?_push, if_neg (by omega)]
    · intro j x hj
      simp only [List.foldl_cons]
      cases j with
      | zero =>
        simp at hj; subst hj
        refine ⟨acc0, by simp, ?_, ?_⟩
        · intro i hi
          rw [h1 i (by simp; omega), Array.getElem?_push, if_neg (by omega)]
        · rw [Nat.add_zero, h1 acc0.size (by simp)]; simp
      | succ j =>
        obtain ⟨acc, k1, k2, k3⟩ := h2 j x (by simpa using hj)
        refine ⟨acc, by rw [k1]; simp; omega, k2, ?_⟩
        rw [show acc0.size + (j + 1) = (acc0.push (g acc0 a)).size + j by simp; omega]; exact k3

theorem mask_foldl {acc : Array Nat} {k : Nat} : ∀ (es : List Edge) (s : Nat), (es.foldl (fun s e => if Region.binds .any e then s ||| 2 ^ e.on ||| acc.getD e.on 0 else s) s).testBit k = true →
    s.testBit k = true ∨ ∃ e ∈ es, Region.binds .any e = true ∧ (k = e.on ∨ (acc.getD e.on 0).testBit k = true)
  | [], s, h => .inl h
  | e :: es, s, h => by
    simp only [List.foldl_cons] at h
    rcases mask_foldl es _ h with h | ⟨e', he', h⟩
    · split at h
      · rename_i hb
        simp only [Nat.testBit_or, Bool.or_eq_true] at h
        rcases h with (h | h) | h
        · exact .inl h
        · rw [Nat.testBit_two_pow] at h
          exact .inr ⟨e, by simp, hb, .inl (by simpa using (by simpa using h : e.on = k).symm)⟩
        · exact .inr ⟨e, by simp, hb, .inr h⟩
      · exact .inl h
    · exact .inr ⟨e', by simp [he'], h⟩

theorem before_in {ops : Array Oper} {L : Nat → Prop} (hon : ∀ (j : Nat) (o : Oper), ops[j]? = some o → ∀ e ∈ o.after.toList, Region.binds .any e = true → e.on < j)
    (hcl : ∀ (j : Nat) (o : Oper), L j → ops[j]? = some o → ∀ e ∈ o.after.toList, Region.binds .any e = true → L e.on) :
    ∀ (j : Nat) (o : Oper), ops[j]? = some o → (∀ e ∈ o.after.toList, Region.binds .any e = true → L e.on) → ∀ k, ((Region.before ops).getD j 0).testBit k = true → L k := by
  intro j
  induction j using Nat.strongRecOn with
  | _ j ih =>
    intro o ho hL k hk
    obtain ⟨_, h2⟩ := foldl_push (fun (acc : Array Nat) (o : Oper) => o.after.foldl (fun s e => if Region.binds .any e then s ||| 2 ^ e.on ||| acc.getD e.on 0 else s) 0) ops.toList #[]
    obtain ⟨acc, a1, a2, a3⟩ := h2 j o (by simpa using ho)
    have hB : Region.before ops = ops.toList.foldl (fun acc o => acc.push (o.after.foldl (fun s e => if Region.binds .any e then s ||| 2 ^ e.on ||| acc.getD e.on 0 else s) 0)) #[] := by
      unfold Region.before
      rw [← Array.foldl_toList]
    rw [← hB] at a2 a3
    simp only [List.size_toArray, List.length_nil, Nat.zero_add] at a1 a3
    rw [Array.getD_eq_getD_getElem?, a3, Option.getD_some, ← Array.foldl_toList] at hk
    rcases mask_foldl _ _ hk with hk | ⟨e, he, hbe, hk⟩
    · simp at hk
    · rcases hk with rfl | hk
      · exact hL e he hbe
      · have hlt := hon j o ho e he hbe
        have hjs : j < ops.size := (Array.getElem?_eq_some_iff.1 ho).1
        have hoe : ops[e.on]? = some ops[e.on] := Array.getElem?_eq_getElem (by omega)
        refine ih e.on hlt _ hoe (hcl e.on _ (hL e he hbe) hoe) k ?_
        rw [Array.getD_eq_getD_getElem?, a2 e.on (by omega), ← Array.getD_eq_getD_getElem?]; exact hk


/-- What is not yet listed, in the text's order. -/
def rest (n : Nat) (listed : Array Bool) : List Nat := (List.range n).filter fun i => !listed.getD i true

theorem rest_split {n m : Nat} {listed : Array Bool} (hm : m < n) (hl : listed.getD m true = false) :
    ∃ l r, rest n listed = l ++ m :: r ∧ rest n (listed.setIfInBounds m true) = l ++ r ∧ ∀ k ∈ l, k < m ∧ listed.getD k true = false := by
  refine ⟨(List.range m).filter fun i => !listed.getD i true, (List.range' (m + 1) (n - m - 1)).filter fun i => !listed.getD i true, ?_, ?_, ?_⟩
  · have e : List.range n = List.range m ++ m :: List.range' (m + 1) (n - m - 1) := by
      rw [List.range_eq_range', List.range_eq_range', show n = m + (1 + (n - m - 1)) by omega, ← List.range'_append_1 (m := m), Nat.zero_add, ← List.range'_append_1]
      simp
    unfold rest
    rw [e, List.filter_append, List.filter_cons]
    simp [hl]
  · have e : List.range n = List.range m ++ m :: List.range' (m + 1) (n - m - 1) := by
      rw [List.range_eq_range', List.range_eq_range', show n = m + (1 + (n - m - 1)) by omega, ← List.range'_append_1 (m := m), Nat.zero_add, ← List.range'_append_1]
      simp
    unfold rest
    rw [e, List.filter_append, List.filter_cons]
    have hself : (listed.setIfInBounds m true).getD m true = true := by
      rw [Array.getD_eq_getD_getElem?, Array.getElem?_setIfInBounds]; simp; split <;> rfl
    have hoth : ∀ i, i ≠ m → (listed.setIfInBounds m true).getD i true = listed.getD i true := by
      intro i hi
      rw [Array.getD_eq_getD_getElem?, Array.getD_eq_getD_getElem?, Array.getElem?_setIfInBounds, if_neg (fun e => hi e.symm)]
    rw [hself]
    simp only [Bool.not_true, Bool.false_eq_true, if_false]
    congr 1
    · refine List.filter_congr fun i hi => ?_
      rw [hoth i (by simp at hi; omega)]
    · refine List.filter_congr fun i hi => ?_
      rw [hoth i (by simp [List.mem_range'_1] at hi; omega)]
  · intro k hk
    simp only [List.mem_filter, List.mem_range, Bool.not_eq_true'] at hk
    exact hk

theorem rest_all {n : Nat} : rest n (Array.replicate n false) = List.range n := by
  unfold rest
  rw [List.filter_eq_self]
  intro i hi
  have : (Array.replicate n false).getD i true = false := by
    rw [Array.getD_eq_getD_getElem?]; simp [List.mem_range.1 hi]
  rw [this]; rfl

/-- What is listed: all, each behind what it is to come behind. -/
theorem go_sound {ops : Array Oper} {m : Region.Mode} {rank : Nat → Nat} (hd : downTo m ops rank = true) : ∀ (fuel t : Nat) (listed : Array Bool) (acc : List Nat), listed.size = ops.size → (rest ops.size listed).length ≤ fuel →
    ∃ l, Region.linearise.go m ops fuel t listed acc = acc.reverse ++ l ∧ l.Perm (rest ops.size listed) ∧
      ∀ x k y, l = x ++ k :: y → ∀ (o : Oper), ops[k]? = some o → ∀ e ∈ o.after.toList, Region.binds m e = true → listed.getD e.on false = true ∨ e.on ∈ x := by
  have hdown : ∀ (j : Nat) (o : Oper), ops[j]? = some o → ∀ e ∈ o.after.toList, Region.binds m e = true → e.on < ops.size ∧ rank e.on < rank j := by
    intro j o ho e he hb
    simp only [downTo, List.all_eq_true, List.mem_range] at hd
    have h1 := hd j (Array.getElem?_eq_some_iff.1 ho).1
    rw [ho] at h1
    simp only [Array.all_eq_true'] at h1
    have h2 := h1 e (by simpa using he)
    rw [hb] at h2
    simpa using h2
  intro fuel
  induction fuel with
  | zero =>
    intro t listed acc hsz hfuel
    have : rest ops.size listed = [] := List.eq_nil_of_length_eq_zero (by omega)
    rw [this]
    exact ⟨[], by simp [Region.linearise.go], .refl _, fun x k y h => by simp at h⟩
  | succ fuel ih =>
    intro t listed acc hsz hfuel
    simp only [Region.linearise.go]
    generalize hrs : (List.range ops.size).filter (fun i => !listed.getD i true && ((ops[i]?).map (fun o => o.after.all fun e => !Region.binds m e || listed.getD e.on false)).getD false) = rs
    cases hpick : rs[t % rs.length]? with
    | none =>
      have hemp : rs = [] := by
        rcases Nat.eq_zero_or_pos rs.length with h0 | h0
        · exact List.eq_nil_of_length_eq_zero h0
        · rw [List.getElem?_eq_none_iff] at hpick
          have := Nat.mod_lt t h0
          omega
      have hnone : ∀ r j, rank j = r → j < ops.size → listed.getD j true = true := by
        intro r
        induction r using Nat.strongRecOn with
        | _ r ihr =>
          intro j hjr hj
          cases hlj : listed.getD j true with
          | true => rfl
          | false =>
            exfalso
            have hin : j ∈ rs := by
              rw [← hrs]
              simp only [List.mem_filter, List.mem_range, hj, true_and, hlj, Bool.not_false, Bool.true_and]
              have ho : ops[j]? = some ops[j] := Array.getElem?_eq_getElem hj
              rw [ho]
              simp only [Option.map_some, Option.getD_some, Array.all_eq_true']
              intro e he
              cases hb : Region.binds m e with
              | false => rfl
              | true =>
                obtain ⟨hs, hlt⟩ := hdown j _ ho e (by simpa using he) hb
                have h1 := ihr (rank e.on) (by omega) e.on rfl hs
                have h2 : listed.getD e.on false = true := by
                  rw [Array.getD_eq_getD_getElem?] at h1 ⊢
                  have : listed[e.on]? = some listed[e.on] := Array.getElem?_eq_getElem (by omega)
                  rw [this] at h1 ⊢; exact h1
                rw [h2]; simp
            rw [hemp] at hin
            cases hin
      have hrest : rest ops.size listed = [] := by
        unfold rest
        rw [List.filter_eq_nil_iff]
        intro j hj
        rw [hnone _ j rfl (by simpa using hj)]; simp
      rw [hrest]
      exact ⟨[], by simp, .refl _, fun x k y h => by simp at h⟩
    | some k =>
      simp only
      have hm := List.mem_of_getElem? hpick
      rw [← hrs] at hm
      simp only [List.mem_filter, List.mem_range, Bool.and_eq_true, Bool.not_eq_true'] at hm
      obtain ⟨hmn, hml, hme⟩ := hm
      have hom : ops[k]? = some ops[k] := Array.getElem?_eq_getElem hmn
      rw [hom] at hme
      simp only [Option.map_some, Option.getD_some, Array.all_eq_true'] at hme
      obtain ⟨l, r, e1, e2, e3⟩ := rest_split hmn hml
      obtain ⟨l', g1, g2, g3⟩ := ih (t / rs.length) (listed.setIfInBounds k true) (k :: acc) (by simp [hsz]) (by
        rw [e2]; rw [e1] at hfuel
        simp at hfuel ⊢; omega)
      refine ⟨k :: l', by rw [g1]; simp, ?_, ?_⟩
      · rw [e1]
        rw [e2] at g2
        exact (g2.cons k).trans List.perm_middle.symm
      · intro x j y hl o ho e he hb
        cases x with
        | nil =>
          simp only [List.nil_append, List.cons.injEq] at hl
          obtain ⟨rfl, rfl⟩ := hl
          rw [hom] at ho; cases ho
          have h1 := hme e (by simpa using he)
          rw [hb] at h1
          exact .inl (by simpa using h1)
        | cons z x =>
          simp only [List.cons_append, List.cons.injEq] at hl
          obtain ⟨rfl, hl⟩ := hl
          rcases g3 x j y hl o ho e he hb with h1 | h1
          · by_cases hk : k = e.on
            · right; simp [hk]
            · left
              rw [Array.getD_eq_getD_getElem?, Array.getElem?_setIfInBounds, if_neg hk] at h1
              rw [Array.getD_eq_getD_getElem?]; exact h1
          · right; simp [h1]

/-- A line of operations may be turned into another one, if whatever changes places does not touch one another. -/
theorem sort_sound {ops : Array Oper} : ∀ (l ord : List Nat), l.Perm ord → ord.Nodup → (∀ k ∈ ord, k < ops.size) → (∀ k j, [k, j].Sublist ord → [j, k].Sublist l → indep ops k j = true) →
    ∀ {s s' : St}, runD P C ops ord s s' → runD P C ops l s s'
  | [], ord, hp, _, _, _, s, s', h => by
    have : ord = [] := List.Perm.eq_nil hp.symm
    subst this; exact h
  | m :: l, ord, hp, hn, hs, hi, s, s', h => by
    have hm : m ∈ ord := hp.subset (by simp)
    obtain ⟨a, b, rfl⟩ := List.append_of_mem hm
    have hp' : l.Perm (a ++ b) := (hp.trans List.perm_middle).cons_inv
    have hnd : (m :: (a ++ b)).Nodup := (List.perm_middle.nodup_iff).1 hn
    have h1 := runD_front (P := P) (C := C) (m := m) (hs m (by simp)) (l := a) (r := b) (by
      intro k hk
      refine ⟨hs k (by simp [hk]), hi k m ?_ ?_⟩
      · have : [k].Sublist a := List.singleton_sublist.2 hk
        exact this.append ((List.Sublist.refl [m]).trans (List.singleton_sublist.2 (by simp)))
      · refine List.Sublist.cons_cons m (List.singleton_sublist.2 ?_)
        exact hp'.symm.subset (by simp [hk])) h
    obtain ⟨s1, h2, h3⟩ := h1
    refine ⟨s1, h2, sort_sound l (a ++ b) hp' (List.nodup_cons.1 hnd).2 (fun k hk => hs k (by simp at hk ⊢; rcases hk with hk | hk <;> simp [hk])) ?_ h3⟩
    intro k j h4 h5
    refine hi k j (h4.trans ?_) (h5.trans (List.sublist_cons_self _ _))
    exact (List.Sublist.refl a).append (List.sublist_cons_self m b)

theorem mem_insAll {α : Type} {a : α} : ∀ {x y : List α}, x ++ a :: y ∈ insAll a (x ++ y)
  | [], [] => by simp [insAll]
  | [], b :: y => by simp [insAll]
  | b :: x, y => by
    simp only [List.cons_append, insAll, List.mem_cons, List.mem_map]
    right
    exact ⟨_, mem_insAll, rfl⟩
theorem mem_perms {α : Type} : ∀ {l p : List α}, p.Perm l → p ∈ perms l
  | [], p, h => by
    have : p = [] := List.Perm.eq_nil h
    subst this; simp [perms]
  | a :: r, p, h => by
    have ha : a ∈ p := h.symm.subset (by simp)
    obtain ⟨x, y, rfl⟩ := List.append_of_mem ha
    have h1 : (x ++ y).Perm r := (List.perm_middle.symm.trans h).cons_inv
    simp only [perms, List.mem_flatMap]
    exact ⟨x ++ y, mem_perms h1, mem_insAll⟩

theorem pair_mem {α : Type} {k j : α} {l : List α} (h : [k, j].Sublist l) : k ∈ l ∧ j ∈ l := ⟨h.subset (by simp), h.subset (by simp)⟩
theorem pair_split {α : Type} {k j : α} {l : List α} (h : [k, j].Sublist l) : ∃ x y, l = x ++ j :: y ∧ k ∈ x := by
  induction l with
  | nil => cases h
  | cons a l ih =>
    cases h with
    | cons _ h => obtain ⟨x, y, rfl, hk⟩ := ih h; exact ⟨a :: x, y, rfl, by simp [hk]⟩
    | cons_cons _ h =>
      have hj : j ∈ l := List.singleton_sublist.1 h
      obtain ⟨x, y, rfl⟩ := List.append_of_mem hj
      exact ⟨k :: x, y, rfl, by simp⟩
theorem pair_anti {α : Type} {k j : α} {l : List α} (hn : l.Nodup) (h1 : [k, j].Sublist l) (h2 : [j, k].Sublist l) : False := by
  obtain ⟨x, y, rfl, hk⟩ := pair_split h1
  have hd := List.nodup_append.1 hn
  obtain ⟨x', y', e, hj⟩ := pair_split h2
  have h3 := hd.2.2
  -- j stands behind k in x, and k behind j
  rcases List.append_eq_append_iff.1 e with ⟨as, e1, e2⟩ | ⟨bs, e1, e2⟩
  · -- x' = x ++ as
    subst e1
    cases as with
    | nil => simp only [List.nil_append, List.cons.injEq] at e2; obtain ⟨rfl, _⟩ := e2; exact h3 j hk j (by simp) rfl
    | cons z as =>
      simp only [List.cons_append, List.cons.injEq] at e2
      obtain ⟨rfl, rfl⟩ := e2
      exact h3 k hk k (by simp) rfl
  · subst e1
    have hj' : j ∈ x' ++ bs := by simp [hj]
    exact h3 j hj' j (by simp) rfl

theorem schedule_sound {ops : Array Oper} {ords : List (List Nat)} (hok : okDraws ops ords = true) (mixed : Bool) (t : Nat) :
    ∃ ord ∈ ords, (∀ k ∈ ord, k < ops.size) ∧ ∀ {s s' : St}, runD P C ops ord s s' → runD P C ops (Region.schedule mixed ops t) s s' := by
  simp only [okDraws, Bool.and_eq_true, Bool.or_eq_true, Bool.not_eq_true'] at hok
  obtain ⟨⟨⟨hany, hmodes⟩, hords⟩, hperms⟩ := hok
  -- the line that is drawn
  have key : ∃ (m : Region.Mode) (rank : Nat → Nat) (t' : Nat), downTo m ops rank = true ∧ Region.schedule mixed ops t = Region.linearise m ops t' := by
    unfold Region.schedule
    split
    · exact ⟨.any, _, t, hany, rfl⟩
    · rename_i hc
      simp only [Bool.or_eq_true, Bool.not_eq_true', not_or, Bool.not_eq_false] at hc
      rcases hmodes with h | ⟨h1, h2⟩
      · rw [h] at hc; exact absurd hc.2 (by simp)
      · split
        · exact ⟨.text, _, _, h1, rfl⟩
        · exact ⟨.gc, _, _, h2, rfl⟩
  obtain ⟨m, rank, t', hdown, hsch⟩ := key
  obtain ⟨l, g1, g2, g3⟩ := go_sound hdown ops.size t' (Array.replicate ops.size false) [] (by simp) (by rw [rest_all]; simp)
  rw [rest_all] at g2
  have hl : Region.schedule mixed ops t = l := by
    rw [hsch]; unfold Region.linearise; rw [g1]; simp
  have hcl : ∀ x k y, l = x ++ k :: y → ∀ (o : Oper), ops[k]? = some o → ∀ e ∈ o.after.toList, Region.binds .any e = true → e.on ∈ x := by
    intro x k y hxl o ho e he hb
    have hb2 : Region.binds m e = true := by
      unfold Region.binds at hb ⊢
      split at hb <;> simp_all
    rcases g3 x k y hxl o ho e he hb2 with h | h
    · exfalso
      rw [Array.getD_eq_getD_getElem?, Array.getElem?_replicate] at h
      split at h <;> simp at h
    · exact h
  have hnd : l.Nodup := g2.nodup_iff.2 List.nodup_range
  -- the order that its variables are made in
  have hp : l.filter (isAlloc ops) ∈ perms ((List.range ops.size).filter (isAlloc ops)) := mem_perms (g2.filter _)
  have := List.all_eq_true.1 hperms _ hp
  obtain ⟨ord, hord, hf⟩ := List.any_eq_true.1 this
  simp only [beq_iff_eq] at hf
  have hoo := List.all_eq_true.1 hords _ hord
  simp only [okOrd, Bool.and_eq_true, decide_eq_true_eq] at hoo
  obtain ⟨ho1, ho2⟩ := hoo
  have ho1 := List.isPerm_iff.1 ho1
  have hnd2 : ord.Nodup := ho1.nodup_iff.2 List.nodup_range
  refine ⟨ord, hord, fun k hk => List.mem_range.1 (ho1.subset hk), ?_⟩
  intro s s' hr
  rw [hl]
  refine sort_sound l ord (g2.trans ho1.symm) hnd2 (fun k hk => List.mem_range.1 (ho1.subset hk)) ?_ hr
  intro k j h1 h2
  have h3 : [k, j].Pairwise fun k j => (((Region.before ops).getD j 0).testBit k || indep ops k j || (isAlloc ops k && isAlloc ops j)) = true := ho2.sublist h1
  simp only [List.pairwise_cons, List.mem_singleton, forall_eq, List.not_mem_nil, false_imp_iff, implies_true, List.Pairwise.nil, and_true, Bool.or_eq_true] at h3
  rcases h3 with (h3 | h3) | h3
  · exfalso
    -- k must stand ahead of j in l
    obtain ⟨x, y, e, hjx⟩ := pair_split h2
    obtain ⟨x1, x2, rfl⟩ := List.append_of_mem hjx
    have hjl : j < ops.size := List.mem_range.1 (ho1.subset (pair_mem h1).2)
    have hoj : ops[j]? = some ops[j] := Array.getElem?_eq_getElem hjl
    have hin : k ∈ x1 := by
      refine before_in (L := fun i => i ∈ x1) ?_ ?_ j _ hoj ?_ k h3
      · intro j o ho e he hb
        simp only [downTo, List.all_eq_true, List.mem_range] at hany
        have q := hany j (Array.getElem?_eq_some_iff.1 ho).1
        rw [ho] at q
        simp only [Array.all_eq_true'] at q
        have q2 := q e (by simpa using he)
        rw [hb] at q2
        simp at q2
        exact q2.2
      · intro i o hi ho e' he hb
        obtain ⟨u, v, rfl⟩ := List.append_of_mem hi
        have := hcl u i (v ++ j :: x2 ++ k :: y) (by rw [e]; simp) o ho e' he hb
        simp [this]
      · intro e' he hb
        exact hcl x1 j (x2 ++ k :: y) (by rw [e]; simp) _ hoj e' he hb
    rw [e] at hnd
    have := (List.nodup_append.1 hnd).2.2
    exact this k (by simp [hin]) k (by simp) rfl
  · exact h3
  · exfalso
    simp only [Bool.and_eq_true] at h3
    have q1 : [k, j].Sublist (ord.filter (isAlloc ops)) := by
      have := h1.filter (isAlloc ops)
      simpa [List.filter_cons, h3.1, h3.2] using this
    rw [hf] at q1
    exact pair_anti hnd (q1.trans List.filter_sublist) h2

/-- The orders of some that keep what stands ahead of what. -/
def gens (bef : Nat → Nat → Bool) : Nat → List Nat → List (List Nat)
  | 0, _ => [[]]
  | n + 1, rem => rem.flatMap fun m => if rem.any (fun k => k != m && bef k m) then [] else (gens bef n (rem.erase m)).map (m :: ·)
theorem mem_gens {bef : Nat → Nat → Bool} : ∀ (p : List Nat) {rem : List Nat}, p.Perm rem → (∀ x m y, p = x ++ m :: y → ∀ k ∈ y, bef k m = false) → p ∈ gens bef p.length rem
  | [], rem, _, _ => by simp [gens]
  | m :: p, rem, hp, hb => by
    simp only [List.length_cons, gens, List.mem_flatMap]
    refine ⟨m, hp.subset (by simp), ?_⟩
    have hany : rem.any (fun k => k != m && bef k m) = false := by
      rw [List.any_eq_false]
      intro k hk
      by_cases e : k = m
      · simp [e]
      · have hkp : k ∈ p := by
          rcases List.mem_cons.1 (hp.symm.subset hk) with h | h
          · exact absurd h e
          · exact h
        have := hb [] m p rfl k hkp
        simp [this]
    rw [hany]
    simp only [Bool.false_eq_true, if_false, List.mem_map, List.cons.injEq, true_and, exists_eq_right]
    refine mem_gens p ?_ ?_
    · have := hp.erase m
      simpa using this
    · intro x m' y e k hk
      exact hb (m :: x) m' y (by rw [e]; rfl) k hk
def okOrdM (mk : List Nat) (ops : Array Oper) (ord : List Nat) : Bool :=
  ord.isPerm (List.range ops.size) && ord.Pairwise fun k j => (((Region.before ops).getD j 0).testBit k || indep ops k j || (isAlloc ops k && isAlloc ops j) || (mk.contains k && mk.contains j) ||
    mk.any (fun m => ((Region.before ops).getD m 0).testBit k && mk.contains j && ord.contains m && decide (ord.idxOf m < ord.idxOf j))) = true
theorem pair_idx {α : Type} [DecidableEq α] {a b : α} {l : List α} (hn : l.Nodup) (h : [a, b].Sublist l) : l.idxOf a < l.idxOf b := by
  obtain ⟨x, y, rfl, ha⟩ := pair_split h
  have hb : b ∉ x := fun hb => (List.nodup_append.1 hn).2.2 b hb b (by simp) rfl
  rw [List.idxOf_append, List.idxOf_append, if_pos ha, if_neg hb]
  have := List.idxOf_lt_length_of_mem ha
  omega
theorem idx_pair {α : Type} [DecidableEq α] {a b : α} {l : List α} (ha : a ∈ l) (hb : b ∈ l) (h : l.idxOf a < l.idxOf b) : [a, b].Sublist l := by
  obtain ⟨x, y, rfl⟩ := List.append_of_mem hb
  have hax : a ∈ x := by
    by_cases hax : a ∈ x
    · exact hax
    · exfalso
      rw [List.idxOf_append, if_neg hax] at h
      have hle : (x ++ b :: y).idxOf b ≤ x.length := by
        rw [List.idxOf_append]
        split
        · rename_i hbx; exact Nat.le_of_lt (List.idxOf_lt_length_of_mem hbx)
        · simp
      omega
  exact (List.singleton_sublist.2 hax).append (List.singleton_sublist.2 (by simp))
/-- Whatever order is drawn, it comes to what one of these comes to: each order of the marked ones that may be, with each of those that make variables, is among them. -/
def okDrawsM (mk : List Nat) (ops : Array Oper) (ords : List (List Nat)) : Bool :=
  downTo .any ops (fun j => j) &&
  (!Region.departs ops || (downTo .text ops (fun j => j) && (let g := Region.linearise .gc ops 0; downTo .gc ops fun j => g.idxOf j))) &&
  ords.all (okOrdM mk ops) &&
  (gens (fun k j => ((Region.before ops).getD j 0).testBit k) ((List.range ops.size).filter mk.contains).length ((List.range ops.size).filter mk.contains)).all fun p => (perms ((List.range ops.size).filter (isAlloc ops))).all fun q => ords.any fun ord => ord.filter mk.contains == p && ord.filter (isAlloc ops) == q
theorem schedule_soundM {ops : Array Oper} {mk : List Nat} {ords : List (List Nat)} (hok : okDrawsM mk ops ords = true) (mixed : Bool) (t : Nat) :
    ∃ ord ∈ ords, (∀ k ∈ ord, k < ops.size) ∧ ∀ {s s' : St}, runD P C ops ord s s' → runD P C ops (Region.schedule mixed ops t) s s' := by
  simp only [okDrawsM, Bool.and_eq_true, Bool.or_eq_true, Bool.not_eq_true'] at hok
  obtain ⟨⟨⟨hany, hmodes⟩, hords⟩, hperms⟩ := hok
  -- the line that is drawn
  have key : ∃ (m : Region.Mode) (rank : Nat → Nat) (t' : Nat), downTo m ops rank = true ∧ Region.schedule mixed ops t = Region.linearise m ops t' := by
    unfold Region.schedule
    split
    · exact ⟨.any, _, t, hany, rfl⟩
    · rename_i hc
      simp only [Bool.or_eq_true, Bool.not_eq_true', not_or, Bool.not_eq_false] at hc
      rcases hmodes with h | ⟨h1, h2⟩
      · rw [h] at hc; exact absurd hc.2 (by simp)
      · split
        · exact ⟨.text, _, _, h1, rfl⟩
        · exact ⟨.gc, _, _, h2, rfl⟩
  obtain ⟨m, rank, t', hdown, hsch⟩ := key
  obtain ⟨l, g1, g2, g3⟩ := go_sound hdown ops.size t' (Array.replicate ops.size false) [] (by simp) (by rw [rest_all]; simp)
  rw [rest_all] at g2
  have hl : Region.schedule mixed ops t = l := by
    rw [hsch]; unfold Region.linearise; rw [g1]; simp
  have hcl : ∀ x k y, l = x ++ k :: y → ∀ (o : Oper), ops[k]? = some o → ∀ e ∈ o.after.toList, Region.binds .any e = true → e.on ∈ x := by
    intro x k y hxl o ho e he hb
    have hb2 : Region.binds m e = true := by
      unfold Region.binds at hb ⊢
      split at hb <;> simp_all
    rcases g3 x k y hxl o ho e he hb2 with h | h
    · exfalso
      rw [Array.getD_eq_getD_getElem?, Array.getElem?_replicate] at h
      split at h <;> simp at h
    · exact h
  have hnd : l.Nodup := g2.nodup_iff.2 List.nodup_range
  -- the order that its variables are made in
  have hbef : ∀ k j, ((Region.before ops).getD j 0).testBit k = true → j < ops.size → ∀ x y, l = x ++ j :: y → k ∈ x := by
    intro k j h3 hjl x1 y1 e
    have hoj : ops[j]? = some ops[j] := Array.getElem?_eq_getElem hjl
    refine before_in (L := fun i => i ∈ x1) ?_ ?_ j _ hoj ?_ k h3
    · intro j o ho e he hb
      simp only [downTo, List.all_eq_true, List.mem_range] at hany
      have q := hany j (Array.getElem?_eq_some_iff.1 ho).1
      rw [ho] at q
      simp only [Array.all_eq_true'] at q
      have q2 := q e (by simpa using he)
      rw [hb] at q2
      simp at q2
      exact q2.2
    · intro i o hi ho e' he hb
      obtain ⟨u, v, rfl⟩ := List.append_of_mem hi
      have := hcl u i (v ++ j :: y1) (by rw [e]; simp) o ho e' he hb
      simp [this]
    · intro e' he hb
      exact hcl x1 j y1 e _ hoj e' he hb
  have hp : l.filter mk.contains ∈ gens (fun k j => ((Region.before ops).getD j 0).testBit k) (l.filter mk.contains).length ((List.range ops.size).filter mk.contains) := by
    refine mem_gens _ (g2.filter _) ?_
    intro x m y hxy k hk
    cases hb : ((Region.before ops).getD m 0).testBit k with
    | false => rfl
    | true =>
      exfalso
      have hml : m ∈ l := (List.mem_filter.1 (show m ∈ l.filter mk.contains by rw [hxy]; simp)).1
      obtain ⟨u, v, e⟩ := List.append_of_mem hml
      have hku := hbef k m hb (List.mem_range.1 (g2.subset hml)) u v e
      have hkm : [m, k].Sublist l := by
        have : [m, k].Sublist (l.filter mk.contains) := by
          rw [hxy]
          exact (List.Sublist.cons_cons m (List.singleton_sublist.2 hk)).trans (List.sublist_append_right x (m :: y))
        exact this.trans List.filter_sublist
      have hmk : [k, m].Sublist l := by
        rw [e]
        exact (List.singleton_sublist.2 hku).append (List.singleton_sublist.2 (by simp))
      exact pair_anti hnd hkm hmk
  have hlen : (l.filter mk.contains).length = ((List.range ops.size).filter mk.contains).length := (g2.filter _).length_eq
  rw [hlen] at hp
  have hq : l.filter (isAlloc ops) ∈ perms ((List.range ops.size).filter (isAlloc ops)) := mem_perms (g2.filter _)
  have := List.all_eq_true.1 (List.all_eq_true.1 hperms _ hp) _ hq
  obtain ⟨ord, hord, hf⟩ := List.any_eq_true.1 this
  simp only [Bool.and_eq_true, beq_iff_eq] at hf
  obtain ⟨hf, hfa⟩ := hf
  have hoo := List.all_eq_true.1 hords _ hord
  simp only [okOrdM, Bool.and_eq_true, decide_eq_true_eq] at hoo
  obtain ⟨ho1, ho2⟩ := hoo
  have ho1 := List.isPerm_iff.1 ho1
  have hnd2 : ord.Nodup := ho1.nodup_iff.2 List.nodup_range
  refine ⟨ord, hord, fun k hk => List.mem_range.1 (ho1.subset hk), ?_⟩
  intro s s' hr
  rw [hl]
  refine sort_sound l ord (g2.trans ho1.symm) hnd2 (fun k hk => List.mem_range.1 (ho1.subset hk)) ?_ hr
  intro k j h1 h2
  have h3 : [k, j].Pairwise fun k j => (((Region.before ops).getD j 0).testBit k || indep ops k j || (isAlloc ops k && isAlloc ops j) || (mk.contains k && mk.contains j) || mk.any (fun m => ((Region.before ops).getD m 0).testBit k && mk.contains j && ord.contains m && decide (ord.idxOf m < ord.idxOf j))) = true := ho2.sublist h1
  simp only [List.pairwise_cons, List.mem_singleton, forall_eq, List.not_mem_nil, false_imp_iff, implies_true, List.Pairwise.nil, and_true, Bool.or_eq_true] at h3
  rcases h3 with (((h3 | h3) | h3) | h3) | h3
  · exfalso
    obtain ⟨x, y, e, hjx⟩ := pair_split h2
    obtain ⟨x1, x2, rfl⟩ := List.append_of_mem hjx
    have hjl : j < ops.size := List.mem_range.1 (ho1.subset (pair_mem h1).2)
    have hin : k ∈ x1 := hbef k j h3 hjl x1 (x2 ++ k :: y) (by rw [e]; simp)
    rw [e] at hnd
    have := (List.nodup_append.1 hnd).2.2
    exact this k (by simp [hin]) k (by simp) rfl
  · exact h3
  · exfalso
    simp only [Bool.and_eq_true] at h3
    have q1 : [k, j].Sublist (ord.filter (isAlloc ops)) := by
      have := h1.filter (isAlloc ops)
      simpa [List.filter_cons, h3.1, h3.2] using this
    rw [hfa] at q1
    exact pair_anti hnd (q1.trans List.filter_sublist) h2
  · exfalso
    simp only [Bool.and_eq_true] at h3
    have q1 : [k, j].Sublist (ord.filter mk.contains) := by
      have := h1.filter mk.contains
      have m1 : k ∈ mk := by simpa using h3.1
      have m2 : j ∈ mk := by simpa using h3.2
      simpa [List.filter_cons, m1, m2] using this
    rw [hf] at q1
    exact pair_anti hnd (q1.trans List.filter_sublist) h2
  · exfalso
    obtain ⟨m, hm, h3⟩ := List.any_eq_true.1 h3
    simp only [Bool.and_eq_true, decide_eq_true_eq] at h3
    obtain ⟨⟨⟨h4, h5⟩, h6⟩, h7⟩ := h3
    have hmo : m ∈ ord := by simpa using h6
    have hjo : j ∈ ord := (pair_mem h1).2
    have q0 : [m, j].Sublist ord := idx_pair hmo hjo h7
    have q1 : [m, j].Sublist (ord.filter mk.contains) := by
      have := q0.filter mk.contains
      have m2 : j ∈ mk := by simpa using h5
      simpa [List.filter_cons, hm, m2] using this
    rw [hf] at q1
    have q2 := pair_idx hnd (q1.trans List.filter_sublist)
    have q3 := pair_idx hnd h2
    have hml : m ∈ l := (q1.trans List.filter_sublist).subset (by simp)
    obtain ⟨x, y, e⟩ := List.append_of_mem hml
    have hkx := hbef k m h4 (List.mem_range.1 (g2.subset hml)) x y e
    have q4 : [k, m].Sublist l := by
      rw [e]
      exact (List.singleton_sublist.2 hkx).append (List.singleton_sublist.2 (by simp))
    have q5 := pair_idx hnd q4
    omega

/-- Operations whose order is open: what a call answers must be one. -/
def aopD (P : Program) (C : Tab) (o : Oper) (K : St → Prop) (s : St) : Prop :=
  match calleeOf P C o s with
  | some (g, args) => ∃ c, MSpec P C g args s.heap c ∧ K (s.put o.dst c)
  | none => ∃ r h', eff C o s.ev s.heap r h' ∧ K (St.put ⟨s.tmps, h'⟩ o.dst r)

def aopsD (P : Program) (C : Tab) (ops : Array Oper) (Q : St → Prop) : List Oper → St → Prop
  | [], s => Q s
  | o :: r, s => if Region.wanted o (yieldedD ops s.tmps) then aopD P C o (aopsD P C ops Q r) s else aopsD P C ops Q r (s.put o.dst (.lit undef))

theorem aopsD_run {ops : Array Oper} {Q : St → Prop} : ∀ (l : List Oper) (ord : List Nat), l = ord.filterMap (fun i => ops[i]?) → (∀ k ∈ ord, k < ops.size) → ∀ {s : St}, aopsD P C ops Q l s → ∃ s', runD P C ops ord s s' ∧ Q s'
  | l, [], hl, _, s, h => by
    simp at hl; subst hl
    exact ⟨s, rfl, h⟩
  | l, k :: ord, hl, hk, s, h => by
    have hks := hk k (by simp)
    have h0 : ops[k]? = some ops[k] := Array.getElem?_eq_getElem hks
    rw [List.filterMap_cons, h0] at hl
    simp only at hl
    generalize ops[k] = o at h0 hl
    subst hl
    have ih := fun {s : St} => @aopsD_run ops Q _ ord rfl (fun k hk' => hk k (by simp [hk'])) s
    simp only [aopsD] at h
    split at h
    · rename_i hw
      unfold aopD at h
      split at h
      · rename_i g args hc
        obtain ⟨c, hs, hk⟩ := h
        obtain ⟨s', h1, h2⟩ := ih hk
        refine ⟨s', ⟨_, ?_, h1⟩, h2⟩
        simp only [stp, h0, hw, if_true, hc]
        exact ⟨c, hs, rfl⟩
      · rename_i hc
        obtain ⟨r, h', he, hk⟩ := h
        obtain ⟨s', h1, h2⟩ := ih hk
        refine ⟨s', ⟨_, ?_, h1⟩, h2⟩
        simp only [stp, h0, hw, if_true, hc]
        exact ⟨r, h', he, rfl⟩
    · rename_i hw
      obtain ⟨s', h1, h2⟩ := ih h
      refine ⟨s', ⟨_, ?_, h1⟩, h2⟩
      simp [stp, h0, hw]

-- CALLS THAT CHANGE MEMORY, IN A REGION WHOSE ORDER IS OPEN
def preOk (ops : Array Oper) (i : Nat) : Bool := match ops[i]? with | some o => decide (kindOf o.op ≤ 1) | none => false
def slotsApart (ops : Array Oper) (p c : Nat) : Bool :=
  (match dstOf ops p with | some t => !(readOf ops c).contains t | none => true) &&
  (match dstOf ops c with | some t => !(readOf ops p).contains t | none => true) &&
  (match dstOf ops p, dstOf ops c with | some t, some u => t != u | _, _ => true)
/-- Operations that only ask, ahead of calls, one behind the other. -/
def okCalls (ops : Array Oper) (pre calls post : List Nat) : Bool :=
  downTo .any ops (fun j => j) &&
  (!Region.departs ops || (downTo .text ops (fun j => j) && (let g := Region.linearise .gc ops 0; downTo .gc ops fun j => g.idxOf j))) &&
  (pre ++ calls ++ post).isPerm (List.range ops.size) &&
  pre.all (preOk ops) &&
  decide (pre.Pairwise fun k j => (((Region.before ops).getD j 0).testBit k || indep ops k j) = true) &&
  decide ((calls ++ post).Pairwise fun k j => ((Region.before ops).getD j 0).testBit k = true) &&
  pre.all (fun p => calls.all fun c => ((Region.before ops).getD c 0).testBit p || slotsApart ops p c) &&
  post.all (fun c => pre.all fun p => ((Region.before ops).getD c 0).testBit p)

def callsD (P : Program) (C : Tab) (ops : Array Oper) (h0 : Heap) (Q : St → Prop) : List Nat → St → Prop
  | [], s => Q s
  | i :: r, s => ∃ o g args R, ops[i]? = some o ∧ o.guard = none ∧ calleeOf P C o s = some (g, args) ∧ ASpec P C g args s.heap R ∧ ∀ r' h', R r' h' → Hle h0 h' ∧ callsD P C ops h0 Q r (St.put ⟨s.tmps, h'⟩ o.dst r')

theorem stp_le {ops : Array Oper} {i : Nat} {ts : List D} {h0 : Heap} {s' : St} (hp : preOk ops i = true) (h : stp P C ops i ⟨ts, h0⟩ s') :
    ∃ r, s' = St.put ⟨ts, h0⟩ (dstOf ops i) r ∧ ∀ (ts2 : List D) (h2 : Heap), (∀ t ∈ readOf ops i, ts2[t]? = ts[t]?) → Hle h0 h2 → stp P C ops i ⟨ts2, h2⟩ (St.put ⟨ts2, h2⟩ (dstOf ops i) r) := by
  unfold preOk at hp
  cases ho : ops[i]? with
  | none => rw [ho] at hp; cases hp
  | some o =>
    rw [ho] at hp
    simp only [decide_eq_true_eq] at hp
    unfold stp at h
    rw [ho] at h
    simp only at h
    have hd : dstOf ops i = o.dst := by simp [dstOf, ho]
    have hr : readOf ops i = readsOf ops o := by simp [readOf, ho]
    rw [hd, hr]
    split at h
    · rename_i hw
      split at h
      · rename_i g args hcal
        obtain ⟨c, hs, rfl⟩ := h
        refine ⟨c, rfl, fun ts2 h2 h3 h4 => ?_⟩
        have hev := ev_congr (s := ⟨ts, h0⟩) (s2 := ⟨ts2, h2⟩) (xs := o.op.operands.toList) fun t ht => h3 t (by simp [readsOf, ht])
        unfold stp
        rw [ho]
        simp only
        rw [← wanted_congr (s := ⟨ts, h0⟩) (s2 := ⟨ts2, h2⟩) h3, if_pos hw, ← callee_congr (s := ⟨ts, h0⟩) (s2 := ⟨ts2, h2⟩) hev, hcal]
        refine ⟨c, hs.more ⟨h2.boxes.drop h0.boxes.length, ?_⟩, rfl⟩
        refine List.ext_getElem? fun i => ?_
        rcases Nat.lt_or_ge i h0.boxes.length with hi | hi
        · rw [List.getElem?_append_left hi, List.getElem?_eq_getElem hi]
          exact h4 i _ (List.getElem?_eq_getElem hi)
        · rw [List.getElem?_append_right hi, List.getElem?_drop]
          congr 1; omega
      · rename_i hcal
        obtain ⟨r, h', he, rfl⟩ := h
        have hh := eff_kind1 hp he
        subst hh
        refine ⟨r, rfl, fun ts2 h2 h3 h4 => ?_⟩
        have hev := ev_congr (s := ⟨ts, h'⟩) (s2 := ⟨ts2, h2⟩) (xs := o.op.operands.toList) fun t ht => h3 t (by simp [readsOf, ht])
        have he2 : eff C o (St.ev ⟨ts, h'⟩) h2 r h2 := by
          by_cases k0 : kindOf o.op = 0
          · exact eff_kind0 k0 he h2
          · exact eff_more (by omega) he h4
        unfold stp
        rw [ho]
        simp only
        rw [← wanted_congr (s := ⟨ts, h'⟩) (s2 := ⟨ts2, h2⟩) h3, if_pos hw, ← callee_congr (s := ⟨ts, h'⟩) (s2 := ⟨ts2, h2⟩) hev, hcal]
        exact ⟨r, h2, eff_congr hev he2, rfl⟩
    · rename_i hw
      subst h
      refine ⟨.lit undef, rfl, fun ts2 h2 h3 h4 => ?_⟩
      unfold stp
      rw [ho]
      simp only
      rw [← wanted_congr (s := ⟨ts, h0⟩) (s2 := ⟨ts2, h2⟩) h3, if_neg hw]
      trivial

theorem aopsN_stp {ops : Array Oper} {Q : St → Prop} {i : Nat} {y : List Nat} {s s' : St} (hp : preOk ops i = true) (h : stp P C ops i s s') (hk : aopsN P C ops Q y s') : aopsN P C ops Q (i :: y) s := by
  unfold preOk at hp
  cases ho : ops[i]? with
  | none => rw [ho] at hp; cases hp
  | some o =>
    unfold stp at h
    rw [ho] at h
    simp only [aopsN, ho]
    simp only at h
    split at h
    · rename_i hw
      rw [if_pos hw]
      unfold aop
      split at h
      · rename_i g args hc
        rw [hc]
        obtain ⟨c, hs, rfl⟩ := h
        refine .inl ⟨_, hs s.heap ⟨[], by simp⟩, ?_⟩
        rintro r h' ⟨rfl, rfl⟩
        exact hk
      · rename_i hc
        rw [hc]
        obtain ⟨r, h', he, rfl⟩ := h
        exact .inl ⟨r, h', he, hk⟩
    · rename_i hw
      rw [if_neg hw]
      subst h; exact hk

theorem runD_tmps {ops : Array Oper} : ∀ (l : List Nat) {ts : List D} {h0 : Heap} {s' : St}, (∀ p ∈ l, preOk ops p = true) → runD P C ops l ⟨ts, h0⟩ s' → s'.heap = h0 ∧ ∀ t, (∀ p ∈ l, dstOf ops p ≠ some t) → s'.tmps[t]? = ts[t]?
  | [], ts, h0, s', _, h => by cases h; exact ⟨rfl, fun _ _ => rfl⟩
  | p :: l, ts, h0, s', hp, h => by
    obtain ⟨s1, h1, h2⟩ := h
    obtain ⟨r, rfl, _⟩ := stp_le (hp p (by simp)) h1
    have e : St.put ⟨ts, h0⟩ (dstOf ops p) r = ⟨(St.put ⟨ts, h0⟩ (dstOf ops p) r).tmps, h0⟩ := by cases dstOf ops p <;> rfl
    rw [e] at h2
    obtain ⟨k1, k2⟩ := runD_tmps l (fun q hq => hp q (by simp [hq])) h2
    refine ⟨k1, fun t ht => ?_⟩
    rw [k2 t fun q hq => ht q (by simp [hq])]
    exact put_other (s := ⟨ts, h0⟩) (ht p (by simp))

theorem runD_set {ops : Array Oper} {d : Tmp} {x : D} : ∀ (l : List Nat) {ts ts1 : List D} {h0 : Heap}, (∀ p ∈ l, preOk ops p = true) → (∀ p ∈ l, d ∉ readOf ops p ∧ dstOf ops p ≠ some d) → runD P C ops l ⟨ts, h0⟩ ⟨ts1, h0⟩ → runD P C ops l ⟨ts.set d x, h0⟩ ⟨ts1.set d x, h0⟩
  | [], ts, ts1, h0, _, _, h => by cases h; rfl
  | p :: l, ts, ts1, h0, hp, hd, h => by
    obtain ⟨s1, h1, h2⟩ := h
    obtain ⟨r, rfl, h3⟩ := stp_le (hp p (by simp)) h1
    have e : ∀ ts : List D, St.put ⟨ts, h0⟩ (dstOf ops p) r = ⟨(St.put ⟨ts, h0⟩ (dstOf ops p) r).tmps, h0⟩ := fun ts => by cases dstOf ops p <;> rfl
    rw [e] at h2
    have ih := runD_set (x := x) l (fun q hq => hp q (by simp [hq])) (fun q hq => hd q (by simp [hq])) h2
    refine ⟨_, h3 (ts.set d x) h0 (fun t ht => ?_) (.refl _), ?_⟩
    · have : d ≠ t := fun e => (hd p (by simp)).1 (e ▸ ht)
      rw [List.getElem?_set_ne this]
    · rw [e]
      have e2 : (St.put ⟨ts.set d x, h0⟩ (dstOf ops p) r).tmps = (St.put ⟨ts, h0⟩ (dstOf ops p) r).tmps.set d x := by
        cases hq : dstOf ops p with
        | none => rfl
        | some u =>
          have : d ≠ u := fun e => (hd p (by simp)).2 (by rw [hq, e])
          show (ts.set d x).set u r = (ts.set u r).set d x
          rw [List.set_comm _ _ this]
      rw [e2]; exact ih

theorem chain_eq {bef : Nat → Nat → Prop} : ∀ (y l : List Nat), y.Perm l → y.Nodup → (∀ k j, bef k j → ∀ x z, y = x ++ j :: z → k ∉ z) → l.Pairwise bef → y = l
  | [], l, h, _, _, _ => by simpa using h.symm
  | i :: y, [], h, _, _, _ => by simp at h
  | i :: y, c :: l, h, hnd, hord, hl => by
    have hic : i = c := by
      have hi : i ∈ c :: l := h.subset (by simp)
      rcases List.mem_cons.1 hi with h1 | h1
      · exact h1
      · exfalso
        have hb : bef c i := (List.pairwise_cons.1 hl).1 i h1
        have hc : c ∈ i :: y := h.symm.subset (by simp)
        rcases List.mem_cons.1 hc with h2 | h2
        · subst h2
          have := (h.nodup_iff.1 hnd)
          exact (List.nodup_cons.1 this).1 h1
        · exact hord c i hb [] y rfl h2
    subst hic
    rw [chain_eq y l ((List.perm_cons i).1 h) (List.nodup_cons.1 hnd).2 (fun k j hb x z e => hord k j hb (i :: x) z (by rw [e]; rfl)) (List.pairwise_cons.1 hl).2]
theorem calls_soundG {ops : Array Oper} {Q : St → Prop} {h0 : Heap} (bef : Nat → Nat → Prop) (hbi : ∀ k j, bef k j ∨ ¬ bef k j) : ∀ (y pre calls post : List Nat) (ts ts1 : List D) (h : Heap), y.Perm (pre ++ (calls ++ post)) → y.Nodup →
    (∀ k j, bef k j → ∀ x z, y = x ++ j :: z → k ∉ z) → (∀ p ∈ pre, p < ops.size ∧ preOk ops p = true) → pre.Pairwise (fun k j => bef k j ∨ indep ops k j = true) → (calls.Pairwise bef ∧ ∀ c ∈ calls, ∀ p ∈ post, bef c p) →
    (∀ p ∈ pre, ∀ c ∈ calls, bef p c ∨ slotsApart ops p c = true) → (∀ c ∈ post, ∀ p ∈ pre, bef p c) → Hle h0 h → runD P C ops pre ⟨ts, h0⟩ ⟨ts1, h0⟩ → callsD P C ops h0 (fun s1 => ∀ z : List Nat, z.Perm post → z.Nodup → (∀ k j, bef k j → ∀ x w, z = x ++ j :: w → k ∉ w) → aopsN P C ops Q z s1) calls ⟨ts1, h⟩ → aopsN P C ops Q y ⟨ts, h⟩
  | [], pre, calls, post, ts, ts1, h, hperm, _, _, _, _, _, _, _, _, hrun, hc => by
    have hl := hperm.length_eq
    simp only [List.length_nil, List.length_append] at hl
    have e1 : calls = [] := List.eq_nil_of_length_eq_zero (by omega)
    have e2 : pre = [] := List.eq_nil_of_length_eq_zero (by omega)
    have e3 : post = [] := List.eq_nil_of_length_eq_zero (by omega)
    subst e1; subst e2; subst e3
    cases hrun
    exact hc [] (by simp) (by simp) (by intro k j _ x w e; simp at e)
  | i :: y, pre, calls, post, ts, ts1, h, hperm, hnd, hord, hpre, hpp, hcc, hpc, hlast, hle, hrun, hc => by
    have hnd2 : (pre ++ (calls ++ post)).Nodup := hperm.nodup_iff.1 hnd
    have hiy : i ∉ y := (List.nodup_cons.1 hnd).1
    have hord' : ∀ k j, bef k j → ∀ x z, y = x ++ j :: z → k ∉ z := fun k j hb x z e => hord k j hb (i :: x) z (by rw [e]; rfl)
    have hfirst : ∀ k, k ∈ y → ¬ bef k i := fun k hk hb => hord k i hb [] y rfl hk
    rcases List.mem_append.1 (hperm.subset (List.mem_cons_self)) with hi | hi
    · -- it only asks
      obtain ⟨u, v, rfl⟩ := List.append_of_mem hi
      have hperm' : y.Perm (u ++ v ++ (calls ++ post)) := by
        have : (u ++ i :: v ++ (calls ++ post)).Perm (i :: (u ++ v ++ (calls ++ post))) := by
          rw [List.append_assoc, List.append_assoc]; exact List.perm_middle
        exact (List.perm_cons i).1 (hperm.trans this)
      have hui : ∀ k ∈ u, k < ops.size ∧ indep ops k i = true := by
        intro k hk
        refine ⟨(hpre k (by simp [hk])).1, ?_⟩
        have h1 := (List.pairwise_append.1 hpp).2.2 k hk i (by simp)
        rcases h1 with h1 | h1
        · exact absurd h1 (hfirst k (hperm'.symm.subset (by simp [hk])))
        · exact h1
      obtain ⟨s1, g1, g2⟩ := runD_front (hpre i (by simp)).1 hui hrun
      obtain ⟨r, rfl, g3⟩ := stp_le (hpre i (by simp)).2 g1
      have e : ∀ h : Heap, St.put ⟨ts, h⟩ (dstOf ops i) r = ⟨(St.put ⟨ts, h0⟩ (dstOf ops i) r).tmps, h⟩ := fun h => by cases dstOf ops i <;> rfl
      refine aopsN_stp (hpre i (by simp)).2 (g3 ts h (fun _ _ => rfl) hle) ?_
      rw [e]
      rw [e] at g2
      refine calls_soundG bef hbi y (u ++ v) calls post _ ts1 h hperm' (List.nodup_cons.1 hnd).2 hord' (fun p hp => hpre p (by simp only [List.mem_append, List.mem_cons] at hp ⊢; rcases hp with hp | hp <;> simp [hp])) ?_ hcc (fun p hp => hpc p (by simp only [List.mem_append, List.mem_cons] at hp ⊢; rcases hp with hp | hp <;> simp [hp])) (fun c hcl p hp => hlast c hcl p (by simp only [List.mem_append, List.mem_cons] at hp ⊢; rcases hp with hp | hp <;> simp [hp])) hle g2 hc
      exact hpp.sublist ((List.Sublist.refl u).append (List.sublist_cons_self i v))
    · -- it is the next call
      cases calls with
      | nil =>
        -- all else is done
        have hpn : pre = [] := by
          cases pre with
          | nil => rfl
          | cons p r =>
            exfalso
            have hpy : p ∈ y := by
              have : p ∈ i :: y := hperm.symm.subset (by simp)
              rcases List.mem_cons.1 this with h2 | h2
              · exfalso
                subst h2
                exact (List.nodup_append.1 hnd2).2.2 p (by simp) p hi rfl
              · exact h2
            exact hfirst p hpy (hlast i (by simpa using hi) p (by simp))
        subst hpn
        cases hrun
        exact hc (i :: y) (by simpa using hperm) hnd hord
      | cons c cs =>
        have hic : i = c := by
          rcases List.mem_cons.1 hi with h1 | h1
          · exact h1
          · exfalso
            have hb : bef c i := by
              rcases List.mem_append.1 h1 with h2 | h2
              · exact (List.pairwise_cons.1 hcc.1).1 i h2
              · exact hcc.2 c (by simp) i h2
            have hcy : c ∈ y := by
              have hcm : c ∈ i :: y := hperm.symm.subset (by simp)
              rcases List.mem_cons.1 hcm with h2 | h2
              · exfalso
                subst h2
                have := (List.nodup_append.1 hnd2).2.1
                exact (List.nodup_cons.1 this).1 h1
              · exact h2
            exact hfirst c hcy hb
        subst hic
        have hperm' : y.Perm (pre ++ (cs ++ post)) := by
          have : (pre ++ (i :: cs ++ post)).Perm (i :: (pre ++ (cs ++ post))) := List.perm_middle
          exact (List.perm_cons i).1 (hperm.trans this)
        have hpnb : ∀ p ∈ pre, ¬ bef p i := fun p hp => hfirst p (hperm'.symm.subset (by simp [hp]))
        obtain ⟨o, g, args, R, ho, hg, hcal, hspec, hk⟩ := hc
        simp only [aopsN, ho]
        have hw : Region.wanted o (yieldedD ops ts) = true := by simp [Region.wanted, hg]
        rw [if_pos hw]
        have hap : ∀ p ∈ pre, slotsApart ops p i = true := fun p hp => (hpc p hp i (by simp)).resolve_left (hpnb p hp)
        have hdst : dstOf ops i = o.dst := by simp [dstOf, ho]
        have hro : readOf ops i = readsOf ops o := by simp [readOf, ho]
        obtain ⟨_, htm⟩ := runD_tmps pre (fun p hp => (hpre p hp).2) hrun
        have hcal2 : calleeOf P C o ⟨ts, h⟩ = some (g, args) := by
          rw [← hcal]
          refine callee_congr (ev_congr fun t ht => ?_)
          refine htm t fun p hp e => ?_
          have := hap p hp
          simp only [slotsApart, Bool.and_eq_true] at this
          have h1 := this.1.1
          rw [e] at h1
          simp only [Bool.not_eq_true', List.contains_eq_mem, decide_eq_false_iff_not] at h1
          exact h1 (by rw [hro]; simp [readsOf, ht])
        unfold aop
        rw [hcal2]
        refine .inl ⟨R, hspec, fun r' h' hr => ?_⟩
        obtain ⟨k1, k2⟩ := hk r' h' hr
        have fin : ∀ ts' ts1', St.put ⟨ts, h'⟩ o.dst r' = ⟨ts', h'⟩ → St.put ⟨ts1, h'⟩ o.dst r' = ⟨ts1', h'⟩ → runD P C ops pre ⟨ts', h0⟩ ⟨ts1', h0⟩ → aopsN P C ops Q y (St.put ⟨ts, h'⟩ o.dst r') := by
          intro ts' ts1' e1 e2 hrun'
          rw [e1]
          rw [e2] at k2
          exact calls_soundG bef hbi y pre cs post ts' ts1' h' hperm' (List.nodup_cons.1 hnd).2 hord' hpre hpp ⟨(List.pairwise_cons.1 hcc.1).2, fun c hc p hp => hcc.2 c (List.mem_cons_of_mem _ hc) p hp⟩ (fun p hp c hc => hpc p hp c (List.mem_cons_of_mem _ hc)) hlast k1 hrun' k2
        cases hdo : o.dst with
        | none => rw [hdo] at fin; exact fin ts ts1 rfl rfl hrun
        | some d =>
          rw [hdo] at fin
          refine fin _ _ rfl rfl (runD_set pre (fun p hp => (hpre p hp).2) (fun p hp => ?_) hrun)
          have := hap p hp
          simp only [slotsApart, Bool.and_eq_true] at this
          obtain ⟨⟨_, h2⟩, h3⟩ := this
          rw [hdst, hdo] at h2 h3
          simp only [Bool.not_eq_true', List.contains_eq_mem, decide_eq_false_iff_not] at h2
          refine ⟨h2, fun e => ?_⟩
          rw [e] at h3
          simp at h3

theorem callsD_mono {ops : Array Oper} {Q Q' : St → Prop} {h0 : Heap} (hq : ∀ s, Q s → Q' s) : ∀ (calls : List Nat) {s : St}, callsD P C ops h0 Q calls s → callsD P C ops h0 Q' calls s
  | [], s, h => hq s h
  | i :: r, s, ⟨o, g, args, R, h1, h2, h3, h4, h5⟩ => ⟨o, g, args, R, h1, h2, h3, h4, fun r' h' hr => ⟨(h5 r' h' hr).1, callsD_mono hq r (h5 r' h' hr).2⟩⟩
theorem calls_sound {ops : Array Oper} {Q : St → Prop} {h0 : Heap} (bef : Nat → Nat → Prop) (hbi : ∀ k j, bef k j ∨ ¬ bef k j) (y pre calls post : List Nat) (ts ts1 : List D) (h : Heap) (h1 : y.Perm (pre ++ (calls ++ post))) (h2 : y.Nodup)
    (h3 : ∀ k j, bef k j → ∀ x z, y = x ++ j :: z → k ∉ z) (h4 : ∀ p ∈ pre, p < ops.size ∧ preOk ops p = true) (h5 : pre.Pairwise (fun k j => bef k j ∨ indep ops k j = true)) (h6 : (calls ++ post).Pairwise bef)
    (h7 : ∀ p ∈ pre, ∀ c ∈ calls, bef p c ∨ slotsApart ops p c = true) (h8 : ∀ c ∈ post, ∀ p ∈ pre, bef p c) (h9 : Hle h0 h) (h10 : runD P C ops pre ⟨ts, h0⟩ ⟨ts1, h0⟩) (h11 : callsD P C ops h0 (aopsN P C ops Q post) calls ⟨ts1, h⟩) : aopsN P C ops Q y ⟨ts, h⟩ := by
  obtain ⟨q1, q2, q3⟩ := List.pairwise_append.1 h6
  refine calls_soundG bef hbi y pre calls post ts ts1 h h1 h2 h3 h4 h5 ⟨q1, q3⟩ h7 h8 h9 h10 (callsD_mono (fun s hs z z1 z2 z3 => ?_) calls h11)
  rw [chain_eq z post z1 z2 z3 q2]; exact hs
/-- What is behind the calls only asks, in whichever order. -/
theorem calls_soundP {ops : Array Oper} {Q : St → Prop} {h0 : Heap} (bef : Nat → Nat → Prop) (hbi : ∀ k j, bef k j ∨ ¬ bef k j) (y pre calls post : List Nat) (ts ts1 : List D) (h : Heap) (h1 : y.Perm (pre ++ (calls ++ post))) (h2 : y.Nodup)
    (h3 : ∀ k j, bef k j → ∀ x z, y = x ++ j :: z → k ∉ z) (h4 : ∀ p ∈ pre, p < ops.size ∧ preOk ops p = true) (h5 : pre.Pairwise (fun k j => bef k j ∨ indep ops k j = true)) (h6 : calls.Pairwise bef ∧ ∀ c ∈ calls, ∀ p ∈ post, bef c p)
    (h7 : ∀ p ∈ pre, ∀ c ∈ calls, bef p c ∨ slotsApart ops p c = true) (h8 : ∀ c ∈ post, ∀ p ∈ pre, bef p c) (h9 : Hle h0 h) (h10 : runD P C ops pre ⟨ts, h0⟩ ⟨ts1, h0⟩)
    (p1 : ∀ p ∈ post, p < ops.size ∧ preOk ops p = true) (p2 : post.Pairwise (fun k j => bef k j ∨ indep ops k j = true)) (h11 : callsD P C ops h0 (aopsD P C ops Q (post.filterMap fun i => ops[i]?)) calls ⟨ts1, h⟩) : aopsN P C ops Q y ⟨ts, h⟩ := by
  refine calls_soundG bef hbi y pre calls post ts ts1 h h1 h2 h3 h4 h5 h6 h7 h8 h9 h10 (callsD_mono (fun s hs z z1 z2 z3 => ?_) calls h11)
  obtain ⟨s', hr, hq⟩ := aopsD_run _ post rfl (fun k hk => (p1 k hk).1) hs
  obtain ⟨ts, h⟩ := s
  obtain ⟨k1, _⟩ := runD_tmps post (fun p hp => (p1 p hp).2) hr
  obtain ⟨ts', h'⟩ := s'
  simp only at k1
  subst k1
  refine calls_soundG (h0 := h') bef hbi z post [] [] ts ts' h' (by simpa using z1) z2 z3 p1 p2 ⟨.nil, by simp⟩ (by simp) (by simp) (.refl _) hr ?_
  show ∀ w : List Nat, _
  intro w hw _ _
  obtain rfl : w = [] := by simpa using hw
  exact hq

/-- A region whose order is open, in which calls change memory, one behind the other. -/
def drawC (P : Program) (C : Tab) (ops : Array Oper) (Q : St → Prop) (s : St) : Prop :=
  ∃ pre calls post, okCalls ops pre calls post = true ∧ aopsD P C ops (fun s1 => callsD P C ops s.heap (aopsN P C ops Q post) calls s1) (pre.filterMap fun i => ops[i]?) s

theorem drawC_sound {ops : Array Oper} {Q : St → Prop} {s : St} (hd : drawC P C ops Q s) (mixed : Bool) (t : Nat) : aopsN P C ops Q (Region.schedule mixed ops t) s := by
  obtain ⟨pre, calls, post, hok, hrun⟩ := hd
  simp only [okCalls, Bool.and_eq_true, Bool.or_eq_true, Bool.not_eq_true', decide_eq_true_eq] at hok
  obtain ⟨⟨⟨⟨⟨⟨⟨hany, hmodes⟩, hperm⟩, hpre⟩, hpp⟩, hcc⟩, hpc⟩, hlast⟩ := hok
  have key : ∃ (m : Region.Mode) (rank : Nat → Nat) (t' : Nat), downTo m ops rank = true ∧ Region.schedule mixed ops t = Region.linearise m ops t' := by
    unfold Region.schedule
    split
    · exact ⟨.any, _, t, hany, rfl⟩
    · rename_i hc
      simp only [Bool.or_eq_true, Bool.not_eq_true', not_or, Bool.not_eq_false] at hc
      rcases hmodes with h | ⟨h1, h2⟩
      · rw [h] at hc; exact absurd hc.2 (by simp)
      · split
        · exact ⟨.text, _, _, h1, rfl⟩
        · exact ⟨.gc, _, _, h2, rfl⟩
  obtain ⟨m, rank, t', hdown, hsch⟩ := key
  obtain ⟨l, g1, g2, g3⟩ := go_sound hdown ops.size t' (Array.replicate ops.size false) [] (by simp) (by rw [rest_all]; simp)
  rw [rest_all] at g2
  have hl : Region.schedule mixed ops t = l := by
    rw [hsch]; unfold Region.linearise; rw [g1]; simp
  have hcl : ∀ x k y, l = x ++ k :: y → ∀ (o : Oper), ops[k]? = some o → ∀ e ∈ o.after.toList, Region.binds .any e = true → e.on ∈ x := by
    intro x k y hxl o ho e he hb
    have hb2 : Region.binds m e = true := by
      unfold Region.binds at hb ⊢
      split at hb <;> simp_all
    rcases g3 x k y hxl o ho e he hb2 with h | h
    · exfalso
      rw [Array.getD_eq_getD_getElem?, Array.getElem?_replicate] at h
      split at h <;> simp at h
    · exact h
  have hnd : l.Nodup := g2.nodup_iff.2 List.nodup_range
  have hbef : ∀ k j, ((Region.before ops).getD j 0).testBit k = true → j < ops.size → ∀ x y, l = x ++ j :: y → k ∈ x := by
    intro k j h3 hjl x1 y1 e
    have hoj : ops[j]? = some ops[j] := Array.getElem?_eq_getElem hjl
    refine before_in (L := fun i => i ∈ x1) ?_ ?_ j _ hoj ?_ k h3
    · intro j o ho e he hb
      simp only [downTo, List.all_eq_true, List.mem_range] at hany
      have q := hany j (Array.getElem?_eq_some_iff.1 ho).1
      rw [ho] at q
      simp only [Array.all_eq_true'] at q
      have q2 := q e (by simpa using he)
      rw [hb] at q2
      simp at q2
      exact q2.2
    · intro i o hi ho e' he hb
      obtain ⟨u, v, rfl⟩ := List.append_of_mem hi
      have := hcl u i (v ++ j :: y1) (by rw [e]; simp) o ho e' he hb
      simp [this]
    · intro e' he hb
      exact hcl x1 j y1 e _ hoj e' he hb
  have hperm := List.isPerm_iff.1 hperm
  have hprel : ∀ p ∈ pre, p < ops.size := fun p hp => List.mem_range.1 (hperm.subset (by simp [hp]))
  obtain ⟨s', hr, hq⟩ := aopsD_run _ pre rfl hprel hrun
  have hpre' := List.all_eq_true.1 hpre
  obtain ⟨ts, h⟩ := s
  obtain ⟨k1, _⟩ := runD_tmps pre hpre' hr
  obtain ⟨ts1, h1⟩ := s'
  simp only at k1
  subst k1
  rw [hl]
  refine calls_sound (fun k j => ((Region.before ops).getD j 0).testBit k = true) (fun _ _ => Classical.em _) l pre calls post ts ts1 h1 (by rw [← List.append_assoc]; exact g2.trans hperm.symm) hnd ?_ (fun p hp => ⟨hprel p hp, hpre' p hp⟩) ?_ hcc ?_ ?_ (.refl _) hr hq
  · intro k j hb x z e hk
    have hjl : j < ops.size := List.mem_range.1 (g2.subset (by rw [e]; simp))
    have hkx := hbef k j hb hjl x z e
    rw [e] at hnd
    exact (List.nodup_append.1 hnd).2.2 k hkx k (by simp [hk]) rfl
  · refine hpp.imp ?_
    intro a b hab
    simpa using hab
  · intro p hp c hc
    have := List.all_eq_true.1 (List.all_eq_true.1 hpc p hp) c hc
    simpa using this
  · intro c hcl p hp
    simpa using List.all_eq_true.1 (List.all_eq_true.1 hlast c hcl) p hp

/-- Calls, one behind the other, between operations that only ask. -/
def okCallsP (ops : Array Oper) (pre calls post : List Nat) : Bool :=
  downTo .any ops (fun j => j) &&
  (!Region.departs ops || (downTo .text ops (fun j => j) && (let g := Region.linearise .gc ops 0; downTo .gc ops fun j => g.idxOf j))) &&
  (pre ++ calls ++ post).isPerm (List.range ops.size) &&
  pre.all (preOk ops) &&
  decide (pre.Pairwise fun k j => (((Region.before ops).getD j 0).testBit k || indep ops k j) = true) &&
  (decide (calls.Pairwise fun k j => ((Region.before ops).getD j 0).testBit k = true) && calls.all (fun c => post.all fun p => ((Region.before ops).getD p 0).testBit c)) &&
  pre.all (fun p => calls.all fun c => ((Region.before ops).getD c 0).testBit p || slotsApart ops p c) &&
  post.all (fun c => pre.all fun p => ((Region.before ops).getD c 0).testBit p) &&
  (post.all (preOk ops) && decide (post.Pairwise fun k j => (((Region.before ops).getD j 0).testBit k || indep ops k j) = true))
def drawP (P : Program) (C : Tab) (ops : Array Oper) (Q : St → Prop) (s : St) : Prop :=
  ∃ pre calls post, okCallsP ops pre calls post = true ∧ aopsD P C ops (fun s1 => callsD P C ops s.heap (aopsD P C ops Q (post.filterMap fun i => ops[i]?)) calls s1) (pre.filterMap fun i => ops[i]?) s

theorem drawP_sound {ops : Array Oper} {Q : St → Prop} {s : St} (hd : drawP P C ops Q s) (mixed : Bool) (t : Nat) : aopsN P C ops Q (Region.schedule mixed ops t) s := by
  obtain ⟨pre, calls, post, hok, hrun⟩ := hd
  simp only [okCallsP, Bool.and_eq_true, Bool.or_eq_true, Bool.not_eq_true', decide_eq_true_eq] at hok
  obtain ⟨⟨⟨⟨⟨⟨⟨⟨hany, hmodes⟩, hperm⟩, hpre⟩, hpp⟩, hcc⟩, hpc⟩, hlast⟩, hpo1, hpo2⟩ := hok
  have key : ∃ (m : Region.Mode) (rank : Nat → Nat) (t' : Nat), downTo m ops rank = true ∧ Region.schedule mixed ops t = Region.linearise m ops t' := by
    unfold Region.schedule
    split
    · exact ⟨.any, _, t, hany, rfl⟩
    · rename_i hc
      simp only [Bool.or_eq_true, Bool.not_eq_true', not_or, Bool.not_eq_false] at hc
      rcases hmodes with h | ⟨h1, h2⟩
      · rw [h] at hc; exact absurd hc.2 (by simp)
      · split
        · exact ⟨.text, _, _, h1, rfl⟩
        · exact ⟨.gc, _, _, h2, rfl⟩
  obtain ⟨m, rank, t', hdown, hsch⟩ := key
  obtain ⟨l, g1, g2, g3⟩ := go_sound hdown ops.size t' (Array.replicate ops.size false) [] (by simp) (by rw [rest_all]; simp)
  rw [rest_all] at g2
  have hl : Region.schedule mixed ops t = l := by
    rw [hsch]; unfold Region.linearise; rw [g1]; simp
  have hcl : ∀ x k y, l = x ++ k :: y → ∀ (o : Oper), ops[k]? = some o → ∀ e ∈ o.after.toList, Region.binds .any e = true → e.on ∈ x := by
    intro x k y hxl o ho e he hb
    have hb2 : Region.binds m e = true := by
      unfold Region.binds at hb ⊢
      split at hb <;> simp_all
    rcases g3 x k y hxl o ho e he hb2 with h | h
    · exfalso
      rw [Array.getD_eq_getD_getElem?, Array.getElem?_replicate] at h
      split at h <;> simp at h
    · exact h
  have hnd : l.Nodup := g2.nodup_iff.2 List.nodup_range
  have hbef : ∀ k j, ((Region.before ops).getD j 0).testBit k = true → j < ops.size → ∀ x y, l = x ++ j :: y → k ∈ x := by
    intro k j h3 hjl x1 y1 e
    have hoj : ops[j]? = some ops[j] := Array.getElem?_eq_getElem hjl
    refine before_in (L := fun i => i ∈ x1) ?_ ?_ j _ hoj ?_ k h3
    · intro j o ho e he hb
      simp only [downTo, List.all_eq_true, List.mem_range] at hany
      have q := hany j (Array.getElem?_eq_some_iff.1 ho).1
      rw [ho] at q
      simp only [Array.all_eq_true'] at q
      have q2 := q e (by simpa using he)
      rw [hb] at q2
      simp at q2
      exact q2.2
    · intro i o hi ho e' he hb
      obtain ⟨u, v, rfl⟩ := List.append_of_mem hi
      have := hcl u i (v ++ j :: y1) (by rw [e]; simp) o ho e' he hb
      simp [this]
    · intro e' he hb
      exact hcl x1 j y1 e _ hoj e' he hb
  have hperm := List.isPerm_iff.1 hperm
  have hprel : ∀ p ∈ pre, p < ops.size := fun p hp => List.mem_range.1 (hperm.subset (by simp [hp]))
  obtain ⟨s', hr, hq⟩ := aopsD_run _ pre rfl hprel hrun
  have hpre' := List.all_eq_true.1 hpre
  obtain ⟨ts, h⟩ := s
  obtain ⟨k1, _⟩ := runD_tmps pre hpre' hr
  obtain ⟨ts1, h1⟩ := s'
  simp only at k1
  subst k1
  rw [hl]
  refine calls_soundP (fun k j => ((Region.before ops).getD j 0).testBit k = true) (fun _ _ => Classical.em _) l pre calls post ts ts1 h1 (by rw [← List.append_assoc]; exact g2.trans hperm.symm) hnd ?_ (fun p hp => ⟨hprel p hp, hpre' p hp⟩) ?_ ⟨hcc.1, ?_⟩ ?_ ?_ (.refl _) hr (fun p hp => ⟨List.mem_range.1 (hperm.subset (by simp [hp])), List.all_eq_true.1 hpo1 p hp⟩) ?_ hq
  · intro k j hb x z e hk
    have hjl : j < ops.size := List.mem_range.1 (g2.subset (by rw [e]; simp))
    have hkx := hbef k j hb hjl x z e
    rw [e] at hnd
    exact (List.nodup_append.1 hnd).2.2 k hkx k (by simp [hk]) rfl
  · refine hpp.imp ?_
    intro a b hab
    simpa using hab
  · intro c hc p hp
    simpa using List.all_eq_true.1 (List.all_eq_true.1 hcc.2 c hc) p hp
  · intro p hp c hc
    have := List.all_eq_true.1 (List.all_eq_true.1 hpc p hp) c hc
    simpa using this
  · intro c hcl p hp
    simpa using List.all_eq_true.1 (List.all_eq_true.1 hlast c hcl) p hp
  · refine hpo2.imp ?_
    intro a b hab
    simpa using hab

/-- One call that makes what is its caller's own, between operations that only ask; a variable that is made ahead of it or behind it. -/
def okFresh (ops : Array Oper) (pre : List Nat) (c al : Nat) (post : List Nat) : Bool :=
  downTo .any ops (fun j => j) &&
  (!Region.departs ops || (downTo .text ops (fun j => j) && (let g := Region.linearise .gc ops 0; downTo .gc ops fun j => g.idxOf j))) &&
  (pre ++ c :: al :: post).isPerm (List.range ops.size) &&
  pre.all (fun p => ((Region.before ops).getD c 0).testBit p) &&
  post.all (fun q => ((Region.before ops).getD q 0).testBit c) &&
  decide ((pre ++ [al]).Pairwise fun k j => (((Region.before ops).getD j 0).testBit k || indep ops k j) = true) &&
  decide ((al :: post).Pairwise fun k j => (((Region.before ops).getD j 0).testBit k || indep ops k j) = true)
def callF (P : Program) (C : Tab) (ops : Array Oper) (c : Nat) (K : St → Prop) (s : St) : Prop :=
  ∃ o g args R, ops[c]? = some o ∧ o.guard = none ∧ calleeOf P C o s = some (g, args) ∧ ASpec P C g args s.heap R ∧ ∀ r' h', R r' h' → K (St.put ⟨s.tmps, h'⟩ o.dst r')
def drawF (P : Program) (C : Tab) (ops : Array Oper) (Q : St → Prop) (s : St) : Prop :=
  ∃ pre c al post, okFresh ops pre c al post = true ∧
    aopsD P C ops (callF P C ops c (aopsD P C ops Q ((al :: post).filterMap fun i => ops[i]?))) (pre.filterMap fun i => ops[i]?) s ∧
    aopsD P C ops (callF P C ops c (aopsD P C ops Q (post.filterMap fun i => ops[i]?))) ((pre ++ [al]).filterMap fun i => ops[i]?) s
/-- Operations whose order is open and makes a difference to the names of what is made: each of some orders. -/
def drawN (P : Program) (C : Tab) (ops : Array Oper) (Q : St → Prop) (s : St) : Prop :=
  (∃ ords, (okDraws ops ords = true ∨ ∃ mk, okDrawsM mk ops ords = true) ∧ ∀ ord ∈ ords, aopsD P C ops Q (ord.filterMap fun i => ops[i]?) s) ∨ drawC P C ops Q s ∨ drawP P C ops Q s ∨ drawF P C ops Q s ∨ ∀ mixed t, aopsN P C ops Q (Region.schedule mixed ops t) s

theorem toList_pick {ops : Array Oper} : ops.toList = (List.range ops.size).filterMap (fun i => ops[i]?) := by
  refine List.ext_getElem? fun i => ?_
  rw [show (List.range ops.size).filterMap (fun i => ops[i]?) = ops.toList from ?_]
  clear i
  have : ∀ l : List Oper, (List.range l.length).filterMap (fun i => l[i]?) = l := by
    intro l
    induction l with
    | nil => rfl
    | cons a r ih =>
      rw [List.length_cons, List.range_succ_eq_map, List.filterMap_cons]
      simp only [List.getElem?_cons_zero, List.filterMap_map]
      congr 1
  have h := this ops.toList
  simpa using h

theorem runD_ops {ops : Array Oper} {Q : St → Prop} : ∀ (l : List Nat) {s s' : St}, runD P C ops l s s' → Q s' → aopsN P C ops Q l s
  | [], s, s', h, hq => by cases h; exact hq
  | i :: l, s, s', h, hq => by
    obtain ⟨s1, h1, h2⟩ := h
    have ih := runD_ops l h2 hq
    unfold stp at h1
    simp only [aopsN]
    cases ho : ops[i]? with
    | none => rw [ho] at h1; simp only at h1; subst h1; exact ih
    | some o =>
      rw [ho] at h1
      simp only at h1 ⊢
      split at h1
      · rename_i hw
        rw [if_pos hw]
        unfold aop
        split at h1
        · rename_i g args hc
          rw [hc]
          obtain ⟨c, hs, rfl⟩ := h1
          refine .inl ⟨_, hs s.heap ⟨[], by simp⟩, ?_⟩
          rintro r h' ⟨rfl, rfl⟩
          exact ih
        · rename_i hc
          rw [hc]
          obtain ⟨r, h', he, rfl⟩ := h1
          exact .inl ⟨r, h', he, ih⟩
      · rename_i hw
        rw [if_neg hw]
        subst h1; exact ih

theorem runD_opsA {ops : Array Oper} {Q : St → Prop} {r : List Nat} : ∀ (l : List Nat) {s s' : St}, runD P C ops l s s' → aopsN P C ops Q r s' → aopsN P C ops Q (l ++ r) s
  | [], s, s', h, hq => by cases h; exact hq
  | i :: l, s, s', h, hq => by
    obtain ⟨s1, h1, h2⟩ := h
    have ih := runD_opsA (r := r) l h2 hq
    unfold stp at h1
    simp only [List.cons_append, aopsN]
    cases ho : ops[i]? with
    | none => rw [ho] at h1; simp only at h1; subst h1; exact ih
    | some o =>
      rw [ho] at h1
      simp only at h1 ⊢
      split at h1
      · rename_i hw
        rw [if_pos hw]
        unfold aop
        split at h1
        · rename_i g args hc
          rw [hc]
          obtain ⟨c, hs, rfl⟩ := h1
          refine .inl ⟨_, hs s.heap ⟨[], by simp⟩, ?_⟩
          rintro r h' ⟨rfl, rfl⟩
          exact ih
        · rename_i hc
          rw [hc]
          obtain ⟨r, h', he, rfl⟩ := h1
          exact .inl ⟨r, h', he, ih⟩
      · rename_i hw
        rw [if_neg hw]
        subst h1; exact ih
theorem callF_ops {ops : Array Oper} {Q : St → Prop} {c : Nat} {z : List Nat} {s : St} (h : callF P C ops c (aopsN P C ops Q z) s) : aopsN P C ops Q (c :: z) s := by
  obtain ⟨o, g, args, R, ho, hg, hc, hs, hk⟩ := h
  simp only [aopsN, ho]
  rw [if_pos (by simp [Region.wanted, hg])]
  unfold aop
  rw [hc]
  exact .inl ⟨R, hs, hk⟩
theorem drawF_sound {ops : Array Oper} {Q : St → Prop} {s : St} (hd : drawF P C ops Q s) (mixed : Bool) (t : Nat) : aopsN P C ops Q (Region.schedule mixed ops t) s := by
  obtain ⟨pre, c, al, post, hok, hA, hB⟩ := hd
  simp only [okFresh, Bool.and_eq_true, Bool.or_eq_true, Bool.not_eq_true', decide_eq_true_eq] at hok
  obtain ⟨⟨⟨⟨⟨⟨hany, hmodes⟩, hperm⟩, hpre⟩, hpost⟩, hpp⟩, hqq⟩ := hok
  have key : ∃ (m : Region.Mode) (rank : Nat → Nat) (t' : Nat), downTo m ops rank = true ∧ Region.schedule mixed ops t = Region.linearise m ops t' := by
    unfold Region.schedule
    split
    · exact ⟨.any, _, t, hany, rfl⟩
    · rename_i hc
      simp only [Bool.or_eq_true, Bool.not_eq_true', not_or, Bool.not_eq_false] at hc
      rcases hmodes with h | ⟨h1, h2⟩
      · rw [h] at hc; exact absurd hc.2 (by simp)
      · split
        · exact ⟨.text, _, _, h1, rfl⟩
        · exact ⟨.gc, _, _, h2, rfl⟩
  obtain ⟨m, rank, t', hdown, hsch⟩ := key
  obtain ⟨l, g1, g2, g3⟩ := go_sound hdown ops.size t' (Array.replicate ops.size false) [] (by simp) (by rw [rest_all]; simp)
  rw [rest_all] at g2
  have hl : Region.schedule mixed ops t = l := by
    rw [hsch]; unfold Region.linearise; rw [g1]; simp
  have hcl : ∀ x k y, l = x ++ k :: y → ∀ (o : Oper), ops[k]? = some o → ∀ e ∈ o.after.toList, Region.binds .any e = true → e.on ∈ x := by
    intro x k y hxl o ho e he hb
    have hb2 : Region.binds m e = true := by
      unfold Region.binds at hb ⊢
      split at hb <;> simp_all
    rcases g3 x k y hxl o ho e he hb2 with h | h
    · exfalso
      rw [Array.getD_eq_getD_getElem?, Array.getElem?_replicate] at h
      split at h <;> simp at h
    · exact h
  have hnd : l.Nodup := g2.nodup_iff.2 List.nodup_range
  have hbef : ∀ k j, ((Region.before ops).getD j 0).testBit k = true → j < ops.size → ∀ x y, l = x ++ j :: y → k ∈ x := by
    intro k j h3 hjl x1 y1 e
    have hoj : ops[j]? = some ops[j] := Array.getElem?_eq_getElem hjl
    refine before_in (L := fun i => i ∈ x1) ?_ ?_ j _ hoj ?_ k h3
    · intro j o ho e he hb
      simp only [downTo, List.all_eq_true, List.mem_range] at hany
      have q := hany j (Array.getElem?_eq_some_iff.1 ho).1
      rw [ho] at q
      simp only [Array.all_eq_true'] at q
      have q2 := q e (by simpa using he)
      rw [hb] at q2
      simp at q2
      exact q2.2
    · intro i o hi ho e' he hb
      obtain ⟨u, v, rfl⟩ := List.append_of_mem hi
      have := hcl u i (v ++ j :: y1) (by rw [e]; simp) o ho e' he hb
      simp [this]
    · intro e' he hb
      exact hcl x1 j y1 e _ hoj e' he hb
  have hperm := List.isPerm_iff.1 hperm
  rw [hl]
  have hlp : l.Perm (pre ++ c :: al :: post) := g2.trans hperm.symm
  have hnw : (pre ++ c :: al :: post).Nodup := hlp.nodup_iff.1 hnd
  have hlt : ∀ k, k ∈ pre ++ c :: al :: post → k < ops.size := fun k hk => List.mem_range.1 (hperm.subset hk)
  have hcl2 : c ∈ l := hlp.symm.subset (by simp)
  obtain ⟨x, z, hxz⟩ := List.append_of_mem hcl2
  have hclt : c < ops.size := hlt c (by simp)
  have hcx : c ∉ x := fun h => by
    rw [hxz] at hnd
    exact (List.nodup_append.1 hnd).2.2 c h c (by simp) rfl
  have hcz : c ∉ z := fun h => by
    rw [hxz] at hnd
    exact (List.nodup_cons.1 (List.nodup_append.1 hnd).2.1).1 h
  have hxz2 : ∀ a, a ∈ x → a ∉ z := fun a h1 h2 => by
    rw [hxz] at hnd
    exact (List.nodup_append.1 hnd).2.2 a h1 a (by simp [h2]) rfl
  have hnx : x.Nodup := by rw [hxz] at hnd; exact (List.nodup_append.1 hnd).1
  have hnz : z.Nodup := by rw [hxz] at hnd; exact (List.nodup_cons.1 (List.nodup_append.1 hnd).2.1).2
  have hmem : ∀ a, (a ∈ x ∨ a = c ∨ a ∈ z) ↔ (a ∈ pre ∨ a = c ∨ a = al ∨ a ∈ post) := fun a => by
    have h1 := hlp.mem_iff (a := a)
    rw [hxz] at h1
    simpa using h1
  have hprex : ∀ p ∈ pre, p ∈ x := fun p hp => hbef p c (by simpa using List.all_eq_true.1 hpre p hp) hclt x z hxz
  have hpostx : ∀ q ∈ post, q ∉ x := fun q hq hx => by
    obtain ⟨u, v, rfl⟩ := List.append_of_mem hx
    have h1 := hbef c q (by simpa using List.all_eq_true.1 hpost q hq) (hlt q (by simp [hq])) u (v ++ c :: z) (by rw [hxz]; simp)
    exact hcx (by simp [h1])
  have hpc : ∀ p ∈ pre, p ≠ c := fun p hp e => by subst e; exact (List.nodup_append.1 hnw).2.2 p hp p (by simp) rfl
  have hnw2 : (c :: al :: post).Nodup := (List.nodup_append.1 hnw).2.1
  have hcal : c ≠ al := fun e => (List.nodup_cons.1 hnw2).1 (by simp [e])
  have hcpost : ∀ q ∈ post, q ≠ c := fun q hq e => (List.nodup_cons.1 hnw2).1 (by simp [← e, hq])
  have hnap : (al :: post).Nodup := (List.nodup_cons.1 hnw2).2
  have hnpa : (pre ++ [al]).Nodup := by
    refine List.nodup_append.2 ⟨(List.nodup_append.1 hnw).1, by simp, fun a ha b hb => ?_⟩
    exact (List.nodup_append.1 hnw).2.2 a ha b (by simp at hb; simp [hb])
  have hord : ∀ (w y : List Nat), (w.Pairwise fun k j => ((Region.before ops).getD j 0).testBit k = true ∨ indep ops k j = true) → y.Sublist l → (∀ k ∈ w, k < ops.size) →
      ∀ k j, [k, j].Sublist w → [j, k].Sublist y → indep ops k j = true := by
    intro w y hw hy hlw k j h1 h2
    have h3 := List.pairwise_iff_forall_sublist.1 hw h1
    rcases h3 with h3 | h3
    · exfalso
      have h4 := h2.trans hy
      obtain ⟨u, v, huv, hju⟩ := pair_split h4
      have hj : j ∈ l := (pair_mem h4).1
      obtain ⟨u2, v2, huv2⟩ := List.append_of_mem hj
      have hk2 := hbef k j h3 (hlw j (pair_mem h1).2) u2 v2 huv2
      have h5 : [k, j].Sublist l := by
        rw [huv2]
        exact (List.singleton_sublist.2 hk2).append (List.singleton_sublist.2 (by simp))
      exact pair_anti hnd h5 h4
    · exact h3
  have hxl : x.Sublist l := by rw [hxz]; exact List.sublist_append_left _ _
  have hzl : z.Sublist l := by rw [hxz]; exact (List.sublist_cons_self c z).trans (List.sublist_append_right _ _)
  have fin : ∀ (w1 w2 : List Nat), x.Perm w1 → z.Perm w2 → w1.Nodup → w2.Nodup → (∀ k ∈ w1, k < ops.size) → (∀ k ∈ w2, k < ops.size) →
      (w1.Pairwise fun k j => ((Region.before ops).getD j 0).testBit k = true ∨ indep ops k j = true) → (w2.Pairwise fun k j => ((Region.before ops).getD j 0).testBit k = true ∨ indep ops k j = true) →
      aopsD P C ops (callF P C ops c (aopsD P C ops Q (w2.filterMap fun i => ops[i]?))) (w1.filterMap fun i => ops[i]?) s → aopsN P C ops Q l s := by
    intro w1 w2 p1 p2 n1 n2 l1 l2 o1 o2 hrun
    obtain ⟨s1, hr, hc⟩ := aopsD_run _ w1 rfl l1 hrun
    have hr2 := sort_sound x w1 p1 n1 l1 (hord w1 x o1 hxl l1) hr
    rw [hxz]
    refine runD_opsA x hr2 (callF_ops ?_)
    obtain ⟨o, g, args, R, k1, k2, k3, k4, k5⟩ := hc
    refine ⟨o, g, args, R, k1, k2, k3, k4, fun r' h' hR => ?_⟩
    obtain ⟨s3, hr3, hq⟩ := aopsD_run _ w2 rfl l2 (k5 r' h' hR)
    exact runD_ops z (sort_sound z w2 p2 n2 l2 (hord w2 z o2 hzl l2) hr3) hq
  by_cases hal : al ∈ x
  · refine fin (pre ++ [al]) post ?_ ?_ hnpa (List.nodup_cons.1 hnap).2 (fun k hk => hlt k (by simp at hk ⊢; rcases hk with hk | hk <;> simp [hk])) (fun k hk => hlt k (by simp [hk])) hpp (List.pairwise_cons.1 hqq).2 hB
    · refine (List.perm_ext_iff_of_nodup hnx hnpa).2 fun a => ⟨fun ha => ?_, fun ha => ?_⟩
      · rcases (hmem a).1 (.inl ha) with h | h | h | h
        · simp [h]
        · exact absurd (h ▸ ha) hcx
        · simp [h]
        · exact absurd ha (hpostx a h)
      · simp at ha
        rcases ha with ha | rfl
        · exact hprex a ha
        · exact hal
    · refine (List.perm_ext_iff_of_nodup hnz (List.nodup_cons.1 hnap).2).2 fun a => ⟨fun ha => ?_, fun ha => ?_⟩
      · rcases (hmem a).1 (.inr (.inr ha)) with h | h | h | h
        · exact absurd ha (hxz2 a (hprex a h))
        · exact absurd (h ▸ ha) hcz
        · exact absurd (h ▸ ha) (hxz2 al hal)
        · exact h
      · rcases (hmem a).2 (.inr (.inr (.inr ha))) with h | h | h
        · exact absurd h (hpostx a ha)
        · exact absurd h (hcpost a ha)
        · exact h
  · refine fin pre (al :: post) ?_ ?_ (List.nodup_append.1 hnw).1 hnap (fun k hk => hlt k (by simp [hk])) (fun k hk => hlt k (by simp at hk ⊢; rcases hk with hk | hk <;> simp [hk])) (List.pairwise_append.1 hpp).1 hqq hA
    · refine (List.perm_ext_iff_of_nodup hnx (List.nodup_append.1 hnw).1).2 fun a => ⟨fun ha => ?_, fun ha => hprex a ha⟩
      rcases (hmem a).1 (.inl ha) with h | h | h | h
      · exact h
      · exact absurd (h ▸ ha) hcx
      · exact absurd (h ▸ ha) hal
      · exact absurd ha (hpostx a h)
    · refine (List.perm_ext_iff_of_nodup hnz hnap).2 fun a => ⟨fun ha => ?_, fun ha => ?_⟩
      · rcases (hmem a).1 (.inr (.inr ha)) with h | h | h | h
        · exact absurd ha (hxz2 a (hprex a h))
        · exact absurd (h ▸ ha) hcz
        · simp [h]
        · simp [h]
      · have h0 : a = al ∨ a ∈ post := by simpa using ha
        rcases (hmem a).2 (.inr (.inr h0)) with h | h | h
        · rcases h0 with rfl | h0
          · exact absurd h hal
          · exact absurd h (hpostx a h0)
        · rcases h0 with rfl | h0
          · exact absurd h.symm hcal
          · exact absurd h (hcpost a h0)
        · exact h

theorem drawn_sound {ops : Array Oper} {Q : St → Prop} {s : St} (h : (okDraw ops = true ∧ aopsD P C ops Q ops.toList s) ∨ drawN P C ops Q s) (mixed : Bool) (t : Nat) :
    aopsN P C ops Q (Region.schedule mixed ops t) s := by
  have : drawN P C ops Q s := by
    rcases h with ⟨h1, h2⟩ | h
    · refine .inl ⟨[List.range ops.size], .inl h1, ?_⟩
      intro ord ho
      rw [List.mem_singleton] at ho
      subst ho
      rw [← toList_pick]; exact h2
    · exact h
  rcases this with ⟨ords, h1, h2⟩ | hc
  rotate_left
  · rcases hc with hc | hc | hc | hc
    · exact drawC_sound hc mixed t
    · exact drawP_sound hc mixed t
    · exact drawF_sound hc mixed t
    · exact hc mixed t
  have hsch : ∃ ord ∈ ords, (∀ k ∈ ord, k < ops.size) ∧ ∀ {s s' : St}, runD P C ops ord s s' → runD P C ops (Region.schedule mixed ops t) s s' := by
    rcases h1 with h1 | ⟨mk, h1⟩
    · exact schedule_sound (P := P) (C := C) h1 mixed t
    · exact schedule_soundM (P := P) (C := C) h1 mixed t
  obtain ⟨ord, ho, hk, hr⟩ := hsch
  obtain ⟨s', h3, h4⟩ := aopsD_run _ ord rfl hk (h2 ord ho)
  exact runD_ops _ (hr h3) h4

end
end Go.Ab
