/- Whatever order the machine draws for a region, it comes to what the text's order comes to. Conditions: a closed look at the region (okDraw). -/
import Derived.Test.YtebfpijbnklaiaaAbL
namespace Go.Ab
section
variable {P : Program} {C : Tab}

def okDraw (ops : Array Oper) : Bool :=
  !Region.departs ops && (List.range ops.size).all fun j =>
    (match ops[j]? with | some o => o.after.all (fun e => decide (e.on < j)) | none => true) &&
    (List.range j).all fun k => ((Region.before ops).getD j 0).testBit k || indep ops k j

theorem foldl_push {α β : Type} (g : Array β → α → β) : ∀ (l : List α) (acc0 : Array β),
    (∀ i, i < acc0.size → (l.foldl (fun acc o => acc.push (g acc o)) acc0)[i]? = acc0[i]?) ∧
    ∀ (j : Nat) (x : α), l[j]? = some x → ∃ acc : Array β, acc.size = acc0.size + j ∧ (∀ i, i < acc.size → (l.foldl (fun acc o => acc.push (g acc o)) acc0)[i]? = acc[i]?) ∧
      (l.foldl (fun acc o => acc.push (g acc o)) acc0)[acc0.size + j]? = some (g acc x)
  | [], acc0 => ⟨fun _ _ => rfl, fun j x h => by simp at h⟩
  | a :: l, acc0 => by
    obtain ⟨h1, h2⟩ := foldl_push g l (acc0.push (g acc0 a))
    refine ⟨?_, ?_⟩
    · intro i hi
      simp only [List.foldl_cons]
      rw [h1 i (by simp; omega), Array.getElem?_push, if_neg (by omega)]
    · intro j x hj
      simp only [List.foldl_cons]
      cases j with
      | zero =>
        simp at hj; subst hj
        refine ⟨acc0, by simp, ?_, ?_⟩
        · intro i hi
          rw [h1 i (by simp; omega), Array.getElem?_push, if_neg (by omega)]
        · rw [Nat.add_zero, h1 acc0.size (by simp)]; simp
      | succ j =>
        obtain ⟨acc, k1, k2, k3⟩ := h2 j x (by simpa using hj)
        refine ⟨acc, by rw [k1]; simp; omega, k2, ?_⟩
        rw [show acc0.size + (j + 1) = (acc0.push (g acc0 a)).size + j by simp; omega]; exact k3

theorem mask_foldl {acc : Array Nat} {k : Nat} : ∀ (es : List Edge) (s : Nat), (es.foldl (fun s e => if Region.binds .any e then s ||| 2 ^ e.on ||| acc.getD e.on 0 else s) s).testBit k = true →
    s.testBit k = true ∨ ∃ e ∈ es, k = e.on ∨ (acc.getD e.on 0).testBit k = true
  | [], s, h => .inl h
  | e :: es, s, h => by
    simp only [List.foldl_cons] at h
    rcases mask_foldl es _ h with h | ⟨e', he', h⟩
    · split at h
      · simp only [Nat.testBit_or, Bool.or_eq_true] at h
        rcases h with (h | h) | h
        · exact .inl h
        · rw [Nat.testBit_two_pow] at h
          exact .inr ⟨e, by simp, .inl (by simpa using (by simpa using h : e.on = k).symm)⟩
        · exact .inr ⟨e, by simp, .inr h⟩
      · exact .inl h
    · exact .inr ⟨e', by simp [he'], h⟩

theorem before_in {ops : Array Oper} {L : Nat → Prop} (hon : ∀ (j : Nat) (o : Oper), ops[j]? = some o → ∀ e ∈ o.after.toList, e.on < j)
    (hcl : ∀ (j : Nat) (o : Oper), L j → ops[j]? = some o → ∀ e ∈ o.after.toList, L e.on) :
    ∀ (j : Nat) (o : Oper), ops[j]? = some o → (∀ e ∈ o.after.toList, L e.on) → ∀ k, ((Region.before ops).getD j 0).testBit k = true → L k := by
  intro j
  induction j using Nat.strongRecOn with
  | _ j ih =>
    intro o ho hL k hk
    obtain ⟨_, h2⟩ := foldl_push (fun (acc : Array Nat) (o : Oper) => o.after.foldl (fun s e => if Region.binds .any e then s ||| 2 ^ e.on ||| acc.getD e.on 0 else s) 0) ops.toList #[]
    obtain ⟨acc, a1, a2, a3⟩ := h2 j o (by simpa using ho)
    have hB : Region.before ops = ops.toList.foldl (fun acc o => acc.push (o.after.foldl (fun s e => if Region.binds .any e then s ||| 2 ^ e.on ||| acc.getD e.on 0 else s) 0)) #[] := by
      unfold Region.before
      rw [← Array.foldl_toList]
    rw [← hB] at a2 a3
    simp only [List.size_toArray, List.length_nil, Nat.zero_add] at a1 a3
    rw [Array.getD_eq_getD_getElem?, a3, Option.getD_some, ← Array.foldl_toList] at hk
    rcases mask_foldl _ _ hk with hk | ⟨e, he, hk⟩
    · simp at hk
    · rcases hk with rfl | hk
      · exact hL e he
      · have hlt := hon j o ho e he
        have hjs : j < ops.size := (Array.getElem?_eq_some_iff.1 ho).1
        have hoe : ops[e.on]? = some ops[e.on] := Array.getElem?_eq_getElem (by omega)
        refine ih e.on hlt _ hoe (hcl e.on _ (hL e he) hoe) k ?_
        rw [Array.getD_eq_getD_getElem?, a2 e.on (by omega), ← Array.getD_eq_getD_getElem?]; exact hk

theorem runD_nil_of {ops : Array Oper} {s s' : St} (h : runD P C ops [] s s') : s' = s := h

/-- What is not yet listed, in the text's order. -/
def rest (n : Nat) (listed : Array Bool) : List Nat := (List.range n).filter fun i => !listed.getD i true

theorem rest_split {n m : Nat} {listed : Array Bool} (hm : m < n) (hl : listed.getD m true = false) :
    ∃ l r, rest n listed = l ++ m :: r ∧ rest n (listed.setIfInBounds m true) = l ++ r ∧ ∀ k ∈ l, k < m ∧ listed.getD k true = false := by
  refine ⟨(List.range m).filter fun i => !listed.getD i true, (List.range' (m + 1) (n - m - 1)).filter fun i => !listed.getD i true, ?_, ?_, ?_⟩
  · have e : List.range n = List.range m ++ m :: List.range' (m + 1) (n - m - 1) := by
      rw [List.range_eq_range', List.range_eq_range', show n = m + (1 + (n - m - 1)) by omega, ← List.range'_append_1 (m := m), Nat.zero_add, ← List.range'_append_1]
      simp
    unfold rest
    rw [e, List.filter_append, List.filter_cons]
    simp [hl]
  · have e : List.range n = List.range m ++ m :: List.range' (m + 1) (n - m - 1) := by
      rw [List.range_eq_range', List.range_eq_range', show n = m + (1 + (n - m - 1)) by omega, ← List.range'_append_1 (m := m), Nat.zero_add, ← List.range'_append_1]
      simp
    unfold rest
    rw [e, List.filter_append, List.filter_cons]
    have hself : (listed.setIfInBounds m true).getD m true = true := by
      rw [Array.getD_eq_getD_getElem?, Array.getElem?_setIfInBounds]; simp; split <;> rfl
    have hoth : ∀ i, i ≠ m → (listed.setIfInBounds m true).getD i true = listed.getD i true := by
      intro i hi
      rw [Array.getD_eq_getD_getElem?, Array.getD_eq_getD_getElem?, Array.getElem?_setIfInBounds, if_neg (fun e => hi e.symm)]
    rw [hself]
    simp only [Bool.not_true, Bool.false_eq_true, if_false]
    congr 1
    · refine List.filter_congr fun i hi => ?_
      rw [hoth i (by simp at hi; omega)]
    · refine List.filter_congr fun i hi => ?_
      rw [hoth i (by simp [List.mem_range'_1] at hi; omega)]
  · intro k hk
    simp only [List.mem_filter, List.mem_range, Bool.not_eq_true'] at hk
    exact hk

theorem linear_sound {ops : Array Oper} (hok : okDraw ops = true) : ∀ (fuel t : Nat) (listed : Array Bool) (acc : List Nat), listed.size = ops.size → (rest ops.size listed).length ≤ fuel →
    (∀ (j : Nat) (o : Oper), listed.getD j false = true → ops[j]? = some o → ∀ e ∈ o.after.toList, listed.getD e.on false = true) →
    ∀ {s s' : St}, runD P C ops (rest ops.size listed) s s' → ∃ l, Region.linearise.go .any ops fuel t listed acc = acc.reverse ++ l ∧ runD P C ops l s s' := by
  simp only [okDraw, Bool.and_eq_true, Bool.not_eq_true', List.all_eq_true, List.mem_range] at hok
  obtain ⟨hdep, hall⟩ := hok
  have hon : ∀ (j : Nat) (o : Oper), ops[j]? = some o → ∀ e ∈ o.after.toList, e.on < j := by
    intro j o ho e he
    have h1 := (hall j (Array.getElem?_eq_some_iff.1 ho).1).1
    rw [ho] at h1
    simp only [Array.all_eq_true'] at h1
    simpa using h1 e (by simpa using he)
  have hbind : ∀ (j : Nat) (o : Oper), ops[j]? = some o → ∀ e ∈ o.after.toList, Region.binds .any e = true := by
    intro j o ho e he
    unfold Region.departs at hdep
    rw [Array.any_eq_false'] at hdep
    have h1 := hdep o (Array.mem_of_getElem? ho)
    simp only [Array.any_eq_true', not_exists, not_and, Bool.not_eq_true', Bool.not_eq_false] at h1
    have := h1 e (by simpa using he)
    simpa using this
  intro fuel
  induction fuel with
  | zero =>
    intro t listed acc hsz hfuel hcl s s' hr
    have : rest ops.size listed = [] := List.eq_nil_of_length_eq_zero (by omega)
    rw [this] at hr
    exact ⟨[], by simp [Region.linearise.go], hr⟩
  | succ fuel ih =>
    intro t listed acc hsz hfuel hcl s s' hr
    simp only [Region.linearise.go]
    generalize hrs : (List.range ops.size).filter (fun i => !listed.getD i true && ((ops[i]?).map (fun o => o.after.all fun e => !Region.binds .any e || listed.getD e.on false)).getD false) = rs
    cases hpick : rs[t % rs.length]? with
    | none =>
      -- nothing can be listed: all are
      have hemp : rs = [] := by
        rcases Nat.eq_zero_or_pos rs.length with h0 | h0
        · exact List.eq_nil_of_length_eq_zero h0
        · rw [List.getElem?_eq_none_iff] at hpick
          have := Nat.mod_lt t h0
          omega
      have hnone : ∀ j, j < ops.size → listed.getD j true = true := by
        intro j
        induction j using Nat.strongRecOn with
        | _ j ihj =>
          intro hj
          cases hlj : listed.getD j true with
          | true => rfl
          | false =>
            exfalso
            have hin : j ∈ rs := by
              rw [← hrs]
              simp only [List.mem_filter, List.mem_range, hj, true_and, hlj, Bool.not_false, Bool.true_and]
              have ho : ops[j]? = some ops[j] := Array.getElem?_eq_getElem hj
              rw [ho]
              simp only [Option.map_some, Option.getD_some, Array.all_eq_true']
              intro e he
              have hlt := hon j _ ho e (by simpa using he)
              have h1 := ihj e.on hlt (by omega)
              have h2 : listed.getD e.on false = true := by
                rw [Array.getD_eq_getD_getElem?] at h1 ⊢
                have : listed[e.on]? = some listed[e.on] := Array.getElem?_eq_getElem (by omega)
                rw [this] at h1 ⊢; exact h1
              rw [h2]; simp
            rw [hemp] at hin
            cases hin
      have hrest : rest ops.size listed = [] := by
        unfold rest
        rw [List.filter_eq_nil_iff]
        intro j hj
        rw [hnone j (by simpa using hj)]; simp
      rw [hrest] at hr
      exact ⟨[], by simp, hr⟩
    | some m =>
      simp only
      have hm := List.mem_of_getElem? hpick
      rw [← hrs] at hm
      simp only [List.mem_filter, List.mem_range, Bool.and_eq_true, Bool.not_eq_true'] at hm
      obtain ⟨hmn, hml, hme⟩ := hm
      have hom : ops[m]? = some ops[m] := Array.getElem?_eq_getElem hmn
      rw [hom] at hme
      simp only [Option.map_some, Option.getD_some, Array.all_eq_true'] at hme
      have hme' : ∀ e ∈ (ops[m]).after.toList, listed.getD e.on false = true := by
        intro e he
        have h1 := hme e (by simpa using he)
        rw [hbind m _ hom e he] at h1
        simpa using h1
      obtain ⟨l, r, e1, e2, e3⟩ := rest_split hmn hml
      rw [e1] at hr
      have hfront := runD_front (P := P) (C := C) hmn (l := l) (r := r) (by
        intro k hk
        obtain ⟨hkm, hkl⟩ := e3 k hk
        refine ⟨by omega, ?_⟩
        have h1 := (hall m hmn).2 k hkm
        simp only [Bool.or_eq_true] at h1
        rcases h1 with h1 | h1
        · exfalso
          have := before_in (L := fun j => listed.getD j false = true) hon (fun j o hj ho => hcl j o hj ho) m _ hom hme' k h1
          have hks : k < listed.size := by omega
          rw [Array.getD_eq_getD_getElem?, Array.getElem?_eq_getElem hks] at this hkl
          rw [Option.getD_some] at this hkl
          rw [hkl] at this; cases this
        · exact h1) hr
      obtain ⟨s1, hs1, hs2⟩ := hfront
      rw [← e2] at hs2
      obtain ⟨l', g1, g2⟩ := ih (t / rs.length) (listed.setIfInBounds m true) (m :: acc) (by simp [hsz]) (by
        rw [e2]; rw [e1] at hfuel
        simp at hfuel ⊢; omega) (by
        intro j o hj ho e he
        have hset : ∀ i, listed.getD i false = true → (listed.setIfInBounds m true).getD i false = true := by
          intro i hi
          rw [Array.getD_eq_getD_getElem?, Array.getElem?_setIfInBounds]
          rw [Array.getD_eq_getD_getElem?] at hi
          split
          · split
            · rfl
            · rename_i h1 h2; rw [hsz] at h2; omega
          · exact hi
        refine hset e.on ?_
        by_cases hjm : m = j
        · subst hjm
          rw [hom] at ho; cases ho
          exact hme' e he
        · refine hcl j o ?_ ho e he
          rw [Array.getD_eq_getD_getElem?, Array.getElem?_setIfInBounds, if_neg hjm] at hj
          rw [Array.getD_eq_getD_getElem?]; exact hj) hs2
      refine ⟨m :: l', ?_, s1, hs1, g2⟩
      rw [g1]; simp

theorem schedule_sound {ops : Array Oper} (hok : okDraw ops = true) {mixed : Bool} {t : Nat} {s s' : St} (hr : runD P C ops (List.range ops.size) s s') : runD P C ops (Region.schedule mixed ops t) s s' := by
  have hd : Region.departs ops = false := by
    simp only [okDraw, Bool.and_eq_true, Bool.not_eq_true'] at hok
    exact hok.1
  unfold Region.schedule
  rw [hd]
  simp only [Bool.not_false, Bool.or_true, if_true]
  unfold Region.linearise
  have hall : ∀ i, i < ops.size → (Array.replicate ops.size false).getD i true = false := by
    intro i hi
    rw [Array.getD_eq_getD_getElem?]; simp [hi]
  have hrest : rest ops.size (Array.replicate ops.size false) = List.range ops.size := by
    unfold rest
    rw [List.filter_eq_self]
    intro i hi
    rw [hall i (by simpa using hi)]; rfl
  obtain ⟨l, g1, g2⟩ := linear_sound (P := P) (C := C) hok ops.size t (Array.replicate ops.size false) [] (by simp) (by rw [hrest]; simp) (by
    intro j o hj ho
    exfalso
    rw [Array.getD_eq_getD_getElem?] at hj
    have hjs := (Array.getElem?_eq_some_iff.1 ho).1
    simp [hjs] at hj) (s := s) (s' := s') (by rw [hrest]; exact hr)
  rw [g1]; simpa using g2

/-- Operations whose order is open: what a call answers must be one. -/
def aopD (P : Program) (C : Tab) (o : Oper) (K : St → Prop) (s : St) : Prop :=
  match calleeOf C o s with
  | some (g, args) => ∃ c, ASpec P C g args s.heap (fun r h' => r = c ∧ h' = s.heap) ∧ K (s.put o.dst c)
  | none => ∃ r h', eff C o s.ev s.heap r h' ∧ K (St.put ⟨s.tmps, h'⟩ o.dst r)

def aopsD (P : Program) (C : Tab) (ops : Array Oper) (Q : St → Prop) : List Oper → St → Prop
  | [], s => Q s
  | o :: r, s => if Region.wanted o (yieldedD ops s.tmps) then aopD P C o (aopsD P C ops Q r) s else aopsD P C ops Q r (s.put o.dst (.lit undef))

theorem aopsD_run {ops : Array Oper} {Q : St → Prop} : ∀ (l : List Oper) (k : Nat), (∀ j : Nat, l[j]? = ops[k + j]?) → ∀ {s : St}, aopsD P C ops Q l s → ∃ s', runD P C ops (List.range' k l.length) s s' ∧ Q s'
  | [], k, _, s, h => ⟨s, rfl, h⟩
  | o :: l, k, hj, s, h => by
    have h0 : ops[k]? = some o := by simpa using (hj 0).symm
    have ih := @aopsD_run ops Q l (k + 1) (fun j => by have := hj (j + 1); simpa [Nat.add_assoc, Nat.add_comm 1 j] using this)
    simp only [aopsD] at h
    simp only [List.length_cons, List.range'_succ]
    split at h
    · rename_i hw
      unfold aopD at h
      split at h
      · rename_i g args hc
        obtain ⟨c, hs, hk⟩ := h
        obtain ⟨s', h1, h2⟩ := ih hk
        refine ⟨s', ⟨_, ?_, h1⟩, h2⟩
        simp only [stp, h0, hw, if_true, hc]
        exact ⟨c, hs, rfl⟩
      · rename_i hc
        obtain ⟨r, h', he, hk⟩ := h
        obtain ⟨s', h1, h2⟩ := ih hk
        refine ⟨s', ⟨_, ?_, h1⟩, h2⟩
        simp only [stp, h0, hw, if_true, hc]
        exact ⟨r, h', he, rfl⟩
    · rename_i hw
      obtain ⟨s', h1, h2⟩ := ih h
      refine ⟨s', ⟨_, ?_, h1⟩, h2⟩
      simp [stp, h0, hw]

theorem runD_ops {ops : Array Oper} {Q : St → Prop} : ∀ (l : List Nat) {s s' : St}, runD P C ops l s s' → Q s' → aopsN P C ops Q l s
  | [], s, s', h, hq => by cases h; exact hq
  | i :: l, s, s', h, hq => by
    obtain ⟨s1, h1, h2⟩ := h
    have ih := runD_ops l h2 hq
    unfold stp at h1
    simp only [aopsN]
    cases ho : ops[i]? with
    | none => rw [ho] at h1; simp only at h1; subst h1; exact ih
    | some o =>
      rw [ho] at h1
      simp only at h1 ⊢
      split at h1
      · rename_i hw
        rw [if_pos hw]
        unfold aop
        split at h1
        · rename_i g args hc
          rw [hc]
          obtain ⟨c, hs, rfl⟩ := h1
          refine ⟨_, hs, ?_⟩
          rintro r h' ⟨rfl, rfl⟩
          exact ih
        · rename_i hc
          rw [hc]
          obtain ⟨r, h', he, rfl⟩ := h1
          exact ⟨r, h', he, ih⟩
      · rename_i hw
        rw [if_neg hw]
        subst h1; exact ih

end
end Go.Ab
