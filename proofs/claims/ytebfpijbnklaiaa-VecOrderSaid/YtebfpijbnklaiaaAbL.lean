/- An order that Go leaves open makes no difference where operations do not touch one another. Conditions: a closed look at the operations (okDraw). -/
import Derived.Test.YtebfpijbnklaiaaAbK
namespace Go.Ab
section
variable {P : Program} {C : Tab}

/-- 0: it asks its operands alone. 1: it asks memory, too. 2: it changes memory. -/
def kindOf : Op → Nat
  | .move _ | .assign _ | .pick _ _ _ | .nilCheck _ | .binOp _ _ _ _ _ | .unOp _ _ _ | .convert _ _ _ | .makeInterface _ _ | .makeFunc _ _ _ | .build _ _ | .buildSlice _ _ _
  | .field _ _ _ | .index _ _ _ | .slice _ _ _ _ _ | .extract _ _ => 0
  | .load _ _ | .fieldAddr _ _ _ | .indexAddr _ _ _ => 1
  | .call c => match c.callee with
    | .value _ => 1
    | .builtin .append => 2
    | .builtin _ => 0
    | .invoke _ _ => 2
  | _ => 2

theorem partsOk_congr {t : TypeId} {e e' : Operand → D} : ∀ {l : List (Nat × Operand)}, (∀ x ∈ l, e x.2 = e' x.2) → partsOk C t e l = partsOk C t e' l
  | [], _ => rfl
  | (i, x) :: r, h => by
    simp only [partsOk]
    rw [h (i, x) (by simp), partsOk_congr (l := r) (fun y hy => h y (by simp [hy]))]

theorem partsIn_congr {t : TypeId} {e e' : Operand → D} : ∀ {l : List (Nat × Operand)} (d : D), (∀ x ∈ l, e x.2 = e' x.2) → partsIn C t e l d = partsIn C t e' l d
  | [], _, _ => rfl
  | (i, x) :: r, d, h => by
    simp only [partsIn]
    rw [h (i, x) (by simp), partsIn_congr (l := r) _ (fun y hy => h y (by simp [hy]))]

theorem elemsOk_congr {u : TypeId} {n : Nat} {e e' : Operand → D} : ∀ {l : List (Nat × Operand)}, (∀ x ∈ l, e x.2 = e' x.2) → elemsOk C u n e l = elemsOk C u n e' l
  | [], _ => rfl
  | (i, x) :: r, h => by
    simp only [elemsOk]
    rw [h (i, x) (by simp), elemsOk_congr (l := r) (fun y hy => h y (by simp [hy]))]

theorem elemsIn_congr {u : TypeId} {e e' : Operand → D} : ∀ {l : List (Nat × Operand)} (d : List D), (∀ x ∈ l, e x.2 = e' x.2) → elemsIn C u e l d = elemsIn C u e' l d
  | [], _, _ => rfl
  | (i, x) :: r, d, h => by
    simp only [elemsIn]
    rw [h (i, x) (by simp), elemsIn_congr (l := r) _ (fun y hy => h y (by simp [hy]))]

theorem argsD_congr {e e' : Operand → D} : ∀ {xs : List Operand} {ts : List TypeId}, (∀ x ∈ xs, e x = e' x) → argsD C e xs ts = argsD C e' xs ts
  | [], _, _ => rfl
  | x :: xs, [], h => by simp only [argsD]; rw [h x (by simp), argsD_congr (xs := xs) (fun y hy => h y (by simp [hy]))]
  | x :: xs, t :: ts, h => by simp only [argsD]; rw [h x (by simp), argsD_congr (xs := xs) (fun y hy => h y (by simp [hy]))]

theorem aeval_congr {o : Oper} {e e' : Operand → D} {h : Heap} (hc : ∀ x ∈ o.op.operands.toList, e x = e' x) : aeval C o e h = aeval C o e' h := by
  unfold aeval
  cases ho : o.op <;> simp only [ho, Op.operands] at hc ⊢
  case move x => rw [hc x (by simp)]
  case assign x => rw [hc x (by simp)]
  case pick c x y => rw [hc c (by simp), hc x (by simp), hc y (by simp)]
  case load t x => rw [hc x (by simp)]
  case nilCheck x => rw [hc x (by simp)]
  case binOp op t x y t' => rw [hc x (by simp), hc y (by simp)]
  case unOp op t x => rw [hc x (by simp)]
  case convert s t x => rw [hc x (by simp)]
  case makeInterface t x => rw [hc x (by simp)]
  case makeFunc f first caps =>
    split
    · rw [List.map_congr_left (fun x hx => hc x (by simp; right; simpa using hx))]
    · rfl
  case build t parts =>
    have h2 : ∀ x ∈ parts.toList, e x.2 = e' x.2 := fun x hx => hc x.2 (by simp; exact ⟨x.1, by simpa using hx⟩)
    rw [partsOk_congr h2, partsIn_congr _ h2]
  case buildSlice t n parts =>
    have h2 : ∀ x ∈ parts.toList, e x.2 = e' x.2 := fun x hx => hc x.2 (by simp; exact ⟨x.1, by simpa using hx⟩)
    split
    · rw [elemsOk_congr h2, elemsIn_congr _ h2]
    · rfl
  case fieldAddr s x k => rw [hc x (by simp)]
  case field t x k => rw [hc x (by simp)]
  case indexAddr t x i => rw [hc x (by simp), hc i (by simp)]
  case index t x i => rw [hc x (by simp), hc i (by simp)]
  case slice t x lo hi mx =>
    rw [hc x (by simp)]
    have h1 : lo.map e = lo.map e' := by cases lo with | none => rfl | some y => simp [hc y (by simp)]
    have h2 : hi.map e = hi.map e' := by cases hi with | none => rfl | some y => simp [hc y (by simp)]
    have h3 : mx.map e = mx.map e' := by cases mx with | none => rfl | some y => simp [hc y (by simp)]
    rw [h1, h2, h3]
  case extract x i => rw [hc x (by simp)]
  case call c =>
    split
    · rename_i b hb
      have : c.args.toList.map e = c.args.toList.map e' := List.map_congr_left (fun x hx => hc x (by simp [Call.operands, hb]; simpa using hx))
      rw [this]
    · rfl

theorem eff_congr {o : Oper} {e e' : Operand → D} {h h' : Heap} {r : D} (hc : ∀ x ∈ o.op.operands.toList, e x = e' x) (he : eff C o e h r h') : eff C o e' h r h' := by
  have ha := aeval_congr (C := C) (h := h) hc
  unfold eff at he ⊢
  split at he
  · rename_i t ho; simpa [ho] using he
  · rename_i t x ho
    simp only [ho, Op.operands] at hc ⊢
    rw [← hc x (by simp)]; exact he
  · rename_i t ad x ho
    simp only [ho, Op.operands] at hc ⊢
    rw [← hc x (by simp), ← hc ad (by simp)]; exact he
  · rename_i args ts ho
    simp only [ho, Op.operands, Call.operands] at hc ⊢
    split at he
    · rename_i t t' x y hts has
      have h1 : x ∈ args.toList := by rw [has]; simp
      have h2 : y ∈ args.toList := by rw [has]; simp
      rw [← hc x (by simpa using h1), ← hc y (by simpa using h2)]; exact he
    · exact he.elim
  · rw [← ha]; exact he

theorem eff_kind1 {o : Oper} {e : Operand → D} {h h' : Heap} {r : D} (hk : kindOf o.op ≤ 1) (he : eff C o e h r h') : h' = h := by
  unfold eff at he
  split at he
  · rename_i t ho; simp [ho, kindOf] at hk
  · rename_i t x ho; simp [ho, kindOf] at hk
  · rename_i t ad x ho; simp [ho, kindOf] at hk
  · rename_i args ts ho; simp [ho, kindOf] at hk
  · exact he.2

theorem eff_kind0 {o : Oper} {e : Operand → D} {h h' : Heap} {r : D} (hk : kindOf o.op = 0) (he : eff C o e h r h') (h2 : Heap) : eff C o e h2 r h2 := by
  have hk1 := eff_kind1 (by omega) he
  subst hk1
  unfold eff at he ⊢
  split at he
  · rename_i t ho; simp [ho, kindOf] at hk
  · rename_i t x ho; simp [ho, kindOf] at hk
  · rename_i t ad x ho; simp [ho, kindOf] at hk
  · rename_i args ts ho; simp [ho, kindOf] at hk
  · refine ⟨?_, rfl⟩
    rw [← he.1]
    unfold aeval
    cases ho : o.op <;> simp [ho, kindOf] at hk ⊢

/-- One operation, its call's answer being one. -/
def stp (P : Program) (C : Tab) (ops : Array Oper) (i : Nat) (s s' : St) : Prop :=
  match ops[i]? with
  | none => s' = s
  | some o => if Region.wanted o (yieldedD ops s.tmps) then
      (match calleeOf C o s with
        | some (g, args) => ∃ c, ASpec P C g args s.heap (fun r h' => r = c ∧ h' = s.heap) ∧ s' = s.put o.dst c
        | none => ∃ r h', eff C o s.ev s.heap r h' ∧ s' = St.put ⟨s.tmps, h'⟩ o.dst r)
    else s' = s.put o.dst (.lit undef)

def runD (P : Program) (C : Tab) (ops : Array Oper) : List Nat → St → St → Prop
  | [], s, s' => s' = s
  | i :: r, s, s'' => ∃ s', stp P C ops i s s' ∧ runD P C ops r s' s''

def tmpsOf (xs : List Operand) : List Tmp := xs.filterMap fun | .tmp t => some t | _ => none

def readsOf (ops : Array Oper) (o : Oper) : List Tmp :=
  tmpsOf o.op.operands.toList ++ (match o.guard with | some (j, _) => ((ops[j]?).bind (·.dst)).toList | none => [])

theorem ev_congr {s s2 : St} {xs : List Operand} (h : ∀ t ∈ tmpsOf xs, s2.tmps[t]? = s.tmps[t]?) : ∀ x ∈ xs, s.ev x = s2.ev x := by
  intro x hx
  cases x with
  | tmp t =>
    have := h t (by simp only [tmpsOf, List.mem_filterMap]; exact ⟨_, hx, rfl⟩)
    simp [St.ev, this]
  | _ => rfl

theorem wanted_congr {ops : Array Oper} {o : Oper} {s s2 : St} (h : ∀ t ∈ readsOf ops o, s2.tmps[t]? = s.tmps[t]?) : Region.wanted o (yieldedD ops s.tmps) = Region.wanted o (yieldedD ops s2.tmps) := by
  unfold Region.wanted
  cases hg : o.guard with
  | none => rfl
  | some x =>
    obtain ⟨j, want⟩ := x
    simp only
    have : yieldedD ops s.tmps j = yieldedD ops s2.tmps j := by
      unfold yieldedD
      cases hd : (ops[j]?).bind (·.dst) with
      | none => rfl
      | some t =>
        have := h t (by simp [readsOf, hg, hd])
        simp [this]
    rw [this]

theorem callee_congr {o : Oper} {s s2 : St} (h : ∀ x ∈ o.op.operands.toList, s.ev x = s2.ev x) : calleeOf C o s = calleeOf C o s2 := by
  unfold calleeOf
  split
  · rename_i f xs ts ho
    simp only [ho, Op.operands, Call.operands] at h
    have h1 := h f (by simp)
    have h2 : argsD C s.ev xs.toList ts.toList = argsD C s2.ev xs.toList ts.toList := argsD_congr fun x hx => h x (by simp; right; simpa using hx)
    rw [h1, h2]
  · rfl

theorem callee_kind {o : Oper} {s : St} {x : FuncId × List D} (h : calleeOf C o s = some x) : kindOf o.op = 1 := by
  unfold calleeOf at h
  split at h
  · rename_i ho; simp [ho, kindOf]
  · cases h

def dstOf (ops : Array Oper) (i : Nat) : Option Tmp := (ops[i]?).bind (·.dst)
def readOf (ops : Array Oper) (i : Nat) : List Tmp := match ops[i]? with | some o => readsOf ops o | none => []
def kindAt (ops : Array Oper) (i : Nat) : Nat := match ops[i]? with | some o => kindOf o.op | none => 0

theorem stp_frame {ops : Array Oper} {i : Nat} {s s' : St} (h : stp P C ops i s s') (hi : i < ops.size) : ∃ r h', s' = St.put ⟨s.tmps, h'⟩ (dstOf ops i) r ∧ (kindAt ops i ≤ 1 → h' = s.heap) ∧
    ∀ s2 : St, (∀ t ∈ readOf ops i, s2.tmps[t]? = s.tmps[t]?) → (kindAt ops i = 0 ∨ s2.heap = s.heap) → stp P C ops i s2 (St.put ⟨s2.tmps, if kindAt ops i ≤ 1 then s2.heap else h'⟩ (dstOf ops i) r) := by
  have ho : ops[i]? = some ops[i] := Array.getElem?_eq_getElem hi
  generalize ops[i] = o at ho
  unfold stp at h
  rw [ho] at h
  simp only at h
  have hd : dstOf ops i = o.dst := by simp [dstOf, ho]
  have hr : readOf ops i = readsOf ops o := by simp [readOf, ho]
  have hk : kindAt ops i = kindOf o.op := by simp [kindAt, ho]
  rw [hd, hr, hk]
  split at h
  · rename_i hw
    split at h
    · rename_i g args hc
      obtain ⟨c, hs, rfl⟩ := h
      have hk1 := callee_kind hc
      refine ⟨c, s.heap, rfl, fun _ => rfl, ?_⟩
      intro s2 h2 hh
      have hh2 : s2.heap = s.heap := by rcases hh with hh | hh; · omega
                                        · exact hh
      unfold stp
      rw [ho]
      simp only
      rw [← wanted_congr h2, if_pos hw, ← callee_congr (ev_congr fun t ht => h2 t (by simp [readsOf, ht])), hc]
      refine ⟨c, by rw [hh2]; exact hs, ?_⟩
      rw [if_pos (by omega)]
    · rename_i hc
      obtain ⟨r, h', he, rfl⟩ := h
      refine ⟨r, h', rfl, fun hk1 => eff_kind1 hk1 he, ?_⟩
      intro s2 h2 hh
      have hev := ev_congr (s := s) (s2 := s2) (xs := o.op.operands.toList) fun t ht => h2 t (by simp [readsOf, ht])
      have he2 := eff_congr hev he
      unfold stp
      rw [ho]
      simp only
      rw [← wanted_congr h2, if_pos hw, ← callee_congr hev, hc]
      by_cases hk0 : kindOf o.op = 0
      · exact ⟨r, s2.heap, eff_kind0 hk0 he2 s2.heap, by rw [if_pos (by omega)]⟩
      · have hh2 : s2.heap = s.heap := by rcases hh with hh | hh; · exact absurd hh hk0
                                          · exact hh
        by_cases hk1 : kindOf o.op ≤ 1
        · have := eff_kind1 hk1 he2
          subst this
          exact ⟨r, s2.heap, by rw [hh2]; exact he2, by rw [if_pos hk1]⟩
        · exact ⟨r, h', by rw [hh2]; exact he2, by rw [if_neg hk1]⟩
  · rename_i hw
    subst h
    refine ⟨.lit undef, s.heap, rfl, fun _ => rfl, ?_⟩
    intro s2 h2 hh
    unfold stp
    rw [ho]
    simp only
    rw [← wanted_congr h2, if_neg hw]
    by_cases hk1 : kindOf o.op ≤ 1
    · rw [if_pos hk1]
    · have hh2 : s2.heap = s.heap := by rcases hh with hh | hh; · omega
                                        · exact hh
      rw [if_neg hk1, ← hh2]

/-- Two operations that do not touch one another. -/
def indep (ops : Array Oper) (i j : Nat) : Bool :=
  (match dstOf ops i with | some t => !(readOf ops j).contains t | none => true) &&
  (match dstOf ops j with | some t => !(readOf ops i).contains t | none => true) &&
  (match dstOf ops i, dstOf ops j with | some t, some u => t != u | _, _ => true) &&
  (kindAt ops i == 0 || kindAt ops j == 0 || (kindAt ops i == 1 && kindAt ops j == 1))

theorem put_other {s : St} {h : Heap} {dst : Option Tmp} {r : D} {t : Tmp} (hd : dst ≠ some t) : (St.put ⟨s.tmps, h⟩ dst r).tmps[t]? = s.tmps[t]? := by
  cases dst with
  | none => rfl
  | some u =>
    have hne : u ≠ t := fun e => hd (by rw [e])
    show (s.tmps.set u r)[t]? = _
    rw [List.getElem?_set, if_neg hne]

theorem put_heap {ts : List D} {h : Heap} {dst : Option Tmp} {r : D} : (St.put ⟨ts, h⟩ dst r).heap = h := by cases dst <;> rfl

theorem runD_swap {ops : Array Oper} {i j : Nat} (hi : i < ops.size) (hj : j < ops.size) (hij : indep ops i j = true) {r : List Nat} {s s' : St} (h : runD P C ops (i :: j :: r) s s') : runD P C ops (j :: i :: r) s s' := by
  obtain ⟨s1, h1, s2, h2, h3⟩ := h
  simp only [indep, Bool.and_eq_true, Bool.or_eq_true, beq_iff_eq] at hij
  obtain ⟨⟨⟨q1, q2⟩, q3⟩, q4⟩ := hij
  obtain ⟨ri, hi', e1, f1, g1⟩ := stp_frame h1 hi
  obtain ⟨rj, hj', e2, f2, g2⟩ := stp_frame h2 hj
  have n1 : ∀ t ∈ readOf ops j, dstOf ops i ≠ some t := by
    intro t ht e
    rw [e] at q1
    simp only [Bool.not_eq_true', List.contains_eq_mem, decide_eq_false_iff_not] at q1
    exact q1 ht
  have n2 : ∀ t ∈ readOf ops i, dstOf ops j ≠ some t := by
    intro t ht e
    rw [e] at q2
    simp only [Bool.not_eq_true', List.contains_eq_mem, decide_eq_false_iff_not] at q2
    exact q2 ht
  have hs1 : s1.heap = hi' := by rw [e1]; exact put_heap
  have a1 := g2 s (fun t ht => by rw [e1]; exact (put_other (n1 t ht)).symm) (by
    rcases q4 with (q | q) | q
    · right; rw [hs1]; exact (f1 (by omega)).symm
    · left; exact q
    · right; rw [hs1]; exact (f1 (by omega)).symm)
  generalize hs1' : St.put ⟨s.tmps, if kindAt ops j ≤ 1 then s.heap else hj'⟩ (dstOf ops j) rj = s1' at a1
  have hh1 : s1'.heap = if kindAt ops j ≤ 1 then s.heap else hj' := by rw [← hs1']; exact put_heap
  have a2 := g1 s1' (fun t ht => by rw [← hs1']; exact put_other (n2 t ht)) (by
    rcases q4 with (q | q) | q
    · left; exact q
    · right; rw [hh1, if_pos (by omega)]
    · right; rw [hh1, if_pos (by omega)])
  refine ⟨s1', a1, _, a2, ?_⟩
  have : St.put ⟨s1'.tmps, if kindAt ops i ≤ 1 then s1'.heap else hi'⟩ (dstOf ops i) ri = s2 := by
    have hheap : (if kindAt ops i ≤ 1 then s1'.heap else hi') = hj' := by
      rw [hh1]
      rcases q4 with (q | q) | q
      · rw [if_pos (by omega)]
        by_cases hk : kindAt ops j ≤ 1
        · rw [if_pos hk, f2 hk, hs1, f1 (by omega)]
        · rw [if_neg hk]
      · have := f2 (by omega)
        rw [hs1] at this
        by_cases hk : kindAt ops i ≤ 1
        · rw [if_pos hk, if_pos (by omega), this, f1 hk]
        · rw [if_neg hk, this]
      · rw [if_pos (by omega), if_pos (by omega), f2 (by omega), hs1, f1 (by omega)]
    rw [hheap, e2, e1, ← hs1']
    cases hdi : dstOf ops i with
    | none => cases hdj : dstOf ops j <;> rfl
    | some t =>
      cases hdj : dstOf ops j with
      | none => rfl
      | some u =>
        rw [hdi, hdj] at q3
        have hne : t ≠ u := by simpa using q3
        show (⟨(s.tmps.set u rj).set t ri, hj'⟩ : St) = ⟨(s.tmps.set t ri).set u rj, hj'⟩
        rw [List.set_comm _ _ (fun e => hne e.symm)]
  rw [this]; exact h3

theorem runD_cons {ops : Array Oper} {i : Nat} {l l' : List Nat} (h : ∀ s s', runD P C ops l s s' → runD P C ops l' s s') {s s' : St} (hr : runD P C ops (i :: l) s s') : runD P C ops (i :: l') s s' := by
  obtain ⟨s1, h1, h2⟩ := hr
  exact ⟨s1, h1, h _ _ h2⟩

/-- One that touches none ahead of it comes first. -/
theorem runD_front {ops : Array Oper} {m : Nat} (hm : m < ops.size) : ∀ {l r : List Nat}, (∀ k ∈ l, k < ops.size ∧ indep ops k m = true) → ∀ {s s' : St}, runD P C ops (l ++ m :: r) s s' → runD P C ops (m :: (l ++ r)) s s'
  | [], r, _, s, s', h => h
  | k :: l, r, hl, s, s', h => by
    have h1 : runD P C ops (k :: m :: (l ++ r)) s s' := runD_cons (fun s s' => runD_front hm (fun x hx => hl x (by simp [hx]))) h
    exact runD_swap (hl k (by simp)).1 hm (hl k (by simp)).2 h1

end
end Go.Ab
