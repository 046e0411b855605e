/- An order that Go leaves open makes no difference where operations do not touch one another. Conditions: a closed look at the operations (okDraw). -/
import Derived.Test.YtehcjnendfpbaaaGreatAbK
namespace Go.Ab
section
variable {P : Program} {C : Tab}

/-- 0: it asks its operands alone. 1: it asks memory, too. 2: it changes memory. 3: it makes a variable. 4: it appends. -/
def kindOf : Op → Nat
  | .move _ | .assign _ | .pick _ _ _ | .nilCheck _ | .binOp _ _ _ _ _ | .unOp _ _ _ | .convert _ _ _ | .makeInterface _ _ | .makeFunc _ _ _ | .build _ _ | .buildSlice _ _ _
  | .field _ _ _ | .index _ _ _ | .slice _ _ _ _ _ | .extract _ _ => 0
  | .load _ _ | .fieldAddr _ _ _ | .indexAddr _ _ _ | .lookup _ _ _ _ | .entry _ => 1
  | .call c => match c.callee with
    | .value _ => 1
    | .builtin .append => 4
    | .builtin .delete => 2
    | .builtin .copy => 2
    | .builtin .len => 1
    | .builtin _ => 0
    | .invoke _ _ => 1
  | .alloc _ => 3
  | _ => 2

theorem partsOk_congr {t : TypeId} {e e' : Operand → D} : ∀ {l : List (Nat × Operand)}, (∀ x ∈ l, e x.2 = e' x.2) → partsOk C t e l = partsOk C t e' l
  | [], _ => rfl
  | (i, x) :: r, h => by
    simp only [partsOk]
    rw [h (i, x) (by simp), partsOk_congr (l := r) (fun y hy => h y (by simp [hy]))]

theorem partsIn_congr {t : TypeId} {e e' : Operand → D} : ∀ {l : List (Nat × Operand)} (d : D), (∀ x ∈ l, e x.2 = e' x.2) → partsIn C t e l d = partsIn C t e' l d
  | [], _, _ => rfl
  | (i, x) :: r, d, h => by
    simp only [partsIn]
    rw [h (i, x) (by simp), partsIn_congr (l := r) _ (fun y hy => h y (by simp [hy]))]

theorem elemsOk_congr {u : TypeId} {n : Nat} {e e' : Operand → D} : ∀ {l : List (Nat × Operand)}, (∀ x ∈ l, e x.2 = e' x.2) → elemsOk C u n e l = elemsOk C u n e' l
  | [], _ => rfl
  | (i, x) :: r, h => by
    simp only [elemsOk]
    rw [h (i, x) (by simp), elemsOk_congr (l := r) (fun y hy => h y (by simp [hy]))]

theorem elemsIn_congr {u : TypeId} {e e' : Operand → D} : ∀ {l : List (Nat × Operand)} (d : List D), (∀ x ∈ l, e x.2 = e' x.2) → elemsIn C u e l d = elemsIn C u e' l d
  | [], _, _ => rfl
  | (i, x) :: r, d, h => by
    simp only [elemsIn]
    rw [h (i, x) (by simp), elemsIn_congr (l := r) _ (fun y hy => h y (by simp [hy]))]

theorem argsD_congr {e e' : Operand → D} : ∀ {xs : List Operand} {ts : List TypeId}, (∀ x ∈ xs, e x = e' x) → argsD C e xs ts = argsD C e' xs ts
  | [], _, _ => rfl
  | x :: xs, [], h => by simp only [argsD]; rw [h x (by simp), argsD_congr (xs := xs) (fun y hy => h y (by simp [hy]))]
  | x :: xs, t :: ts, h => by simp only [argsD]; rw [h x (by simp), argsD_congr (xs := xs) (fun y hy => h y (by simp [hy]))]

theorem aeval_congr {o : Oper} {e e' : Operand → D} {h : Heap} (hc : ∀ x ∈ o.op.operands.toList, e x = e' x) : aeval C o e h = aeval C o e' h := by
  unfold aeval
  cases ho : o.op <;> simp only [ho, Op.operands] at hc ⊢
  case move x => rw [hc x (by simp)]
  case assign x => rw [hc x (by simp)]
  case pick c x y => rw [hc c (by simp), hc x (by simp), hc y (by simp)]
  case load t x => rw [hc x (by simp)]
  case nilCheck x => rw [hc x (by simp)]
  case binOp op t x y t' => rw [hc x (by simp), hc y (by simp)]
  case unOp op t x => rw [hc x (by simp)]
  case convert s t x => rw [hc x (by simp)]
  case makeInterface t x => rw [hc x (by simp)]
  case typeAssert x t' t ok => rw [hc x (by simp)]
  case makeFunc f first caps =>
    split
    · rw [List.map_congr_left (fun x hx => hc x (by simp; right; simpa using hx))]
    · split
      · rw [List.map_congr_left (fun x hx => hc x (by simp; left; simpa using hx))]
      · rfl
  case build t parts =>
    have h2 : ∀ x ∈ parts.toList, e x.2 = e' x.2 := fun x hx => hc x.2 (by simp; exact ⟨x.1, by simpa using hx⟩)
    rw [partsOk_congr h2, partsIn_congr _ h2]
  case buildSlice t n parts =>
    have h2 : ∀ x ∈ parts.toList, e x.2 = e' x.2 := fun x hx => hc x.2 (by simp; exact ⟨x.1, by simpa using hx⟩)
    split
    · rw [elemsOk_congr h2, elemsIn_congr _ h2]
    · rfl
  case fieldAddr s x k => rw [hc x (by simp)]
  case field t x k => rw [hc x (by simp)]
  case indexAddr t x i => rw [hc x (by simp), hc i (by simp)]
  case index t x i => rw [hc x (by simp), hc i (by simp)]
  case slice t x lo hi mx =>
    rw [hc x (by simp)]
    have h1 : lo.map e = lo.map e' := by cases lo with | none => rfl | some y => simp [hc y (by simp)]
    have h2 : hi.map e = hi.map e' := by cases hi with | none => rfl | some y => simp [hc y (by simp)]
    have h3 : mx.map e = mx.map e' := by cases mx with | none => rfl | some y => simp [hc y (by simp)]
    rw [h1, h2, h3]
  case extract x i => rw [hc x (by simp)]
  case lookup t x i ok => rw [hc x (by simp), hc i (by simp)]
  case entry x => rw [hc x (by simp)]
  case call c =>
    split
    · rename_i b hb
      have : c.args.toList.map e = c.args.toList.map e' := List.map_congr_left (fun x hx => hc x (by simp [Call.operands, hb]; simpa using hx))
      rw [this]
    · rfl

theorem eff_congr {o : Oper} {e e' : Operand → D} {h h' : Heap} {r : D} (hc : ∀ x ∈ o.op.operands.toList, e x = e' x) (he : eff C o e h r h') : eff C o e' h r h' := by
  have ha := aeval_congr (C := C) (h := h) hc
  unfold eff at he ⊢
  split at he
  · rename_i t ho; simpa [ho] using he
  · rename_i t x ho
    simp only [ho, Op.operands] at hc ⊢
    rw [← hc x (by simp)]; exact he
  · rename_i t ad x ho
    simp only [ho, Op.operands] at hc ⊢
    rw [← hc x (by simp), ← hc ad (by simp)]; exact he
  · rename_i args ts ho
    simp only [ho, Op.operands, Call.operands] at hc ⊢
    split at he
    · rename_i t t' x y hts has
      have h1 : x ∈ args.toList := by rw [has]; simp
      have h2 : y ∈ args.toList := by rw [has]; simp
      rw [← hc x (by simpa using h1), ← hc y (by simpa using h2)]; exact he
    · exact he.elim
  · rename_i t n ho
    simp only [ho, Op.operands] at hc ⊢
    refine ⟨he.1, ?_, he.2.2⟩
    cases n with
    | none => trivial
    | some x =>
      show ∃ q i, e' x = _
      rw [← hc x (by simp)]; exact he.2.1
  · rename_i t x i y ho
    simp only [ho, Op.operands] at hc ⊢
    rw [← hc x (by simp), ← hc i (by simp), ← hc y (by simp)]; exact he
  · rename_i t x i y ho
    simp only [ho, Op.operands] at hc ⊢
    rw [← hc x (by simp), ← hc i (by simp), ← hc y (by simp)]; exact he
  · rename_i args ts ho
    simp only [ho, Op.operands, Call.operands] at hc ⊢
    split at he
    · rename_i t t' x i hts has
      have h1 : x ∈ args.toList := by rw [has]; simp
      have h2 : i ∈ args.toList := by rw [has]; simp
      rw [← hc x (by simpa using h1), ← hc i (by simpa using h2)]; exact he
    · exact he.elim
  · rename_i t x ho
    simp only [ho, Op.operands] at hc ⊢
    rw [← hc x (by simp)]; exact he
  · rename_i args ts ho
    simp only [ho, Op.operands, Call.operands] at hc ⊢
    split at he
    · rename_i t t' x y hts has
      have h1 : x ∈ args.toList := by rw [has]; simp
      have h2 : y ∈ args.toList := by rw [has]; simp
      rw [← hc x (by simpa using h1), ← hc y (by simpa using h2)]; exact he
    · exact he.elim
  · rw [← ha]; exact he

theorem eff_kind1 {o : Oper} {e : Operand → D} {h h' : Heap} {r : D} (hk : kindOf o.op ≤ 1) (he : eff C o e h r h') : h' = h := by
  unfold eff at he
  split at he
  · rename_i t ho; simp [ho, kindOf] at hk
  · rename_i t x ho; simp [ho, kindOf] at hk
  · rename_i t ad x ho; simp [ho, kindOf] at hk
  · rename_i args ts ho; simp [ho, kindOf] at hk
  · rename_i t n ho; simp [ho, kindOf] at hk
  · rename_i t x i y ho; simp [ho, kindOf] at hk
  · rename_i t x i y ho; simp [ho, kindOf] at hk
  · rename_i args ts ho; simp [ho, kindOf] at hk
  · rename_i t x ho; simp [ho, kindOf] at hk
  · rename_i args ts ho; simp [ho, kindOf] at hk
  · exact he.2

theorem eff_kind0 {o : Oper} {e : Operand → D} {h h' : Heap} {r : D} (hk : kindOf o.op = 0) (he : eff C o e h r h') (h2 : Heap) : eff C o e h2 r h2 := by
  have hk1 := eff_kind1 (by omega) he
  subst hk1
  unfold eff at he ⊢
  split at he
  · rename_i t ho; simp [ho, kindOf] at hk
  · rename_i t x ho; simp [ho, kindOf] at hk
  · rename_i t ad x ho; simp [ho, kindOf] at hk
  · rename_i args ts ho; simp [ho, kindOf] at hk
  · rename_i t n ho; simp [ho, kindOf] at hk
  · rename_i t x i y ho; simp [ho, kindOf] at hk
  · rename_i t x i y ho; simp [ho, kindOf] at hk
  · rename_i args ts ho; simp [ho, kindOf] at hk
  · rename_i t x ho; simp [ho, kindOf] at hk
  · rename_i args ts ho; simp [ho, kindOf] at hk
  · refine ⟨?_, rfl⟩
    rw [← he.1]
    unfold aeval
    cases ho : o.op <;> simp [ho, kindOf] at hk ⊢
    case call c =>
      split
      · rename_i b hb
        rw [hb] at hk
        cases b <;> first | rfl | (simp at hk)
      · rfl

/-- What is known of a memory is known of another one. -/
def Hle (h h2 : Heap) : Prop := ∀ (b : Nat) (x : Sh × D), h.boxes[b]? = some x → h2.boxes[b]? = some x
theorem Hle.of {h h2 : Heap} {bs : List (Sh × D)} (hb : h2.boxes = h.boxes ++ bs) : Hle h h2 := by
  intro b x hx
  rw [hb, List.getElem?_append_left (List.getElem?_eq_some_iff.1 hx).1]; exact hx
theorem Hle.refl (h : Heap) : Hle h h := fun _ _ h => h
theorem box_more {h h2 : Heap} (hb : Hle h h2) {b : Nat} {x : Sh × D} (hx : h.boxes[b]? = some x) : h2.boxes[b]? = some x := hb b x hx
theorem loadD_more {h h2 : Heap} (hb : Hle h h2) {t : TypeId} {x r : D} (hl : loadD C h t x = some r) : loadD C h2 t x = some r := by
  cases x with
  | ptr b p =>
    simp only [loadD] at hl ⊢
    cases hx : h.boxes[b]? with
    | none => rw [hx] at hl; cases hl
    | some y => rw [hx] at hl; rw [box_more hb hx]; exact hl
  | ref s d => exact hl
  | _ => cases hl
theorem stepD_more {h h2 : Heap} (hb : Hle h h2) {t : TypeId} {k : Nat} {x r : D} (hl : stepD C h t k x = some r) : stepD C h2 t k x = some r := by
  cases x with
  | ptr b p =>
    simp only [stepD] at hl ⊢
    cases hx : h.boxes[b]? with
    | none => rw [hx] at hl; cases hl
    | some y => rw [hx] at hl; rw [box_more hb hx]; exact hl
  | ref s d => exact hl
  | _ => cases hl
theorem indexAddrD_more {h h2 : Heap} (hb : Hle h h2) {t : TypeId} {x i r : D} (hl : indexAddrD C h t x i = some r) : indexAddrD C h2 t x i = some r := by
  unfold indexAddrD at hl ⊢
  split at hl
  · split at hl
    · exact hl
    · exact hl
    · split at hl
      · rename_i hx
        split at hl
        · rename_i hc; simp only [hc, and_self, if_true]; exact stepD_more hb hl
        · cases hl
      · cases hl
  · cases hl

theorem lookupD_more {h h2 : Heap} (hb : Hle h h2) {t : TypeId} {ok : Bool} {x i r : D} (hl : lookupD C h t ok x i = some r) : lookupD C h2 t ok x i = some r := by
  unfold lookupD at hl ⊢
  split at hl
  case h_2 => cases hl
  split at hl
  case isFalse => cases hl
  rename_i hk
  rw [if_pos hk]
  split at hl
  · exact hl
  · rename_i b
    split at hl
    · rename_i ks vs g hx
      simp only [box_more hb hx]; exact hl
    · cases hl
  · cases hl

theorem entryD_more {h h2 : Heap} (hb : Hle h h2) {x r : D} (hl : entryD h x = some r) : entryD h2 x = some r := by
  unfold entryD at hl ⊢
  split at hl
  case h_2 => cases hl
  split at hl
  case h_2 => cases hl
  rename_i m g seen hx
  split at hl
  case h_2 => cases hl
  rename_i ks vs g' hm
  simp only [box_more hb hx, box_more hb hm]
  exact hl

theorem lenM_more {h h2 : Heap} (hb : Hle h h2) {x r : D} (hl : lenM h x = some r) : lenM h2 x = some r := by
  unfold lenM at hl ⊢
  split at hl
  · exact hl
  · split at hl
    · rename_i hx
      simp only [box_more hb hx]; exact hl
    · cases hl
  · cases hl

theorem lenD_more {h h2 : Heap} (hb : Hle h h2) {t : TypeId} {x r : D} (hl : lenD C h t x = some r) : lenD C h2 t x = some r := by
  unfold lenD at hl ⊢
  cases hty : C.ty t <;> rw [hty] at hl <;> first | exact lenM_more hb hl | (cases x <;> first | exact hl | (rename_i v; cases v <;> exact hl))

theorem builtinD_more {h h2 : Heap} (hb : Hle h h2) {b : Builtin} {ts : List TypeId} {xs : List D} {r : D} (hl : builtinD C h b ts xs = some r) : builtinD C h2 b ts xs = some r := by
  unfold builtinD at hl ⊢
  split at hl
  · split at hl
    · exact lenD_more hb hl
    · cases hl
  · exact hl
  · exact hl
  · exact hl
  · cases hl

theorem eff_more {o : Oper} {e : Operand → D} {h h' h2 : Heap} {r : D} (hk : kindOf o.op = 1) (he : eff C o e h r h') (hb : Hle h h2) : eff C o e h2 r h2 := by
  have hk1 := eff_kind1 (by omega) he
  subst hk1
  unfold eff at he ⊢
  split at he
  · rename_i t ho; simp [ho, kindOf] at hk
  · rename_i t x ho; simp [ho, kindOf] at hk
  · rename_i t ad x ho; simp [ho, kindOf] at hk
  · rename_i args ts ho; simp [ho, kindOf] at hk
  · rename_i t n ho; simp [ho, kindOf] at hk
  · rename_i t x i y ho; simp [ho, kindOf] at hk
  · rename_i t x i y ho; simp [ho, kindOf] at hk
  · rename_i args ts ho; simp [ho, kindOf] at hk
  · rename_i t x ho; simp [ho, kindOf] at hk
  · rename_i args ts ho; simp [ho, kindOf] at hk
  · refine ⟨?_, rfl⟩
    have h1 := he.1
    unfold aeval at h1 ⊢
    cases ho : o.op
    case load t x => rw [ho] at h1; exact loadD_more hb h1
    case fieldAddr s x k =>
      rw [ho] at h1
      revert h1
      simp only
      split
      · intro h1; exact stepD_more hb h1
      · intro h1; cases h1
    case indexAddr t x i => rw [ho] at h1; exact indexAddrD_more hb h1
    case lookup t x i ok => rw [ho] at h1; exact lookupD_more hb h1
    case entry x => rw [ho] at h1; exact entryD_more hb h1
    case call c =>
      rw [ho] at h1
      revert h1
      simp only
      split
      · intro h1; exact builtinD_more hb h1
      · intro h1; cases h1
    all_goals (exfalso; rw [ho] at hk; simp [kindOf] at hk)

theorem eff_alloc {o : Oper} {e : Operand → D} {h h' : Heap} {r : D} (hk : kindOf o.op = 3) (he : eff C o e h r h') :
    ∃ bs, h' = ⟨h.boxes ++ bs, h.toks⟩ ∧ ∀ h2 : Heap, h2.boxes.length = h.boxes.length → eff C o e h2 r ⟨h2.boxes ++ bs, h2.toks⟩ := by
  unfold eff at he
  split at he
  · rename_i t ho
    obtain ⟨h1, h2, h3⟩ := he
    refine ⟨[(C.sh t, C.zero t)], h3, ?_⟩
    intro g hg
    unfold eff
    rw [ho]
    exact ⟨h1, by rw [hg]; exact h2, rfl⟩
  · rename_i t x ho; simp [ho, kindOf] at hk
  · rename_i t ad x ho; simp [ho, kindOf] at hk
  · rename_i args ts ho; simp [ho, kindOf] at hk
  · rename_i t n ho; simp [ho, kindOf] at hk
  · rename_i t x i y ho; simp [ho, kindOf] at hk
  · rename_i t x i y ho; simp [ho, kindOf] at hk
  · rename_i args ts ho; simp [ho, kindOf] at hk
  · rename_i t x ho; simp [ho, kindOf] at hk
  · rename_i args ts ho; simp [ho, kindOf] at hk
  · exfalso
    rename_i h1 h2 h3 h4 h5 h6 h7 h8 h9 h10
    revert hk
    unfold kindOf
    split
    all_goals (first | omega | skip)
    · split <;> omega
    · rename_i t ho; exact fun _ => h1 t ho

theorem eff_append {o : Oper} {e : Operand → D} {h h' : Heap} {r : D} (hk : kindOf o.op = 4) (he : eff C o e h r h') :
    ∃ tk, h' = ⟨h.boxes, tk⟩ ∧ ∀ h2 : Heap, h2.toks = h.toks → eff C o e h2 r ⟨h2.boxes, tk⟩ := by
  unfold eff at he
  split at he
  · rename_i t ho; simp [ho, kindOf] at hk
  · rename_i t x ho; simp [ho, kindOf] at hk
  · rename_i t ad x ho; simp [ho, kindOf] at hk
  · rename_i args ts ho
    split at he
    · rename_i t t' x y hts has
      obtain ⟨q1, he⟩ := he
      split at he
      · rename_i u hu
        obtain ⟨l, m, tx, ty, a1, a2, a3, a4, a5, a6⟩ := he
        have key : ∃ tk, h' = ⟨h.boxes, tk⟩ ∧ ∀ h2 : Heap, h2.toks = h.toks → appendD C u h2 (nrm C t (e x)) (nrm C t (e y)) r ⟨h2.boxes, tk⟩ := by
          rcases a6 with ⟨b1, b2, b3⟩ | ⟨b1, b2, b3⟩
          · refine ⟨_, b3, fun h2 ht => ⟨l, m, tx, ty, a1, a2, a3, a4, ?_, .inl ⟨b1, by rw [ht]; exact b2, by rw [ht]⟩⟩⟩
            rw [ht]; exact a5
          · refine ⟨h.toks, b3, fun h2 ht => ⟨l, m, tx, ty, a1, a2, a3, a4, ?_, .inr ⟨b1, b2, by rw [← ht]⟩⟩⟩
            rw [ht]; exact a5
        obtain ⟨tk, k1, k2⟩ := key
        refine ⟨tk, k1, fun h2 ht => ?_⟩
        unfold eff
        rw [ho]
        simp only [hts, has, hu]
        exact ⟨q1, k2 h2 ht⟩
      · exact he.elim
    · exact he.elim
  · rename_i t n ho; simp [ho, kindOf] at hk
  · rename_i t x i y ho; simp [ho, kindOf] at hk
  · rename_i t x i y ho; simp [ho, kindOf] at hk
  · rename_i args ts ho; simp [ho, kindOf] at hk
  · rename_i t x ho; simp [ho, kindOf] at hk
  · rename_i args ts ho; simp [ho, kindOf] at hk
  · exfalso
    rename_i h1 h2 h3 h4 h5 h6 h7 h8 h9 h10
    revert hk
    unfold kindOf
    split
    all_goals (first | omega | skip)
    · rename_i c ho
      split
      all_goals (first | omega | skip)
      · rename_i hc
        intro _
        obtain ⟨callee, args, ats⟩ := c
        simp only at hc
        subst hc
        exact h4 args ats ho

/-- A call that answers one thing and leaves memory, whatever more there is. -/
def MSpec (P : Program) (C : Tab) (g : FuncId) (args : List D) (h : Heap) (c : D) : Prop :=
  ∀ h' : Heap, (∃ bs, h'.boxes = h.boxes ++ bs) → ASpec P C g args h' (fun r h'' => r = c ∧ h'' = h')
theorem MSpec.more {g : FuncId} {args : List D} {h h2 : Heap} {c : D} (hs : MSpec P C g args h c) (hb : ∃ bs, h2.boxes = h.boxes ++ bs) : MSpec P C g args h2 c := by
  intro h' ⟨bs', h1⟩
  obtain ⟨bs, h2⟩ := hb
  exact hs h' ⟨bs ++ bs', by rw [h1, h2, List.append_assoc]⟩

/-- One operation, its call's answer being one. -/
def stp (P : Program) (C : Tab) (ops : Array Oper) (i : Nat) (s s' : St) : Prop :=
  match ops[i]? with
  | none => s' = s
  | some o => if Region.wanted o (yieldedD ops s.tmps) then
      (match calleeOf P C o s with
        | some (g, args) => ∃ c, MSpec P C g args s.heap c ∧ s' = s.put o.dst c
        | none => ∃ r h', eff C o s.ev s.heap r h' ∧ s' = St.put ⟨s.tmps, h'⟩ o.dst r)
    else s' = s.put o.dst (.lit undef)

def runD (P : Program) (C : Tab) (ops : Array Oper) : List Nat → St → St → Prop
  | [], s, s' => s' = s
  | i :: r, s, s'' => ∃ s', stp P C ops i s s' ∧ runD P C ops r s' s''

def tmpsOf (xs : List Operand) : List Tmp := xs.filterMap fun | .tmp t => some t | _ => none

def readsOf (ops : Array Oper) (o : Oper) : List Tmp :=
  tmpsOf o.op.operands.toList ++ (match o.guard with | some (j, _) => ((ops[j]?).bind (·.dst)).toList | none => [])

theorem ev_congr {s s2 : St} {xs : List Operand} (h : ∀ t ∈ tmpsOf xs, s2.tmps[t]? = s.tmps[t]?) : ∀ x ∈ xs, s.ev x = s2.ev x := by
  intro x hx
  cases x with
  | tmp t =>
    have := h t (by simp only [tmpsOf, List.mem_filterMap]; exact ⟨_, hx, rfl⟩)
    simp [St.ev, this]
  | _ => rfl

theorem wanted_congr {ops : Array Oper} {o : Oper} {s s2 : St} (h : ∀ t ∈ readsOf ops o, s2.tmps[t]? = s.tmps[t]?) : Region.wanted o (yieldedD ops s.tmps) = Region.wanted o (yieldedD ops s2.tmps) := by
  unfold Region.wanted
  cases hg : o.guard with
  | none => rfl
  | some x =>
    obtain ⟨j, want⟩ := x
    simp only
    have : yieldedD ops s.tmps j = yieldedD ops s2.tmps j := by
      unfold yieldedD
      cases hd : (ops[j]?).bind (·.dst) with
      | none => rfl
      | some t =>
        have := h t (by simp [readsOf, hg, hd])
        simp [this]
    rw [this]

theorem callee_congr {o : Oper} {s s2 : St} (h : ∀ x ∈ o.op.operands.toList, s.ev x = s2.ev x) : calleeOf P C o s = calleeOf P C o s2 := by
  unfold calleeOf
  split
  · rename_i f xs ts ho
    simp only [ho, Op.operands, Call.operands] at h
    have h1 := h f (by simp)
    have h2 : argsD C s.ev xs.toList ts.toList = argsD C s2.ev xs.toList ts.toList := argsD_congr fun x hx => h x (by simp; right; simpa using hx)
    rw [h1, h2]
  · rename_i f name xs ts ho
    simp only [ho, Op.operands, Call.operands] at h
    have h1 := h f (by simp)
    have h2 : argsD C s.ev xs.toList ts.toList = argsD C s2.ev xs.toList ts.toList := argsD_congr fun x hx => h x (by simp; right; simpa using hx)
    rw [h1, h2]
  · rfl

theorem callee_kind {o : Oper} {s : St} {x : FuncId × List D} (h : calleeOf P C o s = some x) : kindOf o.op = 1 := by
  unfold calleeOf at h
  split at h
  · rename_i ho; simp [ho, kindOf]
  · rename_i ho; simp [ho, kindOf]
  · cases h

def dstOf (ops : Array Oper) (i : Nat) : Option Tmp := (ops[i]?).bind (·.dst)
def readOf (ops : Array Oper) (i : Nat) : List Tmp := match ops[i]? with | some o => readsOf ops o | none => []
def kindAt (ops : Array Oper) (i : Nat) : Nat := match ops[i]? with | some o => kindOf o.op | none => 0

/-- What a kind asks of memory. -/
def compat (k : Nat) (h h2 : Heap) : Prop :=
  match k with
  | 0 => True
  | 1 => ∃ bs, h2.boxes = h.boxes ++ bs
  | 3 => h2.boxes.length = h.boxes.length
  | 4 => h2.toks = h.toks
  | _ => h2 = h
/-- What a kind does to memory. -/
def shapeF (k : Nat) (f : Heap → Heap) : Prop :=
  match k with
  | 0 => ∀ h, f h = h
  | 1 => ∀ h, f h = h
  | 3 => ∃ bs, ∀ h, f h = ⟨h.boxes ++ bs, h.toks⟩
  | 4 => ∃ g : List Bool → List Bool, ∀ h, f h = ⟨h.boxes, g h.toks⟩
  | _ => True
theorem compat_refl (k : Nat) (h : Heap) : compat k h h := by
  unfold compat
  split
  · trivial
  · exact ⟨[], by simp⟩
  · rfl
  · rfl
  · rfl
theorem shape_id (k : Nat) : shapeF k (fun h => h) := by
  unfold shapeF
  split
  · exact fun _ => rfl
  · exact fun _ => rfl
  · exact ⟨[], fun h => by simp⟩
  · exact ⟨fun t => t, fun _ => rfl⟩
  · trivial

theorem stp_frame {ops : Array Oper} {i : Nat} {s s' : St} (h : stp P C ops i s s') (hi : i < ops.size) : ∃ (r : D) (f : Heap → Heap), s' = St.put ⟨s.tmps, f s.heap⟩ (dstOf ops i) r ∧ shapeF (kindAt ops i) f ∧
    ∀ s2 : St, (∀ t ∈ readOf ops i, s2.tmps[t]? = s.tmps[t]?) → compat (kindAt ops i) s.heap s2.heap → stp P C ops i s2 (St.put ⟨s2.tmps, f s2.heap⟩ (dstOf ops i) r) := by
  have ho : ops[i]? = some ops[i] := Array.getElem?_eq_getElem hi
  generalize ops[i] = o at ho
  unfold stp at h
  rw [ho] at h
  simp only at h
  have hd : dstOf ops i = o.dst := by simp [dstOf, ho]
  have hr : readOf ops i = readsOf ops o := by simp [readOf, ho]
  have hk : kindAt ops i = kindOf o.op := by simp [kindAt, ho]
  rw [hd, hr, hk]
  split at h
  · rename_i hw
    split at h
    · rename_i g args hc
      obtain ⟨c, hs, rfl⟩ := h
      have hk1 := callee_kind hc
      refine ⟨c, fun h => h, rfl, shape_id _, ?_⟩
      intro s2 h2 hh
      rw [hk1] at hh
      unfold stp
      rw [ho]
      simp only
      rw [← wanted_congr h2, if_pos hw, ← callee_congr (ev_congr fun t ht => h2 t (by simp [readsOf, ht])), hc]
      exact ⟨c, hs.more hh, rfl⟩
    · rename_i hc
      obtain ⟨r, h', he, rfl⟩ := h
      have fin : ∀ (f : Heap → Heap), f s.heap = h' → shapeF (kindOf o.op) f → (∀ h2 : Heap, compat (kindOf o.op) s.heap h2 → eff C o s.ev h2 r (f h2)) →
          ∃ (r' : D) (f : Heap → Heap), St.put ⟨s.tmps, h'⟩ o.dst r = St.put ⟨s.tmps, f s.heap⟩ o.dst r' ∧ shapeF (kindOf o.op) f ∧
            ∀ s2 : St, (∀ t ∈ readsOf ops o, s2.tmps[t]? = s.tmps[t]?) → compat (kindOf o.op) s.heap s2.heap → stp P C ops i s2 (St.put ⟨s2.tmps, f s2.heap⟩ o.dst r') := by
        intro f e1 e2 e3
        refine ⟨r, f, by rw [e1], e2, ?_⟩
        intro s2 h2 hh
        have hev := ev_congr (s := s) (s2 := s2) (xs := o.op.operands.toList) fun t ht => h2 t (by simp [readsOf, ht])
        have he2 := eff_congr hev (e3 s2.heap hh)
        unfold stp
        rw [ho]
        simp only
        rw [← wanted_congr h2, if_pos hw, ← callee_congr hev, hc]
        exact ⟨r, _, he2, rfl⟩
      by_cases k0 : kindOf o.op = 0
      · have := eff_kind1 (by omega) he
        subst this
        exact fin (fun h => h) rfl (shape_id _) fun h2 _ => eff_kind0 k0 he h2
      by_cases k1 : kindOf o.op = 1
      · have := eff_kind1 (by omega) he
        subst this
        refine fin (fun h => h) rfl (shape_id _) fun h2 hh => ?_
        rw [k1] at hh
        obtain ⟨bs, hb⟩ := hh
        exact eff_more k1 he (Hle.of hb)
      by_cases k3 : kindOf o.op = 3
      · obtain ⟨bs, e1, e2⟩ := eff_alloc k3 he
        refine fin (fun h => ⟨h.boxes ++ bs, h.toks⟩) e1.symm (by rw [k3]; exact ⟨bs, fun _ => rfl⟩) fun h2 hh => ?_
        rw [k3] at hh
        exact e2 h2 hh
      by_cases k4 : kindOf o.op = 4
      · obtain ⟨tk, e1, e2⟩ := eff_append k4 he
        refine fin (fun h => ⟨h.boxes, tk⟩) e1.symm (by rw [k4]; exact ⟨fun _ => tk, fun _ => rfl⟩) fun h2 hh => ?_
        rw [k4] at hh
        exact e2 h2 hh
      · refine fin (fun _ => h') rfl ?_ fun h2 hh => ?_
        · unfold shapeF; split <;> first | omega | trivial
        · unfold compat at hh
          split at hh
          all_goals (first | omega | (subst hh; exact he))
  · rename_i hw
    subst h
    refine ⟨.lit undef, fun h => h, rfl, shape_id _, ?_⟩
    intro s2 h2 hh
    unfold stp
    rw [ho]
    simp only
    rw [← wanted_congr h2, if_neg hw]
    trivial

/-- Kinds of which the second may come ahead of the first. -/
def kindsOk (a b : Nat) : Bool := a == 0 || b == 0 || (a == 1 && (b == 1 || b == 3 || b == 4)) || (a == 4 && (b == 1 || b == 3)) || (a == 3 && b == 4)

/-- Two operations of which the second may come ahead of the first. -/
def indep (ops : Array Oper) (i j : Nat) : Bool :=
  (match dstOf ops i with | some t => !(readOf ops j).contains t | none => true) &&
  (match dstOf ops j with | some t => !(readOf ops i).contains t | none => true) &&
  (match dstOf ops i, dstOf ops j with | some t, some u => t != u | _, _ => true) &&
  kindsOk (kindAt ops i) (kindAt ops j)

theorem kinds_swap {a b : Nat} (hk : kindsOk a b = true) {fa fb : Heap → Heap} (ha : shapeF a fa) (hb : shapeF b fb) (h : Heap) :
    compat b (fa h) h ∧ compat a h (fb h) ∧ fa (fb h) = fb (fa h) := by
  simp only [kindsOk, Bool.or_eq_true, Bool.and_eq_true, beq_iff_eq] at hk
  rcases hk with (((h0 | h0) | ⟨h0, h1⟩) | ⟨h0, h1⟩) | ⟨h0, h1⟩
  · subst h0
    have e : ∀ h, fa h = h := ha
    refine ⟨by rw [e]; exact compat_refl _ _, trivial, by rw [e, e]⟩
  · subst h0
    have e : ∀ h, fb h = h := hb
    refine ⟨trivial, by rw [e]; exact compat_refl _ _, by rw [e, e]⟩
  · subst h0
    have e : ∀ h, fa h = h := ha
    refine ⟨by rw [e]; exact compat_refl _ _, ?_, by rw [e, e]⟩
    rcases h1 with (h1 | h1) | h1
    · subst h1
      have e : ∀ h, fb h = h := hb
      rw [e]; exact compat_refl _ _
    · subst h1
      obtain ⟨bs, e⟩ : ∃ bs, ∀ h, fb h = ⟨h.boxes ++ bs, h.toks⟩ := hb
      rw [e]; exact ⟨bs, rfl⟩
    · subst h1
      obtain ⟨g, e⟩ : ∃ g : List Bool → List Bool, ∀ h, fb h = ⟨h.boxes, g h.toks⟩ := hb
      rw [e]; exact ⟨[], by simp⟩
  · subst h0
    obtain ⟨g, e⟩ : ∃ g : List Bool → List Bool, ∀ h, fa h = ⟨h.boxes, g h.toks⟩ := ha
    rcases h1 with h1 | h1
    · subst h1
      have e2 : ∀ h, fb h = h := hb
      refine ⟨by rw [e]; exact ⟨[], by simp⟩, by rw [e2]; exact compat_refl _ _, by rw [e2, e2]⟩
    · subst h1
      obtain ⟨bs, e2⟩ : ∃ bs, ∀ h, fb h = ⟨h.boxes ++ bs, h.toks⟩ := hb
      refine ⟨by rw [e]; exact rfl, by rw [e2]; exact rfl, by simp only [e, e2]⟩
  · subst h0; subst h1
    obtain ⟨bs, e⟩ : ∃ bs, ∀ h, fa h = ⟨h.boxes ++ bs, h.toks⟩ := ha
    obtain ⟨g, e2⟩ : ∃ g : List Bool → List Bool, ∀ h, fb h = ⟨h.boxes, g h.toks⟩ := hb
    refine ⟨by rw [e]; exact rfl, by rw [e2]; exact rfl, by simp only [e, e2]⟩

theorem put_other {s : St} {h : Heap} {dst : Option Tmp} {r : D} {t : Tmp} (hd : dst ≠ some t) : (St.put ⟨s.tmps, h⟩ dst r).tmps[t]? = s.tmps[t]? := by
  cases dst with
  | none => rfl
  | some u =>
    have hne : u ≠ t := fun e => hd (by rw [e])
    show (s.tmps.set u r)[t]? = _
    rw [List.getElem?_set, if_neg hne]

theorem put_heap {ts : List D} {h : Heap} {dst : Option Tmp} {r : D} : (St.put ⟨ts, h⟩ dst r).heap = h := by cases dst <;> rfl

theorem runD_swap {ops : Array Oper} {i j : Nat} (hi : i < ops.size) (hj : j < ops.size) (hij : indep ops i j = true) {r : List Nat} {s s' : St} (h : runD P C ops (i :: j :: r) s s') : runD P C ops (j :: i :: r) s s' := by
  obtain ⟨s1, h1, s2, h2, h3⟩ := h
  simp only [indep, Bool.and_eq_true] at hij
  obtain ⟨⟨⟨q1, q2⟩, q3⟩, q4⟩ := hij
  obtain ⟨ri, fi, e1, f1, g1⟩ := stp_frame h1 hi
  obtain ⟨rj, fj, e2, f2, g2⟩ := stp_frame h2 hj
  have n1 : ∀ t ∈ readOf ops j, dstOf ops i ≠ some t := by
    intro t ht e
    rw [e] at q1
    simp only [Bool.not_eq_true', List.contains_eq_mem, decide_eq_false_iff_not] at q1
    exact q1 ht
  have n2 : ∀ t ∈ readOf ops i, dstOf ops j ≠ some t := by
    intro t ht e
    rw [e] at q2
    simp only [Bool.not_eq_true', List.contains_eq_mem, decide_eq_false_iff_not] at q2
    exact q2 ht
  have hs1 : s1.heap = fi s.heap := by rw [e1]; exact put_heap
  obtain ⟨c1, c2, c3⟩ := kinds_swap q4 f1 f2 s.heap
  have a1 := g2 s (fun t ht => by rw [e1]; exact (put_other (n1 t ht)).symm) (by rw [hs1]; exact c1)
  generalize hs1' : St.put ⟨s.tmps, fj s.heap⟩ (dstOf ops j) rj = s1' at a1
  have hh1 : s1'.heap = fj s.heap := by rw [← hs1']; exact put_heap
  have a2 := g1 s1' (fun t ht => by rw [← hs1']; exact put_other (n2 t ht)) (by rw [hh1]; exact c2)
  refine ⟨s1', a1, _, a2, ?_⟩
  have : St.put ⟨s1'.tmps, fi s1'.heap⟩ (dstOf ops i) ri = s2 := by
    rw [hh1, c3, e2, hs1, e1, ← hs1']
    cases hdi : dstOf ops i with
    | none => cases hdj : dstOf ops j <;> rfl
    | some t =>
      cases hdj : dstOf ops j with
      | none => rfl
      | some u =>
        rw [hdi, hdj] at q3
        have hne : t ≠ u := by simpa using q3
        show (⟨(s.tmps.set u rj).set t ri, fj (fi s.heap)⟩ : St) = ⟨(s.tmps.set t ri).set u rj, fj (fi s.heap)⟩
        rw [List.set_comm _ _ (fun e => hne e.symm)]
  rw [this]; exact h3

theorem runD_cons {ops : Array Oper} {i : Nat} {l l' : List Nat} (h : ∀ s s', runD P C ops l s s' → runD P C ops l' s s') {s s' : St} (hr : runD P C ops (i :: l) s s') : runD P C ops (i :: l') s s' := by
  obtain ⟨s1, h1, h2⟩ := hr
  exact ⟨s1, h1, h _ _ h2⟩

/-- One that touches none ahead of it comes first. -/
theorem runD_front {ops : Array Oper} {m : Nat} (hm : m < ops.size) : ∀ {l r : List Nat}, (∀ k ∈ l, k < ops.size ∧ indep ops k m = true) → ∀ {s s' : St}, runD P C ops (l ++ m :: r) s s' → runD P C ops (m :: (l ++ r)) s s'
  | [], r, _, s, s', h => h
  | k :: l, r, hl, s, s', h => by
    have h1 : runD P C ops (k :: m :: (l ++ r)) s s' := runD_cons (fun s s' => runD_front hm (fun x hx => hl x (by simp [hx]))) h
    exact runD_swap (hl k (by simp)).1 hm (hl k (by simp)).2 h1

end
end Go.Ab
