/- Each operation does in the machine what is said of it at the level of values (4: lists, built values). Conditions: the table fits the program. -/
import Derived.Test.YtehcjnendfpbaaaGreatAbG
import Derived.Laws.BytesString
namespace Go.Ab
section
variable {P : Program} {C : Tab} {ρ : Env} {h : Heap} {w : World} {o : Oper} {a : Act} {e : Operand → D} {d : D}

theorem did_nilCheck (r : Real C.sh ρ h w) (he : ∀ x, VV C.sh ρ (a.eval x) (e x)) {x : Operand} (ho : o.op = .nilCheck x)
    (hd : (match e x with | .ptr b p => some (D.ptr b p) | .ref s d => some (.ref s d) | .fn (.func f) l => some (.fn (.func f) l) | _ => none) = some d) : Did P C o a w ρ h d := by
  have hx := he x
  generalize e x = dx at hx hd
  split at hd
  · cases hd
    obtain ⟨B, sh, s, hv, _⟩ := vv_ptr hx
    refine Did.quiet r (v := a.eval x) ?_ hx
    rw [execOp, ho]; simp [hv]
  · cases hd
    obtain ⟨ad, cs, hv, _⟩ := vv_ref hx
    refine Did.quiet r (v := a.eval x) ?_ hx
    rw [execOp, ho]; simp [hv]
  · cases hd
    rename_i f l
    have : ∃ caps, a.eval x = .func (.func f) #[] caps := by
      generalize a.eval x = v at hx
      cases hx with
      | pure h => cases h
      | fn => exact ⟨_, rfl⟩
    obtain ⟨caps, hv⟩ := this
    refine Did.quiet r (v := a.eval x) ?_ hx
    rw [execOp, ho]; simp [hv]
  · cases hd

theorem did_iface (hT : TabOk P C) (r : Real C.sh ρ h w) (he : ∀ x, VV C.sh ρ (a.eval x) (e x)) {t : TypeId} {x : Operand} (ho : o.op = .makeInterface t x) (ht : C.ty t ≠ .bad) (hp : pureD (nrm C t (e x))) :
    Did P C o a w ρ h (.ifc t (nrm C t (e x))) := by
  have hus : ∃ u, P.underlying t = some u ∧ ∀ m, u ≠ .interface m := by
    have h1 := (hT t ht).desc
    cases hty : C.ty t <;> rw [hty] at h1
    · exact h1.elim
    · exact ⟨_, h1.2, by simp⟩
    · exact ⟨_, h1.2, by simp⟩
    · obtain ⟨_, d, hd, hn⟩ := h1; exact ⟨d, hd, by intro m e; subst e; simp at hn⟩
    · exact ⟨_, h1.2, by simp⟩
    · exact ⟨_, h1.2.1, by simp⟩
    · exact ⟨_, h1.2.1, by simp⟩
    · obtain ⟨_, fl, hf, _⟩ := h1; exact ⟨_, hf, by simp⟩
    · exact ⟨_, h1.2.1, by simp⟩
  obtain ⟨u, hu, hn⟩ := hus
  refine Did.quiet r (v := .iface t (a.eval x)) ?_ (.pure (.ifc (vp_of_vv (vv_nrm (he x)) hp)))
  rw [execOp, ho]
  simp only [Instr.makeInterface, Sem.run_bind, run_underlying hu, Result.andThen_ok]
  cases u <;> first | rfl | exact absurd rfl (hn _)

theorem no_iface (hT : TabOk P C) {t : TypeId} (ht : C.ty t ≠ .bad) : ∃ u, P.underlying t = some u ∧ ∀ m, u ≠ .interface m := by
  have h1 := (hT t ht).desc
  cases hty : C.ty t <;> rw [hty] at h1
  · exact h1.elim
  · exact ⟨_, h1.2, by simp⟩
  · exact ⟨_, h1.2, by simp⟩
  · obtain ⟨_, d, hd, hn⟩ := h1; exact ⟨d, hd, by intro m e; subst e; simp at hn⟩
  · exact ⟨_, h1.2, by simp⟩
  · exact ⟨_, h1.2.1, by simp⟩
  · exact ⟨_, h1.2.1, by simp⟩
  · obtain ⟨_, fl, hf, _⟩ := h1; exact ⟨_, hf, by simp⟩
  · exact ⟨_, h1.2.1, by simp⟩
theorem did_assert (hT : TabOk P C) (r : Real C.sh ρ h w) (he : ∀ x, VV C.sh ρ (a.eval x) (e x)) {x : Operand} {t' t : TypeId} {ok : Bool} (ho : o.op = .typeAssert x t' t ok) (hd : assertD C t ok (e x) = some d) : Did P C o a w ρ h d := by
  unfold assertD at hd
  split at hd
  case h_2 => cases hd
  rename_i u y hx
  split at hd
  case isFalse => cases hd
  rename_i ht
  have h1 := he x
  rw [hx] at h1
  have hv : ∃ v, a.eval x = .iface u v ∧ VP C.sh ρ.S v y := by
    generalize a.eval x = v at h1
    cases h1 with
    | pure hf => cases hf with
      | ifc hd => exact ⟨_, rfl, hd⟩
  obtain ⟨v, hv, hvy⟩ := hv
  obtain ⟨ud, hu, hn⟩ := no_iface hT ht
  obtain ⟨i, z, hi, _, _, hz, hzv⟩ := (hT t ht).info
  have hzr : (zeroValue t).run P w = .ok z w := by simp [zeroValue, typeInfo, hi, hz]
  have hrun : (execOp a.eval o).run P w = (Sem.run P (do pure (Next.value (← (if u = t then (pure (if ok then .tuple #[v, .bool true] else v) : Sem Value) else (do
      if ok then pure (.tuple #[← zeroValue t, .bool false]) else runtimePanic (.typeAssertion (some t') (some u) t "")))))) w) := by
    rw [execOp, ho]
    simp only [Instr.typeAssert, Sem.run_bind, run_underlying hu, Result.andThen_ok, hv]
  split at hd
  · rename_i hut
    subst hut
    cases hd
    refine Did.quiet r (v := if ok then .tuple #[v, .bool true] else v) ?_ ?_
    · rw [hrun]; simp
    · cases ok with
      | true =>
        refine VV.tup (vs := [v, .bool true]) rfl fun k c dd hc hd => ?_
        match k, hc, hd with
        | 0, hc, hd => cases hc; cases hd; exact .pure hvy
        | 1, hc, hd => cases hc; cases hd; exact .lit _
      | false => exact .pure hvy
  · rename_i hut
    split at hd
    case isFalse => cases hd
    rename_i hok
    cases hd
    refine Did.quiet r (v := .tuple #[z, .bool false]) ?_ ?_
    · rw [hrun, if_neg hut]
      simp [hok, hzr]
    · refine VV.tup (vs := [z, .bool false]) rfl fun k c dd hc hd => ?_
      match k, hc, hd with
      | 0, hc, hd => cases hc; cases hd; exact .pure (hzv _)
      | 1, hc, hd => cases hc; cases hd; exact .lit _

theorem did_makeFunc (r : Real C.sh ρ h w) (he : ∀ x, VV C.sh ρ (a.eval x) (e x)) {f : Fn} {caps : Array Operand} (ho : o.op = .makeFunc f #[] caps) : Did P C o a w ρ h (.fn f (caps.toList.map e)) := by
  refine Did.quiet r (v := .func f #[] (caps.toList.map a.eval).toArray) ?_ (.fn (by simp) ?_)
  · rw [execOp, ho]
    obtain ⟨l⟩ := caps
    simp [Instr.makeFunc]
  · intro i c d hc hd
    simp only [List.getElem?_map, Option.map_eq_some_iff] at hc hd
    obtain ⟨x, hx, rfl⟩ := hc
    obtain ⟨y, hy, rfl⟩ := hd
    rw [hx] at hy; cases hy
    exact he x

theorem bytesOfL_eq : ∀ {l : List D} {ns : List Int}, bytesOfL l = some ns → l = ns.map fun n => .lit (.int .u8 n)
  | [], ns, h => by simp only [bytesOfL, Option.some.injEq] at h; subst h; rfl
  | d :: r, ns, h => by
    simp only [bytesOfL] at h
    split at h
    · rw [Option.map_eq_some_iff] at h
      obtain ⟨ms, h1, rfl⟩ := h
      rw [bytesOfL_eq h1]; rfl
    · cases h
theorem leavesL_u8 (ns : List Int) : leavesL (ns.map fun n => D.lit (.int .u8 n)) = ns.map fun n => .lit (.int .u8 n) := by
  induction ns with
  | nil => rfl
  | cons n r ih => simp only [List.map_cons, leavesL, leaves, ih]; rfl
theorem did_str (hT : TabOk P C) (r : Real C.sh ρ h w) (he : ∀ x, VV C.sh ρ (a.eval x) (e x)) {s t : TypeId} {x : Operand} {u : TypeId} {l : List D} {tk : Tok} (ho : o.op = .convert s t x) (hx : e x = .lst u l tk) (hs : C.ty s ≠ .bad) (ht : C.ty t ≠ .bad)
    (hd : strD C s t l = some d) : Did P C o a w ρ h d := by
  unfold strD at hd
  split at hd
  case h_2 => cases hd
  rename_i e' hty1 hty2
  split at hd
  case isFalse => cases hd
  rename_i h8
  rw [Option.map_eq_some_iff] at hd
  obtain ⟨ns, hb, rfl⟩ := hd
  have hl := bytesOfL_eq hb
  have f1 := (hT s hs).desc
  rw [hty1] at f1
  have f2 := (hT t ht).desc
  rw [hty2] at f2
  have f3 := (hT e' (by rw [h8]; simp)).desc
  rw [h8] at f3
  have hrow := vv_lst (hx ▸ he x)
  refine Did.quiet r (v := .string (ns.foldl (fun r n => r.push (UInt8.ofNat n.toNat)) ByteArray.empty)) ?_ (.lit _)
  rw [execOp, ho]
  rcases hrow with ⟨hv, hn⟩ | ⟨ad, cap, cs, hv, hr, hcl, hvp, _⟩
  · obtain rfl : ns = [] := by rw [hn] at hl; simpa using hl.symm
    simp only [hv, convert, Sem.run_bind, run_underlying f1.2.1, run_underlying f2.2, run_underlying f3.2, Result.andThen_ok, Conv.bytesToString, Sem.run_pure, List.foldl_nil]
  · have hcs : cs = ns.map (Value.int .u8) := by
      rw [hl, leavesL_u8] at hcl hvp
      refine List.ext_getElem (by simpa using hcl) fun i h1 h2 => ?_
      have h3 : i < ns.length := by simpa using h2
      have := hvp i _ (.lit (.int .u8 ns[i])) (List.getElem?_eq_getElem h1) (by simp [h3])
      generalize cs[i] = c at this ⊢
      cases this
      simp
    have hlen : l.length = cs.length := by rw [hl, hcs]; simp
    have hload := run_loadCells_list (P := P) w ad cs (rd_of_row r hr)
    rw [← hlen, hcs] at hload
    have hb2 := run_bytesToString w ad l.length cap ns hload
    simp only [hv, convert, Sem.run_bind, run_underlying f1.2.1, run_underlying f2.2, run_underlying f3.2, Result.andThen_ok, hb2, Sem.run_pure]
theorem did_makeBound (r : Real C.sh ρ h w) (he : ∀ x, VV C.sh ρ (a.eval x) (e x)) {g : FuncId} {first : Array Operand} (ho : o.op = .makeFunc (.func g) first #[]) : Did P C o a w ρ h (.mp [] (first.toList.map e) g) := by
  refine Did.quiet r (v := .func (.func g) (first.toList.map a.eval).toArray #[]) ?_ (.bnd (by simp) ?_)
  · rw [execOp, ho]
    obtain ⟨l⟩ := first
    simp [Instr.makeFunc]
  · intro i c d hc hd
    simp only [List.getElem?_map, Option.map_eq_some_iff] at hc hd
    obtain ⟨x, hx, rfl⟩ := hc
    obtain ⟨y, hy, rfl⟩ := hd
    rw [hx] at hy; cases hy
    exact he x

theorem did_extract (r : Real C.sh ρ h w) (he : ∀ x, VV C.sh ρ (a.eval x) (e x)) {x : Operand} {i : Nat} {l : List D} (ho : o.op = .extract x i) (hx : e x = .tup l) (hd : l[i]? = some d) : Did P C o a w ρ h d := by
  have h1 := he x
  rw [hx] at h1
  generalize hv : a.eval x = v at h1
  cases h1 with
  | pure h => cases h
  | @tup vs _ hl hall =>
    have hi : i < vs.length := by rw [hl]; exact (List.getElem?_eq_some_iff.1 hd).1
    refine Did.quiet r (v := vs[i]) ?_ (hall i _ _ (List.getElem?_eq_getElem hi) hd)
    rw [execOp, ho]
    simp [hv, Instr.extract, hi]

/-- A bound of a slice expression. -/
theorem bound_sound {x : Value} {dx : D} (hx : VV C.sh ρ x dx) {n y : Nat} {code : BoundsCode} (hn : natOf dx = some n) (hle : n ≤ y) : (Instr.sliceBound x y code).run P w = .ok n w := by
  unfold natOf at hn
  split at hn
  case h_2 => cases hn
  split at hn
  case isFalse => cases hn
  rename_i k i h0
  cases hn
  have : (0 : Int) ≤ i ∧ i ≤ (y : Int) := ⟨h0, by omega⟩
  simp only [Instr.sliceBound, vv_lit hx, asIntOf, Sem.run_bind, Sem.run_pure, Result.andThen_ok, if_pos this]

theorem slice_tok {mx : Option D} {tk : Tok} {nm nb k id : Nat} (h : (if mx.isSome then (if nm = nb then Tok.full else .no) else if nb = k then tk else .no) = .own id) : mx = none ∧ nb = k ∧ tk = .own id := by
  cases mx with
  | none =>
    simp only [Option.isSome_none, Bool.false_eq_true, if_false] at h
    split at h
    · rename_i hk; exact ⟨rfl, hk, h⟩
    · cases h
  | some x =>
    simp only [Option.isSome_some, if_true] at h
    split at h <;> cases h

theorem did_slice (hT : TabOk P C) (r : Real C.sh ρ h w) (he : ∀ x, VV C.sh ρ (a.eval x) (e x)) {t : TypeId} {x : Operand} {lo hi mx : Option Operand} (ho : o.op = .slice t x lo hi mx)
    (hd : sliceD C t (nrm C t (e x)) (lo.map e) (hi.map e) (mx.map e) = some d) : Did P C o a w ρ h d := by
  have hx := vv_nrm (t := t) (he x)
  generalize nrm C t (e x) = dx at hx hd
  unfold sliceD at hd
  split at hd
  · rename_i u l tk
    split at hd
    case isFalse => cases hd
    rename_i hty
    have ht : C.ty t ≠ .bad := by rw [hty]; simp
    have hf := (hT t ht).desc
    rw [hty] at hf
    obtain ⟨h1, hu, hub, husz⟩ := hf
    have hfu := (hT u hub).run_sizeOf w
    simp only [Option.bind_eq_some_iff] at hd
    obtain ⟨na, ha, nb, hb, nm, hm, hd⟩ := hd
    split at hd
    case isFalse => cases hd
    rename_i hle
    obtain ⟨hab, hbm, hml, hmx⟩ := hle
    cases hd
    -- the bounds
    have bnds : ∀ cap, l.length ≤ cap → (tk = .full → cap = l.length) → ∃ m, (Instr.sliceBounds true l.length cap (lo.map a.eval) (hi.map a.eval) (mx.map a.eval)).run P w = .ok (na, nb, m) w ∧ nb ≤ m ∧ m ≤ cap ∧ (mx = none → m = cap) ∧
        ((if (mx.map e).isSome then (if nm = nb then Tok.full else .no) else if nb = l.length then tk else .no) = .full → m = nb) := by
      intro cap hc hfl
      have hlow : (lo = none ∧ na = 0) ∨ ∃ o1, lo = some o1 ∧ ∀ code, (Instr.sliceBound (a.eval o1) nb code).run P w = .ok na w := by
        cases lo with
        | none => simp [boundD] at ha; exact .inl ⟨rfl, ha.symm⟩
        | some o1 => exact .inr ⟨o1, rfl, fun code => bound_sound (he o1) (by simpa [boundD] using ha) hab⟩
      cases mx with
      | none =>
        simp only [Option.map_none, boundD, Option.some.injEq] at hm
        subst hm
        refine ⟨cap, ?_, by omega, Nat.le_refl _, fun _ => rfl, ?_⟩
        · unfold Instr.sliceBounds
          cases hi with
          | none =>
            simp only [Option.map_none, boundD, Option.some.injEq] at hb
            subst hb
            rcases hlow with ⟨rfl, rfl⟩ | ⟨o1, rfl, hlo⟩ <;> simp [*]
          | some o2 =>
            have hb' := bound_sound (P := P) (w := w) (code := .sliceAcap) (y := cap) (he o2) (by simpa [boundD] using hb) (by omega)
            rcases hlow with ⟨rfl, rfl⟩ | ⟨o1, rfl, hlo⟩ <;> simp [*]
        · simp only [Option.map_none, Option.isSome_none, Bool.false_eq_true, if_false]
          intro hh
          split at hh
          · rename_i h2; rw [hfl hh]; exact h2.symm
          · cases hh
      | some o3 =>
        cases hi with
        | none => simp at hmx
        | some o2 =>
          have hm' := bound_sound (P := P) (w := w) (code := .slice3Acap) (y := cap) (he o3) (by simpa [boundD] using hm) (by omega)
          have hb' := bound_sound (P := P) (w := w) (code := .slice3B) (y := nm) (he o2) (by simpa [boundD] using hb) (by omega)
          refine ⟨nm, ?_, by omega, by omega, (fun hh => by cases hh), ?_⟩
          · unfold Instr.sliceBounds
            rcases hlow with ⟨rfl, rfl⟩ | ⟨o1, rfl, hlo⟩ <;> simp [*]
          · simp only [Option.map_some, Option.isSome_some, if_true]
            intro hh
            split at hh
            · assumption
            · cases hh
    rcases vv_lst hx with ⟨hv, hnil⟩ | ⟨ad, cap, cs, hv, hrow, hl, hall, hsh, hc, hcm, hfl⟩
    · subst hnil
      simp only [List.length_nil, Nat.le_zero_eq] at hml
      subst hml
      obtain rfl : nb = 0 := by omega
      obtain rfl : na = 0 := by omega
      obtain ⟨m, hb2, hm1, hm2, _, _⟩ := bnds 0 (by simp) (by simp)
      obtain rfl : m = 0 := by omega
      refine Did.quiet r (v := .slice none 0 0) ?_ ?_
      · rw [execOp, ho]
        simp only [Instr.sliceAt, Instr.slice, Sem.run_bind, run_underlying hu, Result.andThen_ok, hv]
        simp only [List.length_nil] at hb2
        simp [hb2, hfu]
      · have hg : ∀ T' : Tok, (∀ id, T' = .own id → tk = .own id) → VV C.sh ρ (.slice none 0 0) (.lst u [] T') := by
          intro T' hT'
          cases T' with
          | own id =>
            have htk := hT' id rfl
            subst htk
            rcases vv_own hx with ⟨_, _, h3⟩ | ⟨B, o, n, lim, cap, h3, _⟩
            · exact .ownNil h3
            · rw [hv] at h3; cases h3
          | no => exact .pure (.nil (by simp))
          | full => exact .pure (.nil (by simp))
        exact hg _ fun id h => (slice_tok h).2.2
    · obtain ⟨m, hb2, hm1, hm2, hm0, hm3⟩ := bnds cap hc hfl
      have hlen : ((l.take nb).drop na).length = nb - na := by simp; omega
      refine Did.quiet r (v := .slice (some (if m = na then ad else ad.add (na * (C.sh u).size))) (nb - na) (m - na)) ?_ ?_
      · rw [execOp, ho]
        simp only [Instr.sliceAt, Instr.slice, Sem.run_bind, run_underlying hu, Result.andThen_ok, hv, hb2, hfu, Sem.run_pure]
        by_cases hma : m = na <;> simp [hma]
      · have hcs : ((cs.drop (na * (C.sh u).size)).take ((nb - na) * (C.sh u).size)).length = (leavesL ((l.take nb).drop na)).length := by
          rw [leavesL_length_const (n := (C.sh u).size) (fun x hx => leaves_length (hsh x (List.mem_of_mem_take (List.mem_of_mem_drop hx)))), hlen]
          have hll := leavesL_length_const (n := (C.sh u).size) (fun x hx => leaves_length (hsh x hx))
          simp only [List.length_take, List.length_drop, hl, hll]
          rw [← Nat.sub_mul]
          exact Nat.min_eq_left (Nat.mul_le_mul_right _ (by omega))
        have hsplit : ∀ i y, (leavesL ((l.take nb).drop na))[i]? = some y → (leavesL l)[na * (C.sh u).size + i]? = some y := by
          intro i y hy
          have e1 : l = l.take na ++ ((l.take nb).drop na ++ l.drop nb) := by
            have h2 : l.take na = (l.take nb).take na := by rw [List.take_take, Nat.min_eq_left hab]
            rw [h2, ← List.append_assoc, List.take_append_drop, List.take_append_drop]
          have hl1 : (leavesL (l.take na)).length = na * (C.sh u).size := by
            rw [leavesL_length_const (n := (C.sh u).size) (fun x hx => leaves_length (hsh x (List.mem_of_mem_take hx))), List.length_take, Nat.min_eq_left (by omega)]
          rw [e1, leavesL_append, leavesL_append]
          rw [List.getElem?_append_right (by omega), hl1, Nat.add_sub_cancel_left]
          rw [List.getElem?_append_left (List.getElem?_eq_some_iff.1 hy).1]
          exact hy
        have key : ∀ T' : Tok, (∀ i, T' ≠ .own i) → (T' = .full → m = nb) → VP C.sh ρ.S (.slice (some (if m = na then ad else ad.add (na * (C.sh u).size))) ((l.take nb).drop na).length (m - na))
            (.lst u ((l.take nb).drop na) T') := by
          intro T' hT1 hT2
          refine .lst ((cs.drop (na * (C.sh u).size)).take ((nb - na) * (C.sh u).size)) ?_ hcs ?_ ?_ (by rw [hlen]; omega) (by omega) ?_ ?_
          · by_cases hma : m = na
            · have : nb - na = 0 := by omega
              rw [this]
              intro i c hc'
              simp at hc'
            · rw [if_neg hma]; exact rowAt_sub hrow _ _
          · intro i c y hc' hy
            rw [List.getElem?_take] at hc'
            split at hc'
            case isFalse => cases hc'
            rw [List.getElem?_drop] at hc'
            exact hall _ c y hc' (hsplit i y hy)
          · intro x hx
            exact hsh x (List.mem_of_mem_take (List.mem_of_mem_drop hx))
          · exact hT1
          · intro hh
            have := hT2 hh
            rw [hlen, this]
        by_cases hown : ∃ id, (if (mx.map e).isSome then (if nm = nb then Tok.full else .no) else if nb = l.length then tk else .no) = .own id
        · obtain ⟨id, hid⟩ := hown
          obtain ⟨hmn, hnb, htk⟩ := slice_tok hid
          have hmc := hm0 (by simpa using hmn)
          rw [hid]
          subst htk
          rcases vv_own hx with ⟨h3, _⟩ | ⟨B, o, n, lim, cap', h3, h4, h5, _⟩
          · rw [hv] at h3; cases h3
          · rw [hv] at h3
            simp only [Value.slice.injEq, Option.some.injEq, true_and] at h3
            obtain ⟨rfl, rfl⟩ := h3
            have k2 := key .no (by simp) (by simp)
            by_cases hma : m = na
            · rw [if_pos hma] at k2 ⊢
              rw [← hlen]
              exact .own h4 (fun hne => absurd (by omega) hne) k2
            · rw [if_neg hma, addr_add _ _ rfl] at k2 ⊢
              rw [← hlen]
              refine .own h4 (fun _ => ?_) k2
              obtain ⟨h6, h7⟩ := h5 (by omega)
              rw [hlen, h6, h7, hmc, hnb, Nat.add_assoc, Nat.add_assoc, ← Nat.add_mul, ← Nat.add_mul]
              exact ⟨by congr 2; omega, by congr 2; omega⟩
        · have k1 := key _ (fun i hi => hown ⟨i, hi⟩) hm3
          rw [hlen] at k1
          exact .pure k1
  · rename_i u b l n c
    split at hd
    case isFalse => cases hd
    rename_i hty
    have ht : C.ty t ≠ .bad := by rw [hty]; simp
    have hf := (hT t ht).desc
    rw [hty] at hf
    obtain ⟨h1, hu, hub, husz⟩ := hf
    have hfu := (hT u hub).run_sizeOf w
    simp only [Option.bind_eq_some_iff] at hd
    obtain ⟨na, ha, nb, hb, nm, hm, hd⟩ := hd
    split at hd
    case isFalse => cases hd
    rename_i hle
    obtain ⟨hab, hbm, hml, hmx⟩ := hle
    cases hd
    obtain ⟨B, N, oo, hv, hbox, hc, hn, hmm, hoo⟩ := vv_sl hx
    have bnds : (Instr.sliceBounds true n c (lo.map a.eval) (hi.map a.eval) (mx.map a.eval)).run P w = .ok (na, nb, nm) w := by
      have hlow : (lo = none ∧ na = 0) ∨ ∃ o1, lo = some o1 ∧ ∀ code, (Instr.sliceBound (a.eval o1) nb code).run P w = .ok na w := by
        cases lo with
        | none => simp [boundD] at ha; exact .inl ⟨rfl, ha.symm⟩
        | some o1 => exact .inr ⟨o1, rfl, fun code => bound_sound (he o1) (by simpa [boundD] using ha) hab⟩
      cases mx with
      | none =>
        simp only [Option.map_none, boundD, Option.some.injEq] at hm
        subst hm
        unfold Instr.sliceBounds
        cases hi with
        | none =>
          simp only [Option.map_none, boundD, Option.some.injEq] at hb
          subst hb
          rcases hlow with ⟨rfl, rfl⟩ | ⟨o1, rfl, hlo⟩ <;> simp [*]
        | some o2 =>
          have hb' := bound_sound (P := P) (w := w) (code := .sliceAcap) (y := c) (he o2) (by simpa [boundD] using hb) (by omega)
          rcases hlow with ⟨rfl, rfl⟩ | ⟨o1, rfl, hlo⟩ <;> simp [*]
      | some o3 =>
        cases hi with
        | none => simp at hmx
        | some o2 =>
          have hm' := bound_sound (P := P) (w := w) (code := .slice3Acap) (y := c) (he o3) (by simpa [boundD] using hm) (by omega)
          have hb' := bound_sound (P := P) (w := w) (code := .slice3B) (y := nm) (he o2) (by simpa [boundD] using hb) (by omega)
          unfold Instr.sliceBounds
          rcases hlow with ⟨rfl, rfl⟩ | ⟨o1, rfl, hlo⟩ <;> simp [*]
    refine Did.quiet r (v := .slice (some (if nm = na then ⟨B, oo, none⟩ else (⟨B, oo, none⟩ : Addr).add (na * (C.sh u).size))) (nb - na) (nm - na)) ?_ ?_
    · rw [execOp, ho]
      simp only [Instr.sliceAt, Instr.slice, Sem.run_bind, run_underlying hu, Result.andThen_ok, hv, bnds, hfu, Sem.run_pure]
      by_cases hma : nm = na <;> simp [hma]
    · by_cases hma : nm = na
      · rw [if_pos hma]
        exact .sl hbox (by omega) (by omega) hmm (by omega)
      · rw [if_neg hma, addr_add _ _ rfl]
        refine .sl hbox (by omega) (by omega) hmm fun _ => ?_
        have := hoo (by omega)
        rw [this, Nat.add_mul]
  · rename_i s
    split at hd
    case isFalse => cases hd
    rename_i hc
    obtain ⟨hty, hmn⟩ := hc
    have ht : C.ty t ≠ .bad := by rw [hty]; simp
    have hf := (hT t ht).desc
    rw [hty] at hf
    have hmx : mx = none := by cases mx with | none => rfl | some _ => simp at hmn
    subst hmx
    simp only [Option.bind_eq_some_iff] at hd
    obtain ⟨na, ha, nb, hb, hd⟩ := hd
    split at hd
    case isFalse => cases hd
    rename_i hle
    cases hd
    refine Did.quiet r (v := .string (s.extract na nb)) ?_ (.lit _)
    rw [execOp, ho]
    have hlow : (lo = none ∧ na = 0) ∨ ∃ o1, lo = some o1 ∧ ∀ code, (Instr.sliceBound (a.eval o1) nb code).run P w = .ok na w := by
      cases lo with
      | none => simp [boundD] at ha; exact .inl ⟨rfl, ha.symm⟩
      | some o1 => exact .inr ⟨o1, rfl, fun code => bound_sound (he o1) (by simpa [boundD] using ha) hle.1⟩
    have bnds : (Instr.sliceBounds false s.size s.size (lo.map a.eval) (hi.map a.eval) none).run P w = .ok (na, nb, s.size) w := by
      unfold Instr.sliceBounds
      cases hi with
      | none =>
        simp only [Option.map_none, boundD, Option.some.injEq] at hb
        subst hb
        rcases hlow with ⟨rfl, rfl⟩ | ⟨o1, rfl, hlo⟩ <;> simp [*]
      | some o2 =>
        have hb' := bound_sound (P := P) (w := w) (code := .sliceAlen) (y := s.size) (he o2) (by simpa [boundD] using hb) hle.2
        rcases hlow with ⟨rfl, rfl⟩ | ⟨o1, rfl, hlo⟩ <;> simp [*]
    simp only [Instr.sliceAt, Instr.slice, Sem.run_bind, run_underlying hf.2, Result.andThen_ok, vv_lit hx, Option.map_none, Option.isSome_none, Bool.false_eq_true, if_false, bnds, Sem.run_pure]
  · cases hd

end
end Go.Ab
