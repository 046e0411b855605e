/- Each operation does in the machine what is said of it at the level of values (7: maps). Conditions: the table fits the program. -/
import Derived.Test.YtehcjnendfpbaaaGreatAbJ
namespace Go.Ab
open MapKept
section
variable {P : Program} {C : Tab} {ρ : Env} {h h' : Heap} {w : World} {o : Oper} {a : Act} {e : Operand → D} {d : D}

open Classical in
/-- Which entry has a key. -/
noncomputable def findV (v : Value) : List MapEntry → Nat → Option (Nat × Value)
  | [], _ => none
  | e :: es, i => if e.key = v then some (i, e.val) else findV v es (i + 1)

theorem plain_isKey (hT : TabOk P C) {k : TypeId} {v : Value} (hp : plain C k (.lit v)) : ∃ d, P.underlying k = some d ∧ (∀ u, plain C k (.lit u) → IsKey d u) ∧ (match d with | .array _ _ => false | .struct _ => false | _ => true) = true := by
  have hk : C.ty k ≠ .bad := by intro e; cases v <;> simp [plain, e] at hp
  have hf := (hT k hk).desc
  cases v <;> simp only [plain] at hp <;> first | exact hp.elim | skip
  all_goals rw [hp] at hf
  all_goals
    refine ⟨_, hf.2, fun u hu => ?_, rfl⟩
    cases u <;> simp only [plain, hp] at hu <;> first | exact hu.elim | (cases hu; done) | trivial | skip
  all_goals (cases hu; rfl)

theorem findNow_V {d : TypeDesc} {v : Value} (hv : IsKey d v) : ∀ (l : List MapEntry) (i : Nat), (∀ x ∈ l, IsKey d x.key) → Instr.findNow d v l i = some (findV v l i)
  | [], i, _ => rfl
  | x :: l, i, h => by
    obtain ⟨r, hr, hiff⟩ := sameNow_of_keys hv (h x (by simp))
    cases r with
    | true =>
      have e : x.key = v := (hiff.1 rfl).symm
      simp only [Instr.findNow, hr, findV, if_pos e]
    | false =>
      have hne : x.key ≠ v := fun q => by have := hiff.2 q.symm; cases this
      simp [Instr.findNow, hr, findV, hne, findNow_V hv l (i + 1) (fun z hz => h z (by simp [hz]))]

theorem run_findKey_all (hT : TabOk P C) {k : TypeId} {d : D} (hd : plain C k d) (w : World) (es : List MapEntry) (ks : List D) (hks : es.map (·.key) = ks.map valOf) (hp : ∀ x ∈ ks, plain C k x) :
    (Instr.findKey k (valOf d) es).run P w = .ok (findV (valOf d) es 0) w := by
  have hes : ∀ x ∈ es, ∃ y, plain C k y ∧ x.key = valOf y := by
    intro x hx
    have : x.key ∈ ks.map valOf := by rw [← hks]; exact List.mem_map.2 ⟨x, hx, rfl⟩
    obtain ⟨y, hy, e⟩ := List.mem_map.1 this
    exact ⟨y, hp y hy, e.symm⟩
  cases d with
  | lit v =>
    obtain ⟨dd, hu, hk, _⟩ := plain_isKey hT hd
    refine run_findKey hu (findNow_V (hk v hd) es 0 fun x hx => ?_)
    obtain ⟨y, hy, e⟩ := hes x hx
    cases y with
    | lit u => rw [e]; exact hk u hy
    | agg l => cases v <;> simp [plain] at hd <;> simp [plain, hd] at hy
    | _ => simp [plain] at hy
  | agg l =>
    have hty : (match P.underlying k with | some (.array _ _) | some (.struct _) => true | _ => false) = true := by
      have hk : C.ty k ≠ .bad := by intro e; simp [plain, e] at hd
      have hf := (hT k hk).desc
      unfold plain at hd
      split at hd
      · rename_i n e hty; rw [hty] at hf; rw [hf.2.1]
      · rename_i fs hty; rw [hty] at hf; obtain ⟨_, flds, hu, _⟩ := hf; rw [hu]
      · exact hd.elim
    have hask : (Instr.findKey k (valOf (.agg l)) es).run P w = (Instr.findAsking k (valOf (.agg l)) es).run P w := by
      cases hu : P.underlying k with
      | none => simp [hu] at hty
      | some kd =>
        cases es with
        | nil => simp [Instr.findKey, run_underlying hu, Instr.findNow, Instr.findAsking]
        | cons e es => cases kd <;> simp [hu] at hty <;> simp [Instr.findKey, run_underlying hu, Instr.findNow, Instr.sameNow]
    rw [hask]
    have key : ∀ (l' : List MapEntry) (i : Nat), (∀ x ∈ l', ∃ y, plain C k y ∧ x.key = valOf y) → (Instr.findAsking k (valOf (.agg l)) l' i).run P w = .ok (findV (valOf (.agg l)) l' i) w := by
      intro l'
      induction l' with
      | nil => intro i _; rfl
      | cons x r ih =>
        intro i h
        obtain ⟨y, hy, e⟩ := h x (by simp)
        have hq := equalIn_sound (ρ := ⟨fun _ _ => none, [], [], fun _ => False⟩) hT Op.maxDepth k (.agg l) y (valOf (.agg l)) x.key w (by
          have hk : C.ty k ≠ .bad := by intro e; simp [plain, e] at hd
          have := (hT k hk).depLt
          have : Op.maxDepth = 10000 := rfl
          omega) hd hy (vv_flat (plain_flatD hd)) (by rw [e]; exact vv_flat (plain_flatD hy))
        simp only [Instr.findAsking, Sem.run_bind, Op.equal, hq, Result.andThen_ok]
        have hiff : x.key = valOf (.agg l) ↔ D.agg l = y := ⟨fun h => plain_inj hT hd hy (by rw [← h, e]), fun h => by rw [e, ← h]⟩
        by_cases he : D.agg l = y
        · simp only [findV, if_pos (hiff.2 he)]
          have : eqB (.agg l) y = true := by rw [eqB_true]; exact he
          simp only [this, if_true, Sem.run_pure]
        · simp only [findV, if_neg (fun h => he (hiff.1 h))]
          have : eqB (.agg l) y = false := by rw [eqB_false]; exact he
          simp only [this, Bool.false_eq_true, if_false]
          exact ih (i + 1) (fun z hz => h z (by simp [hz]))
    exact key es 0 hes
  | _ => simp [plain] at hd

theorem run_checkKey_all (hT : TabOk P C) (em : Bool) : ∀ (n : Nat) (t : TypeId) (d : D) (v : Value) (w : World), C.dep t < n → plain C t d → VV C.sh ρ v d → (Instr.checkKey em n t v).run P w = .ok () w := by
  intro n
  induction n with
  | zero => intro t _ _ _ h; exact absurd h (Nat.not_lt_zero _)
  | succ n ih =>
    intro t d v w hn hd hv
    have ht : C.ty t ≠ .bad := by
      intro e
      cases d with
      | lit v => cases v <;> simp [plain, e] at hd
      | agg l => simp [plain, e] at hd
      | _ => simp [plain] at hd
    have hdesc := (hT t ht).desc
    cases d with
    | lit x =>
      have := vv_lit hv; subst this
      obtain ⟨dd, hu, hk, _⟩ := plain_isKey hT hd
      exact run_checkKey hu (hk _ hd) em n
    | agg l =>
      have hsx := plain_sh hT (n + 1) t _ hn hd
      have hvc := vv_cells hv hsx
      simp only [leaves] at hvc
      obtain ⟨cs, rfl⟩ : ∃ cs : List Value, v = .agg cs.toArray := by
        cases hv with
        | pure h => cases h with | agg => exact ⟨_, rfl⟩
        | agg => exact ⟨_, rfl⟩
      simp only [Value.cells] at hvc
      have step : ∀ (j : Nat) (z : TypeId) (w : World), C.kidTy t j = some z → ∃ a, (part z cs.toArray ((C.sh t).kidOff j)).run P w = .ok a w ∧ (Instr.checkKey em n z a).run P w = .ok () w := by
        intro j z w hz
        obtain ⟨a, x, h1, h2, h3, h4, h5⟩ := part_of (w := w) hT hz hsx hvc
        obtain ⟨z1, e1, p1⟩ := kidTy_mem hd h1
        rw [hz] at e1
        cases e1
        have hdep := (kidTy_kid hT hz).2.2.2
        exact ⟨a, h5, ih z x a w (by omega) p1 h3⟩
      unfold plain at hd
      split at hd
      · rename_i k e hty
        rw [hty] at hdesc
        have he := hT e hdesc.2.2.1
        unfold Instr.checkKey
        simp only [Sem.run_bind, run_underlying hdesc.2.1, Result.andThen_ok]
        simp only [Std.Legacy.Range.forIn_eq_forIn_range', Std.Legacy.Range.size, Nat.sub_zero, Nat.add_one_sub_one, Nat.div_one]
        have each : ∀ j ∈ List.range' 0 k, ∃ a, (part e cs.toArray (j * (C.sh e).size)).run P w = .ok a w ∧ (Instr.checkKey em n e a).run P w = .ok () w := by
          intro j hj
          have hz : C.kidTy t j = some e := by
            have := (List.mem_range'_1.1 hj).2
            simp [Tab.kidTy, hty]; omega
          obtain ⟨a, q3, q4⟩ := step j e w hz
          have hko : (C.sh t).kidOff j = j * (C.sh e).size := by rw [hdesc.1]; rfl
          rw [hko] at q3
          exact ⟨a, q3, q4⟩
        generalize List.range' 0 k = is at each
        induction is with
        | nil => simp
        | cons j is ih2 =>
          obtain ⟨a, p1, p2⟩ := each j (by simp)
          simp only [List.forIn_cons, Sem.run_bind, he.run_sizeOf w, Result.andThen_ok, p1, p2, Sem.run_pure]
          exact ih2 (fun y hy => each y (by simp [hy]))
      · rename_i fs hty
        rw [hty] at hdesc
        obtain ⟨h1, flds, hund, hsz, hsi, hall⟩ := hdesc
        unfold Instr.checkKey
        simp only [Sem.run_bind, run_underlying hund, Result.andThen_ok]
        rw [← Array.forIn_toList]
        have each : ∀ f ∈ flds.toList, f.name ≠ "_" ∧ ∃ a, (part f.type cs.toArray f.offset).run P w = .ok a w ∧ (Instr.checkKey em n f.type a).run P w = .ok () w := by
          intro f hf
          obtain ⟨j, hj, rfl⟩ := List.getElem_of_mem hf
          have hj' : j < flds.size := by simpa using hj
          obtain ⟨k1, k2, k3, k4, k5, k6⟩ := hall j flds[j] (Array.getElem?_eq_getElem hj')
          have hz : C.kidTy t j = some flds[j].type := by simp [Tab.kidTy, hty, k1]
          obtain ⟨a, q3, q4⟩ := step j _ w hz
          rw [← k2] at q3
          exact ⟨k4, a, q3, q4⟩
        clear hall hsz hund hsi
        generalize flds.toList = L at each
        induction L with
        | nil => simp
        | cons f L ih2 =>
          obtain ⟨hn, a, p1, p2⟩ := each f (by simp)
          simp only [List.forIn_cons, Sem.run_bind, hn, ne_eq, not_false_eq_true, if_true, Result.andThen_ok, p1, p2, Sem.run_pure]
          exact ih2 (fun y hy => each y (by simp [hy]))
      · exact hd.elim
    | _ => simp [plain] at hd

theorem run_checkKey_val (hT : TabOk P C) {k : TypeId} {d : D} (hd : plain C k d) (em : Bool) (w : World) : (Instr.checkKey em 10000 k (valOf d)).run P w = .ok () w := by
  have hk : C.ty k ≠ .bad := by
    intro e
    cases d with
    | lit v => cases v <;> simp [plain, e] at hd
    | agg l => simp [plain, e] at hd
    | _ => simp [plain] at hd
  have := (hT k hk).depLt
  exact run_checkKey_all (ρ := ⟨fun _ _ => none, [], [], fun _ => False⟩) hT em 10000 k d _ w (by omega) hd (vv_flat (plain_flatD hd))

def D.isAgg : D → Bool
  | .agg _ => true
  | _ => false
/-- Does each cell of data compare? -/
theorem sameBits_lit {n : Nat} {t : TypeId} {v : Value} (h : plain C t (.lit v)) : Instr.sameBits n v v = true := by
  cases v <;> simp only [plain] at h <;> first | exact h.elim | skip
  · simp [Instr.sameBits]
  · simp [Instr.sameBits]
  · simp only [Instr.sameBits]; exact (bytes_beq _ _).2 rfl
theorem plain_leaf : ∀ (n : Nat) (d : D), SizeOf.sizeOf d < n → ∀ (t : TypeId), plain C t d → ∀ x ∈ leaves d, ∃ u, plain C u x
  | 0, _, h => absurd h (Nat.not_lt_zero _)
  | n + 1, .lit v, _ => fun t hp x hx => by simp only [leaves, List.mem_singleton] at hx; subst hx; exact ⟨t, hp⟩
  | n + 1, .agg l, hn => fun t hp => by
    have key : ∀ m : List D, SizeOf.sizeOf m ≤ SizeOf.sizeOf l → (∀ x ∈ m, ∃ u, plain C u x) → ∀ x ∈ leavesL m, ∃ u, plain C u x := by
      intro m
      induction m with
      | nil => intro _ _ x hx; simp [leavesL] at hx
      | cons d r ih =>
        intro hs hm x hx
        simp only [leavesL, List.mem_append] at hx
        simp only [List.cons.sizeOf_spec] at hs
        simp only [D.agg.sizeOf_spec] at hn
        rcases hx with hx | hx
        · obtain ⟨u, hu⟩ := hm d (by simp)
          exact plain_leaf n d (by omega) u hu x hx
        · exact ih (by omega) (fun y hy => hm y (by simp [hy])) x hx
    intro x hx
    simp only [leaves] at hx
    refine key l (Nat.le_refl _) (fun y hy => ?_) x hx
    obtain ⟨i, hi, rfl⟩ := List.getElem_of_mem hy
    obtain ⟨u, _, hu⟩ := kidTy_mem hp (List.getElem?_eq_getElem hi)
    exact ⟨u, hu⟩
  | n + 1, .lst _ _ _, _ => fun t hp => by simp [plain] at hp
  | n + 1, .ref _ _, _ => fun t hp => by simp [plain] at hp
  | n + 1, .ptr _ _, _ => fun t hp => by simp [plain] at hp
  | n + 1, .fn _ _, _ => fun t hp => by simp [plain] at hp
  | n + 1, .tup _, _ => fun t hp => by simp [plain] at hp
  | n + 1, .ifc _ _, _ => fun t hp => by simp [plain] at hp
  | n + 1, .mref _, _ => fun t hp => by simp [plain] at hp
  | n + 1, .mp _ _ _, _ => fun t hp => by simp [plain] at hp
  | n + 1, .it _ _ _, _ => fun t hp => by simp [plain] at hp
  | n + 1, .sl _ _ _ _ _, _ => fun t hp => by simp [plain] at hp
mutual
theorem leaf_of_leaves : ∀ (d x : D), x ∈ leaves d → x.isAgg = false
  | .agg l, x, h => by simp only [leaves] at h; exact leaf_of_leavesL l x h
  | .lit v, x, h => by simp only [leaves, List.mem_singleton] at h; subst h; rfl
  | .lst e l t, x, h => by simp only [leaves, List.mem_singleton] at h; subst h; rfl
  | .ref s d, x, h => by simp only [leaves, List.mem_singleton] at h; subst h; rfl
  | .ptr b p, x, h => by simp only [leaves, List.mem_singleton] at h; subst h; rfl
  | .fn f c, x, h => by simp only [leaves, List.mem_singleton] at h; subst h; rfl
  | .tup l, x, h => by simp only [leaves, List.mem_singleton] at h; subst h; rfl
  | .ifc t d, x, h => by simp only [leaves, List.mem_singleton] at h; subst h; rfl
  | .mref b, x, h => by simp only [leaves, List.mem_singleton] at h; subst h; rfl
  | .mp a b g, x, h => by simp only [leaves, List.mem_singleton] at h; subst h; rfl
  | .it m g s, x, h => by simp only [leaves, List.mem_singleton] at h; subst h; rfl
  | .sl e b lo m c, x, h => by simp only [leaves, List.mem_singleton] at h; subst h; rfl
theorem leaf_of_leavesL : ∀ (l : List D) (x : D), x ∈ leavesL l → x.isAgg = false
  | [], x, h => by simp [leavesL] at h
  | d :: r, x, h => by
    simp only [leavesL, List.mem_append] at h
    rcases h with h | h
    · exact leaf_of_leaves d x h
    · exact leaf_of_leavesL r x h
end
theorem zip_self_all {α : Type} (f : α → α → Bool) : ∀ l : List α, (∀ x ∈ l, f x x = true) → ((l.zip l).all fun p => f p.1 p.2) = true
  | [], _ => rfl
  | x :: r, h => by
    simp only [List.zip_cons_cons, List.all_cons, h x (by simp), Bool.true_and]
    exact zip_self_all f r fun y hy => h y (by simp [hy])
theorem run_stays {t : TypeId} {d : D} (h : plain C t d) (w : World) : (Instr.keyThatStays (valOf d) (valOf d)).run P w = .ok (valOf d) w := by
  have : Instr.sameBits 10000 (valOf d) (valOf d) = true := by
    cases d with
    | lit v => exact sameBits_lit h
    | agg l =>
      have hl := plain_leaf _ (.agg l) (Nat.lt_succ_self _) t h
      simp only [leaves] at hl
      simp only [valOf, Instr.sameBits, beq_self_eq_true, Bool.true_and]
      refine zip_self_all (fun x y => Instr.sameBits 9999 x y) _ fun x hx => ?_
      obtain ⟨y, hy, rfl⟩ := List.mem_map.1 hx
      obtain ⟨u, hu⟩ := hl y hy
      cases y with
      | lit v => exact sameBits_lit hu
      | agg m => exact absurd (leaf_of_leavesL l _ hy) (by simp [D.isAgg])
      | _ => simp [plain] at hu
    | _ => simp [plain] at h
  simp [Instr.keyThatStays, this]

theorem look_spec (hT : TabOk P C) {k : TypeId} {v : D} (hv : plain C k v) : ∀ (l : List MapEntry) (ks : List D) (i : Nat) (vs : List D), l.map (·.key) = ks.map valOf → (∀ x ∈ ks, plain C k x) → All2 (VV C.sh ρ) (l.map (·.val)) vs →
    (findV (valOf v) l i = none ∧ lookK ks vs v = none ∧ valOf v ∉ l.map (·.key) ∧ (∀ z, updK ks vs v z = none) ∧ delK ks vs v = none) ∨
    ∃ j x y, findV (valOf v) l i = some (i + j, x.val) ∧ l[j]? = some x ∧ x.key = valOf v ∧ lookK ks vs v = some y ∧ vs[j]? = some y ∧ VV C.sh ρ x.val y ∧
      (∀ z, updK ks vs v z = some (vs.set j z)) ∧ delK ks vs v = some (ks.eraseIdx j, vs.eraseIdx j)
  | [], ks, i, vs, hk, _, _ => by
    obtain rfl : ks = [] := by simpa using hk.symm
    exact .inl ⟨rfl, by cases vs <;> rfl, by simp, fun z => by cases vs <;> rfl, by cases vs <;> rfl⟩
  | x :: l, [], i, vs, hk, _, _ => by simp at hk
  | x :: l, q :: ks, i, vs, hk, h, ha => by
    cases vs with
    | nil => simp [All2] at ha
    | cons y vs =>
      obtain ⟨h1, h2⟩ := ha.head
      simp only [List.map_cons, List.cons.injEq] at hk
      have hiff : x.key = valOf v ↔ q = v := ⟨fun e => plain_inj hT (h q (by simp)) hv (by rw [← hk.1, e]), fun e => by rw [hk.1, e]⟩
      by_cases hq : q = v
      · have e : x.key = valOf v := hiff.2 hq
        exact .inr ⟨0, x, y, by simp [findV, e], rfl, e, by simp [lookK, hq], rfl, h1, fun z => by simp [updK, hq], by simp [delK, hq]⟩
      · have hne : x.key ≠ valOf v := fun e => hq (hiff.1 e)
        rcases look_spec hT hv l ks (i + 1) vs hk.2 (fun z hz => h z (by simp [hz])) h2 with ⟨k1, k2, k3, k7, k8⟩ | ⟨j, x', y', k1, k2, k3, k4, k5, k6, k7, k8⟩
        · exact .inl ⟨by simp [findV, hne, k1], by simp [lookK, hq, k2], by simp only [List.map_cons, List.mem_cons, not_or]; exact ⟨fun e => hne e.symm, k3⟩, fun z => by simp [updK, hq, k7], by simp [delK, hq, k8]⟩
        · exact .inr ⟨j + 1, x', y', by simp [findV, hne, k1]; omega, by simpa using k2, k3, by simp [lookK, hq, k4], by simpa using k5, k6, fun z => by simp [updK, hq, k7], by simp [delK, hq, k8]⟩

theorem did_lookup (hT : TabOk P C) (r : Real C.sh ρ h w) (he : ∀ x, VV C.sh ρ (a.eval x) (e x)) {t : TypeId} {x i : Operand} {ok : Bool} (ho : o.op = .lookup t x i ok) (hd : lookupD C h t ok (e x) (e i) = some d) : Did P C o a w ρ h d := by
  have hx := he x
  have hi := he i
  generalize e x = dx at hx hd
  generalize e i = di at hi hd
  unfold lookupD at hd
  split at hd
  case h_2 => cases hd
  rename_i kt et hty
  split at hd
  case isFalse => cases hd
  rename_i hk
  have ht : C.ty t ≠ .bad := by rw [hty]; simp
  have hf := (hT t ht).desc
  rw [hty] at hf
  obtain ⟨_, hu, hkb, heb⟩ := hf
  have hiv := flat_val hi (plain_flatD hk)
  obtain ⟨z, hz, hvz⟩ := (hT et heb).run_zeroValue w
  have pack : ∀ (y : Value) (yd : D) (b : Bool), VV C.sh ρ y yd → VV C.sh ρ (if ok then .tuple #[y, .bool b] else y) (packD ok yd b) := by
    intro y yd b hy
    cases ok with
    | false => exact hy
    | true => exact .tup (vs := [y, .bool b]) (l := [yd, .bool b]) rfl (All2.cons hy (All2.cons (.lit _) All2.nil)).2
  split at hd
  · cases hd
    refine Did.quiet r (v := if ok then .tuple #[z, .bool false] else z) ?_ (pack _ _ _ (.pure (hvz _)))
    rw [execOp, ho]
    have hfk : (Instr.findKey kt (valOf di) []).run P w = .ok none w := run_findKey_all hT hk w [] [] rfl (by simp)
    simp only [Instr.lookup, vv_lit hx, hiv, Sem.run_bind, run_underlying hu, Sem.run_pure, Result.andThen_ok, run_checkKey_val hT hk, hfk, hz]
  · rename_i b
    obtain ⟨B, hv, hbox⟩ := vv_mref hx
    split at hd
    case h_2 => cases hd
    rename_i ks vs g hbx
    split at hd
    case isFalse => cases hd
    rename_i hks
    obtain ⟨es, clock, k1, k2, k3, _, k4⟩ := real_map r hbox hbx
    have hfk := run_findKey_all hT hk w es.toList ks k3 hks
    rcases look_spec hT hk es.toList ks 0 vs k3 hks k4 with ⟨j1, j2, _⟩ | ⟨j, x', y, j1, _, _, j4, _, j6, _⟩
    · rw [j2] at hd
      cases hd
      rw [j1] at hfk
      refine Did.quiet r (v := if ok then .tuple #[z, .bool false] else z) ?_ (pack _ _ _ (.pure (hvz _)))
      rw [execOp, ho]
      simp only [Instr.lookup, hv, hiv, Sem.run_bind, run_underlying hu, MapKept.run_getObj_map k1, Sem.run_pure, Result.andThen_ok, run_checkKey_val hT hk, hfk, hz]
    · rw [j4] at hd
      cases hd
      rw [j1] at hfk
      refine Did.quiet r (v := if ok then .tuple #[x'.val, .bool true] else x'.val) ?_ (pack _ _ _ j6)
      rw [execOp, ho]
      simp only [Instr.lookup, hv, hiv, Sem.run_bind, run_underlying hu, MapKept.run_getObj_map k1, Sem.run_pure, Result.andThen_ok, run_checkKey_val hT hk, hfk]
  · cases hd

theorem count_push {es : Array MapEntry} {clock g : Nat} (h : Count es clock g) (key val : Value) : Count (es.push { key, val, born := clock }) (clock + 1) (g + 1) := by
  obtain ⟨rfl, h2, h3⟩ := h
  refine ⟨rfl, by simp; omega, fun h4 i x hx => ?_⟩
  have hs : es.size = clock := by simp at h4; omega
  rw [Array.getElem?_push] at hx
  split at hx
  · cases hx; simp; omega
  · exact h3 hs i x hx
theorem count_modify {es : Array MapEntry} {clock g : Nat} (h : Count es clock g) (j : Nat) (f : MapEntry → MapEntry) (hf : ∀ x, (f x).born = x.born) : Count (es.modify j f) clock g := by
  obtain ⟨rfl, h2, h3⟩ := h
  refine ⟨rfl, by simpa using h2, fun h4 i x hx => ?_⟩
  rw [Array.getElem?_modify] at hx
  have hs : es.size = clock := by simpa using h4
  split at hx
  · rw [Option.map_eq_some_iff] at hx
    obtain ⟨y, hy, rfl⟩ := hx
    rw [hf]; exact h3 hs i y hy
  · exact h3 hs i x hx
theorem count_erase {es : Array MapEntry} {clock g : Nat} (h : Count es clock g) {j : Nat} (hj : j < es.size) : Count (es.eraseIdxIfInBounds j) clock g := by
  obtain ⟨rfl, h2, h3⟩ := h
  have hs : (es.eraseIdxIfInBounds j).size = es.size - 1 := by simp [Array.eraseIdxIfInBounds, hj]
  exact ⟨rfl, by rw [hs]; omega, fun h4 => by rw [hs] at h4; omega⟩
/-- A map's block is written. -/
theorem map_set (r : Real C.sh ρ h w) {b B : Nat} {ks : List D} {vs : List D} {g : Nat} {es : Array MapEntry} {clock : Nat} (hbox : ρ.box[b]? = some (B, .obj 1)) (hbx : h.boxes[b]? = some (.obj 1, .mp ks vs g)) (hw : w.heap[B]? = some (.map es clock))
    (es' : Array MapEntry) (clock' : Nat) (ks' : List D) (hks' : es'.toList.map (·.key) = ks'.map valOf) (hfl : ∀ k ∈ ks', flatD k) (vs' : List D) (g' : Nat) (hst : Stamped es' clock') (hv : All2 (VV C.sh ρ) (es'.toList.map (·.val)) vs')
    (hg : g' = g → clock' = clock ∧ (∀ k ∈ ks', k ∈ ks) ∧ ∀ x ∈ es'.toList, ∃ y ∈ es.toList, y.born = x.born ∧ y.key = x.key) (hgg : g ≤ g') (hct : Count es' clock' g') :
    Ext ρ w ρ { w with heap := w.heap.setIfInBounds B (.map es' clock') } ∧
      Real C.sh ρ { h with boxes := h.boxes.set b (.obj 1, .mp ks' vs' g') } { w with heap := w.heap.setIfInBounds B (.map es' clock') } := by
  obtain ⟨q1, q2⟩ := heap_set (w := w) (o' := .map es' clock') hw
  have hblt : b < h.boxes.length := (List.getElem?_eq_some_iff.1 hbx).1
  refine ⟨box_ext r hbox rfl rfl rfl (by simp) q2, block_set r hbox hbx (by simp) (fun _ => ⟨rfl, show D.isLeaf _ = true from rfl⟩) _ (fun _ => ?_) ?_ (by simp) q2⟩
  · exact ⟨ks', vs', g', es', clock', rfl, q1, ⟨hst, hct⟩, hks', hfl, hv⟩
  · intro _ b' B' x hb' hx hit
    obtain ⟨m, g0, seen, Bm, since, sn, c0, rfl, k2, k3, k5, k4⟩ := hit
    have hne : B' ≠ B := by
      rintro rfl
      have := r.inj b b' B' _ _ hbox hb'
      subst this
      rw [hbox] at hb'; cases hb'
    refine ⟨m, g0, seen, Bm, since, sn, c0, rfl, by rw [q2 B' hne]; exact k2, k3, ?_, ?_⟩
    · intro ks1 vs1 g1 j1
      by_cases hmb : m = b
      · subst hmb
        simp only at j1
        rw [List.getElem?_set_self hblt] at j1
        cases j1
        exact Nat.le_trans (k5 _ _ _ hbx) hgg
      · simp only at j1
        rw [List.getElem?_set_ne (fun e => hmb e.symm)] at j1
        exact k5 _ _ _ j1
    intro ks1 vs1 es1 clock1 j1 j2
    by_cases hmb : m = b
    · subst hmb
      rw [hbox] at k3; cases k3
      simp only at j1
      rw [List.getElem?_set_self hblt] at j1
      cases j1
      rw [q1] at j2; cases j2
      have hle := k5 _ _ _ hbx
      have hgeq : g = g' := by omega
      subst hgeq
      obtain ⟨c1, c3, c2⟩ := hg rfl
      obtain ⟨d1, d2, d4, d3⟩ := k4 ks vs es clock hbx hw
      refine ⟨by rw [c1]; exact d1, by rw [c1]; exact d2, fun s hs k hk => d4 s hs k (c3 k hk), fun x hx => ?_⟩
      obtain ⟨y, hy, e1, e2⟩ := c2 x hx
      rw [← e1, ← e2]; exact d3 y hy
    · simp only at j1
      rw [List.getElem?_set_ne (fun e => hmb e.symm)] at j1
      have hBm : Bm ≠ B := fun e => hmb (r.inj m b B _ _ (e ▸ k3) hbox)
      rw [q2 Bm hBm] at j2
      exact k4 ks1 vs1 es1 clock1 j1 j2

theorem did_mapUpdate (hT : TabOk P C) (r : Real C.sh ρ h w) (he : ∀ x, VV C.sh ρ (a.eval x) (e x)) {t : TypeId} {x i y : Operand} (ho : o.op = .mapUpdate t x i y)
    (hd : mapD C h t (e x) fun u b ks vs g => (match C.ty t with | .map k _ => keyOk C k (e i) | _ => False) ∧ h' = { h with boxes := h.boxes.set b (.obj 1, updD ks vs g (e i) (nrm C u (e y))) }) : Did P C o a w ρ h' (.lit undef) := by
  have hx := he x
  have hi := he i
  generalize e x = dx at hx hd
  generalize e i = di at hi hd
  unfold mapD at hd
  split at hd
  case h_2 => exact hd.elim
  rename_i kt et b hty
  split at hd
  case h_2 => exact hd.elim
  rename_i ks vs g hbx
  obtain ⟨hks, hk, rfl⟩ := hd
  rw [hty] at hk
  simp only at hk
  have ht : C.ty t ≠ .bad := by rw [hty]; simp
  have hf := (hT t ht).desc
  rw [hty] at hf
  obtain ⟨_, hu, hkb, heb⟩ := hf
  have hiv := flat_val hi (plain_flatD hk)
  obtain ⟨B, hv, hbox⟩ := vv_mref hx
  obtain ⟨es, clock, k1, k2, k3, kf, k4⟩ := real_map r hbox hbx
  have hfk := run_findKey_all hT hk w es.toList ks k3 hks
  have hy := vv_nrm (t := et) (he y)
  rcases look_spec hT hk es.toList ks 0 vs k3 hks k4 with ⟨j1, j2, j3, j4, _⟩ | ⟨j, x', y', j1, j2, j3, _, j5, _, j7, _⟩
  · rw [j1] at hfk
    obtain ⟨m1, m2⟩ := map_set r hbox hbx k1 (es.push { key := valOf di, val := a.eval y, born := clock }) (clock + 1) (ks ++ [di]) (by simp [k3]) (by
      intro k hk'
      rcases List.mem_append.1 hk' with h1 | h1
      · exact kf k h1
      · rw [List.mem_singleton] at h1; rw [h1]; exact plain_flatD hk) (vs ++ [nrm C et (e y)]) (g + 1) (stamped_push k2 (fun x hx he => j3 (List.mem_map.2 ⟨x, hx, he⟩)))
      (by simp only [Array.toList_push, List.map_append, List.map_cons, List.map_nil]; exact k4.append (All2.cons hy All2.nil)) (by omega) (by omega) (count_push (real_count r hbox hbx k1) _ _)
    refine ⟨undef, ρ, _, .inr ⟨?_, rfl⟩, m1, ?_, .lit _⟩
    · rw [execOp, ho]
      simp only [Instr.mapUpdate, hv, hiv, Sem.run_bind, run_underlying hu, MapKept.run_getObj_map k1, Result.andThen_ok, run_checkKey_val hT hk, hfk, run_setObj_map _ k1, Sem.run_pure]
    · have : updD ks vs g di (nrm C et (e y)) = .mp (ks ++ [di]) (vs ++ [nrm C et (e y)]) (g + 1) := by
        simp [updD, j4]
      rw [this]; exact m2
  · rw [j1] at hfk
    have hj : es[j]? = some x' := by simpa using j2
    have hlt : j < es.size := (Array.getElem?_eq_some_iff.1 hj).1
    have hkeys : (es.modify j fun q => { q with key := valOf di, val := a.eval y }).toList.map (·.key) = es.toList.map (·.key) := modify_keys j _ fun q hq => by rw [hj] at hq; cases hq; exact j3.symm
    have hvals : (es.modify j fun q => { q with key := valOf di, val := a.eval y }).toList.map (·.val) = (es.toList.map (·.val)).set j (a.eval y) := by
      apply List.ext_getElem?
      intro i
      simp only [List.getElem?_map, Array.getElem?_toList, Array.getElem?_modify, List.getElem?_set, List.length_map, Array.length_toList]
      by_cases hij : j = i
      · subst hij; simp [hlt]
      · simp [hij]
    have hborn : ∀ x ∈ (es.modify j fun q => { q with key := valOf di, val := a.eval y }).toList, ∃ z ∈ es.toList, z.born = x.born ∧ z.key = x.key := by
      intro x hx
      obtain ⟨i, hi, rfl⟩ := List.getElem_of_mem hx
      have h1 : (es.modify j fun q => { q with key := valOf di, val := a.eval y })[i]? = some (es.modify j fun q => { q with key := valOf di, val := a.eval y }).toList[i] := by
        rw [← Array.getElem?_toList]; exact List.getElem?_eq_getElem hi
      rw [Array.getElem?_modify] at h1
      by_cases hij : j = i
      · subst hij
        rw [if_pos rfl, hj] at h1
        simp only [Option.map_some, Option.some.injEq] at h1
        refine ⟨x', by simpa using Array.mem_of_getElem? hj, ?_, ?_⟩ <;> rw [← h1]
        exact j3
      · rw [if_neg hij] at h1
        exact ⟨_, by simpa using Array.mem_of_getElem? h1, rfl, rfl⟩
    obtain ⟨m1, m2⟩ := map_set r hbox hbx k1 (es.modify j fun q => { q with key := valOf di, val := a.eval y }) clock ks (hkeys.trans k3) kf (vs.set j (nrm C et (e y))) g (stamped_modify k2 j _ (fun _ _ => rfl) (fun q _ hq => by rw [hj] at hq; cases hq; exact j3.symm))
      (by rw [hvals]; exact k4.set j hy) (fun _ => ⟨rfl, fun _ h => h, hborn⟩) (by omega) (count_modify (real_count r hbox hbx k1) _ _ fun _ => rfl)
    refine ⟨undef, ρ, _, .inr ⟨?_, rfl⟩, m1, ?_, .lit _⟩
    · rw [execOp, ho]
      simp only [Instr.mapUpdate, hv, hiv, Sem.run_bind, run_underlying hu, MapKept.run_getObj_map k1, Result.andThen_ok, run_checkKey_val hT hk, hfk, Nat.zero_add, hj, Option.map_some, Option.getD_some, j3, run_stays hk, run_setObj_map _ k1, Sem.run_pure]
    · have : updD ks vs g di (nrm C et (e y)) = .mp ks (vs.set j (nrm C et (e y))) g := by
        simp only [updD, j7]
      rw [this]; exact m2

theorem did_insert (hT : TabOk P C) (r : Real C.sh ρ h w) (he : ∀ x, VV C.sh ρ (a.eval x) (e x)) {t : TypeId} {x i y : Operand} (ho : o.op = .insert t x i y)
    (hd : mapD C h t (e x) fun u b ks vs g => (match C.ty t with | .map k _ => keyOk C k (e i) | _ => False) ∧ h' = { h with boxes := h.boxes.set b (.obj 1, updD ks vs g (e i) (nrm C u (e y))) }) : Did P C o a w ρ h' (.lit undef) := by
  have h1 := did_mapUpdate (o := { o with op := .mapUpdate t x i y }) hT r he rfl hd
  have h2 : execOp a.eval { o with op := .mapUpdate t x i y } = execOp a.eval o := by
    simp only [execOp, ho]
  simpa only [Did, h2] using h1
theorem did_delete (hT : TabOk P C) (r : Real C.sh ρ h w) (he : ∀ x, VV C.sh ρ (a.eval x) (e x)) {t t' : TypeId} {x i : Operand} {c : Call} (ho : o.op = .call c) (hcb : c.callee = .builtin .delete) (hts : c.argTypes = #[t, t']) (has : c.args = #[x, i])
    (hd : mapD C h t (e x) fun _ b ks vs g => (match C.ty t with | .map k _ => keyOk C k (e i) | _ => False) ∧ h' = { h with boxes := h.boxes.set b (.obj 1, deleteD ks vs g (e i)) }) : Did P C o a w ρ h' (.tup []) := by
  have hx := he x
  have hi := he i
  generalize e x = dx at hx hd
  generalize e i = di at hi hd
  unfold mapD at hd
  split at hd
  case h_2 => exact hd.elim
  rename_i kt et b hty
  split at hd
  case h_2 => exact hd.elim
  rename_i ks vs g hbx
  obtain ⟨hks, hk, rfl⟩ := hd
  rw [hty] at hk
  simp only at hk
  have ht : C.ty t ≠ .bad := by rw [hty]; simp
  have hf := (hT t ht).desc
  rw [hty] at hf
  obtain ⟨_, hu, hkb, heb⟩ := hf
  have hiv := flat_val hi (plain_flatD hk)
  obtain ⟨B, hv, hbox⟩ := vv_mref hx
  obtain ⟨es, clock, k1, k2, k3, kf, k4⟩ := real_map r hbox hbx
  have hfk := run_findKey_all hT hk w es.toList ks k3 hks
  have fin : ∀ w', (Builtin.delete_ #[t, t'] o.type #[a.eval x, a.eval i]).run P w = .ok (.tuple #[]) w' → (execOp a.eval o).run P w = .ok (.value (.tuple #[])) w' := by
    intro w' hr
    rw [execOp, ho]
    simp only [resolve, hcb, hts, has, Sem.run_bind, Sem.run_pure, Result.andThen_ok, invoke, builtin, List.map_toArray, List.map_cons, List.map_nil, hr]
  have htup : VV C.sh ρ (.tuple #[]) (.tup []) := .tup (vs := []) (l := []) rfl (by simp)
  rcases look_spec hT hk es.toList ks 0 vs k3 hks k4 with ⟨j1, j2, j3, _, j4⟩ | ⟨j, x', y', j1, j2, j3, _, j5, _, _, j7⟩
  · rw [j1] at hfk
    obtain ⟨m1, m2⟩ := map_set r hbox hbx k1 es clock ks k3 kf vs g k2 k4 (fun _ => ⟨rfl, fun _ h => h, fun x hx => ⟨x, hx, rfl, rfl⟩⟩) (by omega) (real_count r hbox hbx k1)
    refine ⟨.tuple #[], ρ, _, .inl (fin _ ?_), m1, ?_, htup⟩
    · simp [Builtin.delete_, hv, hiv, run_underlying hu, MapKept.run_getObj_map k1, run_checkKey_val hT hk, hfk, run_setObj_map _ k1]
    · have : deleteD ks vs g di = .mp ks vs g := by simp only [deleteD, j4]
      rw [this]; exact m2
  · rw [j1] at hfk
    have hj : es[j]? = some x' := by simpa using j2
    have hlt : j < es.size := (Array.getElem?_eq_some_iff.1 hj).1
    have hlist : (es.eraseIdxIfInBounds j).toList = es.toList.eraseIdx j := by simp [Array.eraseIdxIfInBounds, hlt]
    have hmapE : ∀ {α β : Type} (f : α → β) (l : List α), (l.eraseIdx j).map f = (l.map f).eraseIdx j := by
      intro α β f l
      apply List.ext_getElem?
      intro i
      simp only [List.getElem?_map, List.getElem?_eraseIdx]
      split <;> rfl
    have hve : All2 (VV C.sh ρ) ((es.toList.map (·.val)).eraseIdx j) (vs.eraseIdx j) := by
      refine ⟨by simp only [List.length_eraseIdx, k4.1], fun i c y hc hy => ?_⟩
      rw [List.getElem?_eraseIdx] at hc hy
      split at hc
      · rename_i hij; rw [if_pos hij] at hy; exact k4.2 i c y hc hy
      · rename_i hij; rw [if_neg hij] at hy; exact k4.2 _ c y hc hy
    obtain ⟨m1, m2⟩ := map_set r hbox hbx k1 (es.eraseIdxIfInBounds j) clock (ks.eraseIdx j) (by rw [hlist, hmapE, hmapE, k3]) (fun k hk' => kf k (List.mem_of_mem_eraseIdx hk')) (vs.eraseIdx j) g (stamped_erase k2 j) (by rw [hlist, hmapE]; exact hve)
      (fun _ => ⟨rfl, fun k hk' => List.mem_of_mem_eraseIdx hk', fun x hx => ⟨x, by rw [hlist] at hx; exact List.mem_of_mem_eraseIdx hx, rfl, rfl⟩⟩) (by omega) (count_erase (real_count r hbox hbx k1) hlt)
    refine ⟨.tuple #[], ρ, _, .inl (fin _ ?_), m1, ?_, htup⟩
    · simp [Builtin.delete_, hv, hiv, run_underlying hu, MapKept.run_getObj_map k1, run_checkKey_val hT hk, hfk, run_setObj_map _ k1]
    · have : deleteD ks vs g di = .mp (ks.eraseIdx j) (vs.eraseIdx j) g := by simp only [deleteD, j7]
      rw [this]; exact m2

theorem var_box (r : Real C.sh ρ h w) (B : Nat) (sh : Sh) : (ρ.var B sh).box[h.boxes.length]? = some (B, sh) := by
  simp [Env.var, r.lenB]

theorem did_makeMap (r : Real C.sh ρ h w) (he : ∀ x, VV C.sh ρ (a.eval x) (e x)) (hT : TabOk P C) {t : TypeId} {n : Option Operand} (ho : o.op = .makeMap t n)
    (ht : match C.ty t with | .map _ _ => True | _ => False) (hn : ∀ x, n = some x → ∃ q i, e x = .lit (.int q i)) : Did P C o a w ρ (h.var (.obj 1) (.mp [] [] 0)) (.mref h.boxes.length) := by
  refine ⟨.map (some w.heap.size), ρ.var w.heap.size (.obj 1), w.alloc (.map #[] 0), .inl ?_, var_ext _ _ _ _, new_real r _ rfl ?_, .mref (var_box r _ _)⟩
  · rw [execOp, ho]
    cases hty : C.ty t with
    | map k e' =>
      have hf := (hT t (by rw [hty]; simp)).desc
      rw [hty] at hf
      cases n with
      | none => simp [Instr.makeMap, newObj, Sem.run]
      | some x =>
        obtain ⟨q, i, hx⟩ := hn x rfl
        have h1 := he x
        rw [hx] at h1
        have h2 := vv_lit h1
        simp [Instr.makeMap, run_underlying hf.2.1, h2, asInt, asIntOf]
    | _ => rw [hty] at ht; exact ht.elim
  · exact ⟨[], [], 0, #[], 0, rfl, heap_alloc_new w _, ⟨stamped_empty 0, rfl, by simp, by simp⟩, rfl, by simp, All2.nil⟩

theorem did_range (hT : TabOk P C) (r : Real C.sh ρ h w) (he : ∀ x, VV C.sh ρ (a.eval x) (e x)) {t : TypeId} {x : Operand} (ho : o.op = .range t x)
    (hd : mapD C h t (e x) fun _ b _ _ g => d = .ptr h.boxes.length [] ∧ h' = h.var (.obj 2) (.it b g [])) : Did P C o a w ρ h' d := by
  have hx := he x
  generalize e x = dx at hx hd
  unfold mapD at hd
  split at hd
  case h_2 => exact hd.elim
  rename_i kt et b hty
  split at hd
  case h_2 => exact hd.elim
  rename_i ks vs g hbx
  obtain ⟨hks, rfl, rfl⟩ := hd
  have ht : C.ty t ≠ .bad := by rw [hty]; simp
  have hf := (hT t ht).desc
  rw [hty] at hf
  obtain ⟨_, hu, hkb, heb⟩ := hf
  obtain ⟨B, hv, hbox⟩ := vv_mref hx
  obtain ⟨es, clock, k1, k2, k3, _, k4⟩ := real_map r hbox hbx
  have hB : B < w.heap.size := (Array.getElem?_eq_some_iff.1 k1).1
  have hb : b < h.boxes.length := (List.getElem?_eq_some_iff.1 hbx).1
  have hold : (w.alloc (.mapIter (some B) clock #[] clock)).heap[B]? = w.heap[B]? := heap_alloc_old w _ _ hB
  have hbx2 : (h.var (.obj 2) (.it b g [])).boxes[b]? = h.boxes[b]? := by
    simp only [Heap.var]; rw [List.getElem?_append_left hb]
  refine ⟨.pointer (some ⟨w.heap.size, 0, none⟩), ρ.var w.heap.size (.obj 2), w.alloc (.mapIter (some B) clock #[] clock), .inl ?_, var_ext _ _ _ _, new_real r _ rfl ?_, ?_⟩
  · rw [execOp, ho]
    simp [Instr.range, run_underlying hu, hv, MapKept.run_getObj_map k1]
  · refine ⟨b, g, [], B, clock, #[], clock, rfl, heap_alloc_new w _, (var_le ρ _ _).box _ _ hbox, ?_, ?_⟩
    · intro ks1 vs1 g1 j1
      rw [hbx2, hbx] at j1; cases j1; exact Nat.le_refl _
    · intro ks1 vs1 es1 clock1 j1 j2
      rw [hold, k1] at j2; cases j2
      exact ⟨rfl, rfl, by simp, fun x hx => ⟨by simp, by simp⟩⟩
  · exact .ptr (p := []) (s := .obj 2) (var_box r _ _) rfl

theorem find_born (e : MapEntry) : ∀ (l : List MapEntry), (l.map (·.born)).Nodup → e ∈ l → l.find? (·.born == e.born) = some e
  | x :: l, hn, he => by
    have hn' : x.born ∉ l.map (·.born) ∧ (l.map (·.born)).Nodup := List.nodup_cons.1 hn
    rcases List.mem_cons.1 he with rfl | h
    · simp
    · have hx : (x.born == e.born) = false := by
        cases hc : x.born == e.born with
        | false => rfl
        | true => exact absurd (List.mem_map.2 ⟨e, h, (beq_iff_eq.1 hc).symm⟩) hn'.1
      rw [List.find?_cons, hx]
      exact find_born e l hn'.2 h

theorem born_inj {l : List MapEntry} (hn : (l.map (·.born)).Nodup) {x y : MapEntry} (hx : x ∈ l) (hy : y ∈ l) (e : x.born = y.born) : x = y := by
  have h1 := find_born x l hn hx
  rw [e, find_born y l hn hy] at h1
  exact (Option.some.inj h1).symm
theorem key_inj : ∀ {l : List MapEntry}, (l.map (·.key)).Nodup → ∀ {x y : MapEntry}, x ∈ l → y ∈ l → x.key = y.key → x = y
  | z :: l, hn, x, y, hx, hy, e => by
    have hn' : z.key ∉ l.map (·.key) ∧ (l.map (·.key)).Nodup := List.nodup_cons.1 hn
    rcases List.mem_cons.1 hx with rfl | hx <;> rcases List.mem_cons.1 hy with rfl | hy
    · rfl
    · exact absurd (List.mem_map.2 ⟨y, hy, e.symm⟩) hn'.1
    · exact absurd (List.mem_map.2 ⟨x, by assumption, e⟩) hn'.1
    · exact key_inj hn'.2 hx hy e

/-- An iterator, and what it goes through. -/
theorem iter_parts (r : Real C.sh ρ h w) {i m g : Nat} {seen : List D} {v : Value} {ks : List D} {vs : List D} (hx : VV C.sh ρ v (.ptr i [])) (hi : h.boxes[i]? = some (.obj 2, .it m g seen)) (hm : h.boxes[m]? = some (.obj 1, .mp ks vs g)) :
    ∃ I B es clock sn, v = .pointer (some ⟨I, 0, none⟩) ∧ ρ.box[i]? = some (I, .obj 2) ∧ ρ.box[m]? = some (B, .obj 1) ∧ w.heap[I]? = some (.mapIter (some B) clock sn clock) ∧ w.heap[B]? = some (.map es clock) ∧ Stamped es clock ∧ es.toList.map (·.key) = ks.map valOf ∧ (∀ k ∈ ks, flatD k) ∧
      All2 (VV C.sh ρ) (es.toList.map (·.val)) vs ∧ (∀ s ∈ seen, ∀ k ∈ ks, valOf s = valOf k → s = k) ∧ (∀ x ∈ es.toList, (x.born ∈ sn.toList ↔ x.key ∈ seen.map valOf) ∧ (sn.back? = some x.born ↔ (seen.map valOf).getLast? = some x.key)) := by
  obtain ⟨I, sh, s, hv, hbox, hs⟩ := vv_ptr hx
  obtain ⟨e1, _, _, k⟩ := r.box i I sh _ _ hbox hi (by simp)
  subst e1
  obtain ⟨m', g', seen', B, since, sn, c0, q1, q2, q3, _, q4⟩ := k
  cases q1
  obtain ⟨es, clock, k1, k2, k3, kf, k4⟩ := real_map r q3 hm
  obtain ⟨rfl, rfl, q6, q5⟩ := q4 ks vs es clock hm k1
  exact ⟨I, B, es, _, sn, hv, hbox, q3, q2, k1, k2, k3, kf, k4, q6, q5⟩

theorem did_entry (r : Real C.sh ρ h w) (he : ∀ x, VV C.sh ρ (a.eval x) (e x)) {x : Operand} (ho : o.op = .entry x) (hd : entryD h (e x) = some d) : Did P C o a w ρ h d := by
  have hx := he x
  generalize e x = dx at hx hd
  unfold entryD at hd
  split at hd
  case h_2 => cases hd
  rename_i i
  split at hd
  case h_2 => cases hd
  rename_i m g seen hi
  split at hd
  case h_2 => cases hd
  rename_i ks vs g' hm
  split at hd
  case isFalse => cases hd
  rename_i hg
  subst hg
  obtain ⟨I, B, es, clock, sn, hv, hbI, hbB, hI, hB, hst, hkk, hfl, hvals, hinj, hrel⟩ := iter_parts r hx hi hm
  simp only [Option.bind_eq_some_iff, Option.map_eq_some_iff] at hd
  obtain ⟨k, hk, y, hy, rfl⟩ := hd
  -- the entry of that key
  have key : ∀ (l : List MapEntry) (ks : List D) (vs : List D), l.map (·.key) = ks.map valOf → All2 (VV C.sh ρ) (l.map (·.val)) vs → lookK ks vs k = some y → k ∈ ks ∧ ∃ z ∈ l, z.key = valOf k ∧ VV C.sh ρ z.val y := by
    intro l
    induction l with
    | nil => intro ks vs hk _ h; obtain rfl : ks = [] := by simpa using hk.symm
             cases vs <;> simp [lookK] at h
    | cons z l ih =>
      intro ks vs hk ha hl
      cases ks with
      | nil => simp at hk
      | cons q ks =>
        simp only [List.map_cons, List.cons.injEq] at hk
        cases vs with
        | nil => simp [All2] at ha
        | cons v vs =>
          obtain ⟨h1, h2⟩ := ha.head
          simp only [lookK] at hl
          split at hl
          · rename_i hz; cases hl; exact ⟨by simp [hz], z, by simp, by rw [hk.1, hz], h1⟩
          · obtain ⟨h5, z', h3, h4⟩ := ih ks vs hk.2 h2 hl
            exact ⟨by simp [h5], z', by simp [h3], h4⟩
  obtain ⟨hkm, z, hz, hzk, hzv⟩ := key _ _ _ hkk hvals hy
  have hback : sn.back? = some z.born := (hrel z hz).2.2 (by rw [hzk, List.getLast?_map, hk]; rfl)
  have hfind : es.find? (·.born == z.born) = some z := by
    rw [← Array.find?_toList]; exact find_born z es.toList hst.2.1 hz
  refine Did.quiet r (v := .tuple #[z.key, z.val]) ?_ (.tup (vs := [z.key, z.val]) (l := [k, y]) rfl (All2.cons (by rw [hzk]; exact vv_flat (hfl k hkm)) (All2.cons hzv All2.nil)).2)
  rw [execOp, ho]
  simp only [Instr.entry, hv, getObj, Sem.run_bind, Sem.run, hI, hB, Result.andThen, hback, bne_self_eq_false, Bool.false_eq_true, if_false, hfind]
  rfl

/-- What an iterator's step comes to: one of some. -/
def DidN (P : Program) (C : Tab) (o : Oper) (a : Act) (w : World) (ρ : Env) (R : D → Heap → Prop) : Prop := ∃ d h', R d h' ∧ Did P C o a w ρ h' d

theorem set_sameH {h : Heap} {b : Nat} {x : Sh × D} (hx : h.boxes[b]? = some x) : { h with boxes := h.boxes.set b x } = h := by
  have : h.boxes.set b x = h.boxes := by
    apply List.ext_getElem?
    intro j
    rw [List.getElem?_set]
    split
    · rename_i e; subst e
      rw [if_pos (List.getElem?_eq_some_iff.1 hx).1, hx]
    · rfl
  rw [this]
/-- An entry is looked for; where there is none, one is made. -/
theorem did_mapEntry (hT : TabOk P C) (r : Real C.sh ρ h w) (he : ∀ x, VV C.sh ρ (a.eval x) (e x)) {t : TypeId} {x i : Operand} {R : D → Heap → Prop} (ho : o.op = .mapEntry t x i)
    (hd : mapD C h t (e x) fun u b ks vs g => (match C.ty t with | .map k _ => keyOk C k (e i) | _ => False) ∧ ks.length = g ∧
      (∀ (j : Nat) (y : D), ks[j]? = some (e i) → vs[j]? = some y → R (.tup [y, .int j]) h) ∧
      (e i ∉ ks → R (.tup [C.zero u, .int g]) { h with boxes := h.boxes.set b (.obj 1, .mp (ks ++ [e i]) (vs ++ [C.zero u]) (g + 1)) })) : DidN P C o a w ρ R := by
  have hx := he x
  have hi := he i
  generalize e x = dx at hx hd
  generalize e i = di at hi hd
  unfold mapD at hd
  split at hd
  case h_2 => exact hd.elim
  rename_i kt et b hty
  split at hd
  case h_2 => exact hd.elim
  rename_i ks vs g hbx
  obtain ⟨hks, hk, hlen, hR1, hR2⟩ := hd
  rw [hty] at hk
  simp only at hk
  have ht : C.ty t ≠ .bad := by rw [hty]; simp
  have hf := (hT t ht).desc
  rw [hty] at hf
  obtain ⟨_, hu, hkb, heb⟩ := hf
  have hiv := flat_val hi (plain_flatD hk)
  obtain ⟨B, hv, hbox⟩ := vv_mref hx
  obtain ⟨es, clock, k1, k2, k3, kf, k4⟩ := real_map r hbox hbx
  have hct := real_count r hbox hbx k1
  have hes : es.size = ks.length := by have := congrArg List.length k3; simpa using this
  have hfk := run_findKey_all hT hk w es.toList ks k3 hks
  obtain ⟨z, hz, hvz⟩ := (hT et heb).run_zeroValue w
  rcases look_spec hT hk es.toList ks 0 vs k3 hks k4 with ⟨j1, j2, j3, j4, _⟩ | ⟨j, x', y', j1, j2, j3, _, j5, j6, j7, _⟩
  · rw [j1] at hfk
    have hni : di ∉ ks := fun hm => j3 (by rw [k3]; exact List.mem_map_of_mem hm)
    obtain ⟨m1, m2⟩ := map_set r hbox hbx k1 (es.push { key := valOf di, val := z, born := clock }) (clock + 1) (ks ++ [di]) (by simp [k3]) (by
      intro k hk'
      rcases List.mem_append.1 hk' with h1 | h1
      · exact kf k h1
      · rw [List.mem_singleton] at h1; rw [h1]; exact plain_flatD hk) (vs ++ [C.zero et]) (g + 1) (stamped_push k2 (fun x hx he => j3 (List.mem_map.2 ⟨x, hx, he⟩)))
      (by simp only [Array.toList_push, List.map_append, List.map_cons, List.map_nil]; exact k4.append (All2.cons (.pure (hvz _)) All2.nil)) (by omega) (by omega) (count_push hct _ _)
    refine ⟨_, _, hR2 hni, .tuple #[z, .int .i64 g], ρ, _, .inl ?_, m1, m2, .tup (vs := [z, .int .i64 g]) (l := [C.zero et, .int g]) rfl (All2.cons (.pure (hvz _)) (All2.cons (.lit _) All2.nil)).2⟩
    rw [execOp, ho]
    simp only [Instr.mapEntry, hv, hiv, Sem.run_bind, run_underlying hu, MapKept.run_getObj_map k1, Result.andThen_ok, run_checkKey_val hT hk, hfk, hz, run_setObj_map _ k1, Sem.run_pure, goInt, hct.1]
  · rw [j1] at hfk
    have hj : es[j]? = some x' := by simpa using j2
    have hlt : j < es.size := (Array.getElem?_eq_some_iff.1 hj).1
    have hkj : ks[j]? = some di := by
      have h1 : (es.toList.map (·.key))[j]? = some (valOf di) := by rw [List.getElem?_map, j2, Option.map_some, j3]
      rw [k3, List.getElem?_map, Option.map_eq_some_iff] at h1
      obtain ⟨q, hq, hq2⟩ := h1
      have := plain_inj hT (hks q (List.mem_of_getElem? hq)) hk hq2
      rw [hq, this]
    have hborn : x'.born = j := hct.2.2 (by omega) j x' hj
    have hkeys : (es.modify j fun q => { q with key := valOf di }).toList.map (·.key) = es.toList.map (·.key) := modify_keys j _ fun q hq => by rw [hj] at hq; cases hq; exact j3.symm
    have hvals : (es.modify j fun q => { q with key := valOf di }).toList.map (·.val) = es.toList.map (·.val) := by
      apply List.ext_getElem?
      intro i
      simp only [List.getElem?_map, Array.getElem?_toList, Array.getElem?_modify]
      by_cases hij : j = i
      · subst hij; simp [hlt]
      · simp [hij]
    have hb2 : ∀ x ∈ (es.modify j fun q => { q with key := valOf di }).toList, ∃ z ∈ es.toList, z.born = x.born ∧ z.key = x.key := by
      intro x hx
      obtain ⟨i, hi, rfl⟩ := List.getElem_of_mem hx
      have h1 : (es.modify j fun q => { q with key := valOf di })[i]? = some (es.modify j fun q => { q with key := valOf di }).toList[i] := by
        rw [← Array.getElem?_toList]; exact List.getElem?_eq_getElem hi
      rw [Array.getElem?_modify] at h1
      by_cases hij : j = i
      · subst hij
        rw [if_pos rfl, hj] at h1
        simp only [Option.map_some, Option.some.injEq] at h1
        refine ⟨x', by simpa using Array.mem_of_getElem? hj, ?_, ?_⟩ <;> rw [← h1]
        exact j3
      · rw [if_neg hij] at h1
        exact ⟨_, by simpa using Array.mem_of_getElem? h1, rfl, rfl⟩
    obtain ⟨m1, m2⟩ := map_set r hbox hbx k1 (es.modify j fun q => { q with key := valOf di }) clock ks (hkeys.trans k3) kf vs g (stamped_modify k2 j _ (fun _ _ => rfl) (fun q _ hq => by rw [hj] at hq; cases hq; exact j3.symm))
      (by rw [hvals]; exact k4) (fun _ => ⟨rfl, fun _ h => h, hb2⟩) (by omega) (count_modify hct _ _ fun _ => rfl)
    rw [set_sameH hbx] at m2
    refine ⟨_, _, hR1 j y' hkj j5, .tuple #[x'.val, .int .i64 j], ρ, _, .inl ?_, m1, m2, .tup (vs := [x'.val, .int .i64 j]) (l := [y', .int j]) rfl (All2.cons j6 (All2.cons (.lit _) All2.nil)).2⟩
    rw [execOp, ho]
    simp only [Instr.mapEntry, hv, hiv, Sem.run_bind, run_underlying hu, MapKept.run_getObj_map k1, Result.andThen_ok, run_checkKey_val hT hk, hfk, Nat.zero_add, hj, Option.map_some, Option.getD_some, j3, run_stays hk, run_setObj_map _ k1, Sem.run_pure, goInt, hborn]
/-- An entry that was looked for is written. -/
theorem did_entryStore (hT : TabOk P C) (r : Real C.sh ρ h w) (he : ∀ x, VV C.sh ρ (a.eval x) (e x)) {t : TypeId} {x s y : Operand} {R : D → Heap → Prop} (ho : o.op = .entryStore t x s y)
    (hd : mapD C h t (e x) fun u b ks vs g => ks.length = g ∧ ∃ n : Nat, e s = .int n ∧ n < g ∧ R (.lit undef) { h with boxes := h.boxes.set b (.obj 1, .mp ks (vs.set n (nrm C u (e y))) g) }) : DidN P C o a w ρ R := by
  have hx := he x
  have hs := he s
  generalize e x = dx at hx hd
  unfold mapD at hd
  split at hd
  case h_2 => exact hd.elim
  rename_i kt et b hty
  split at hd
  case h_2 => exact hd.elim
  rename_i ks vs g hbx
  obtain ⟨hks, hlen, n, hn, hng, hR⟩ := hd
  rw [hn] at hs
  have hsv := vv_lit hs
  obtain ⟨B, hv, hbox⟩ := vv_mref hx
  obtain ⟨es, clock, k1, k2, k3, kf, k4⟩ := real_map r hbox hbx
  have hct := real_count r hbox hbx k1
  have hes : es.size = ks.length := by have := congrArg List.length k3; simpa using this
  have hlt : n < es.size := by omega
  have hy := vv_nrm (t := et) (he y)
  have hborn := hct.2.2 (by omega)
  have hfi : es.findIdx? (fun e => (e.born : Int) == (n : Int)) = some n := by
    rw [Array.findIdx?_eq_some_iff_getElem]
    refine ⟨hlt, ?_, fun j hj => ?_⟩
    · have := hborn n es[n] (Array.getElem?_eq_getElem hlt)
      simp [this]
    · have := hborn j es[j] (Array.getElem?_eq_getElem (by omega))
      simp [this]; omega
  have hkeys : (es.modify n fun q => { q with val := a.eval y }).toList.map (·.key) = es.toList.map (·.key) := modify_keys n _ fun q hq => rfl
  have hvals : (es.modify n fun q => { q with val := a.eval y }).toList.map (·.val) = (es.toList.map (·.val)).set n (a.eval y) := by
    apply List.ext_getElem?
    intro i
    simp only [List.getElem?_map, Array.getElem?_toList, Array.getElem?_modify, List.getElem?_set, List.length_map, Array.length_toList]
    by_cases hij : n = i
    · subst hij; simp [hlt]
    · simp [hij]
  have hb2 : ∀ x ∈ (es.modify n fun q => { q with val := a.eval y }).toList, ∃ z ∈ es.toList, z.born = x.born ∧ z.key = x.key := by
    intro x hx
    obtain ⟨i, hi, rfl⟩ := List.getElem_of_mem hx
    have h1 : (es.modify n fun q => { q with val := a.eval y })[i]? = some (es.modify n fun q => { q with val := a.eval y }).toList[i] := by
      rw [← Array.getElem?_toList]; exact List.getElem?_eq_getElem hi
    rw [Array.getElem?_modify] at h1
    by_cases hij : n = i
    · subst hij
      rw [if_pos rfl, Option.map_eq_some_iff] at h1
      obtain ⟨q, hq, hq2⟩ := h1
      refine ⟨q, by simpa using Array.mem_of_getElem? hq, ?_, ?_⟩ <;> rw [← hq2]
    · rw [if_neg hij] at h1
      exact ⟨_, by simpa using Array.mem_of_getElem? h1, rfl, rfl⟩
  obtain ⟨m1, m2⟩ := map_set r hbox hbx k1 (es.modify n fun q => { q with val := a.eval y }) clock ks (hkeys.trans k3) kf (vs.set n (nrm C et (e y))) g (stamped_modify k2 n _ (fun _ _ => rfl) (fun q _ hq => rfl))
    (by rw [hvals]; exact k4.set n hy) (fun _ => ⟨rfl, fun _ h => h, hb2⟩) (by omega) (count_modify hct _ _ fun _ => rfl)
  refine ⟨_, _, hR, undef, ρ, _, .inr ⟨?_, rfl⟩, m1, m2, .lit _⟩
  rw [execOp, ho]
  simp only [Instr.entryStore, hv, hsv, Sem.run_bind, MapKept.run_getObj_map k1, Result.andThen_ok, asInt, asIntOf, Sem.run_pure, hfi, run_setObj_map _ k1]

theorem did_next (r : Real C.sh ρ h w) (he : ∀ x, VV C.sh ρ (a.eval x) (e x)) {x : Operand} {R : D → Heap → Prop} (ho : o.op = .next x false) {i m g : Nat} {seen ks : List D} {vs : List D} (hx : e x = .ptr i [])
    (hi : h.boxes[i]? = some (.obj 2, .it m g seen)) (hm : h.boxes[m]? = some (.obj 1, .mp ks vs g))
    (h1 : ∀ (j : Nat) (k : D) (y : D), ks[j]? = some k → vs[j]? = some y → k ∉ seen → R (.tup [.bool true, k, y]) { h with boxes := h.boxes.set i (.obj 2, .it m g (seen ++ [k])) })
    (h2 : (∀ k ∈ ks, k ∈ seen) → R (.tup [.bool false]) h) : DidN P C o a w ρ R := by
  have hxv := he x
  rw [hx] at hxv
  obtain ⟨I, B, es, clock, sn, hv, hbI, hbB, hI, hB, hst, hkk, hfl, hvals, hinj, hrel⟩ := iter_parts r hxv hi hm
  have htest : (!sn.isEmpty && !es.isEmpty && es.all (fun x => decide (x.born ≥ clock))) = false := by
    cases hem : es.isEmpty with
    | true => simp
    | false =>
      have h0 : 0 < es.size := by
        rcases Nat.eq_zero_or_pos es.size with h0 | h0
        · simp [Array.isEmpty, h0] at hem
        · exact h0
      have : es.all (fun x => decide (x.born ≥ clock)) = false := by
        rw [Bool.eq_false_iff]
        intro hall
        rw [Array.all_eq_true_iff_forall_mem] at hall
        have k1 := hall es[0] (Array.getElem_mem h0)
        have k2 := hst.1 es[0] (by simp)
        simp at k1
        omega
      simp [this]
  have hmem : ∀ x ∈ (Array.filter (fun e => !sn.contains e.born) es).toList, x ∈ es.toList ∧ x.key ∉ seen.map valOf := by
    intro x hx
    simp only [Array.toList_filter, List.mem_filter, Bool.not_eq_true'] at hx
    refine ⟨hx.1, fun hk => ?_⟩
    have := (hrel x hx.1).1.2 hk
    have h3 : sn.contains x.born = true := by simpa using this
    rw [h3] at hx; exact absurd hx.2 (by simp)
  have hborn : ∀ x ∈ (Array.filter (fun e => !sn.contains e.born) es).toList, x.born < clock := fun x hx => hst.1 x (hmem x hx).1
  have hall : (Array.filter (fun e => !sn.contains e.born) es).size = 0 → ∀ k ∈ ks, k ∈ seen := by
    intro hz k hk
    have hk2 : valOf k ∈ es.toList.map (·.key) := by rw [hkk]; exact List.mem_map.2 ⟨k, hk, rfl⟩
    obtain ⟨x, hx, hxk⟩ := List.mem_map.1 hk2
    suffices hs : x.key ∈ seen.map valOf by
      obtain ⟨s, hs1, hs2⟩ := List.mem_map.1 hs
      rw [← hinj s hs1 k hk (by rw [hs2, hxk])]; exact hs1
    refine (hrel x hx).1.1 ?_
    cases hc : sn.contains x.born with
    | true => simpa using hc
    | false =>
      exfalso
      have : x ∈ (Array.filter (fun e => !sn.contains e.born) es).toList := by
        simp only [Array.toList_filter, List.mem_filter]; exact ⟨hx, by rw [hc]; rfl⟩
      have h0 : (Array.filter (fun e => !sn.contains e.born) es).toList = [] := List.eq_nil_of_length_eq_zero (by simpa using hz)
      rw [h0] at this; cases this
  generalize hL : Array.filter (fun e => !sn.contains e.born) es = L at hmem hborn hall
  have e1 : L.filter (fun x => decide (x.born < clock)) = L := Array.filter_eq_self.2 (fun x hx => by simpa using hborn x (by simpa using hx))
  have e2 : L.filter (fun x => decide (x.born ≥ clock)) = #[] := by
    rw [Array.filter_eq_empty_iff]
    intro x hx
    have := hborn x (by simpa using hx)
    simp
    omega
  by_cases h0 : L.size = 0
  · have hLe : L = #[] := Array.eq_empty_of_size_eq_zero h0
    refine ⟨_, _, h2 (hall h0), Did.quiet r (v := .tuple #[.bool false]) ?_ (.tup (vs := [.bool false]) (l := [.bool false]) rfl (All2.cons (.lit _) All2.nil).2)⟩
    rw [execOp, ho]
    simp only [Instr.next, hv, getObj, Sem.run_bind, Sem.run, hI, hB, Result.andThen, htest, Bool.false_eq_true, if_false, hL, e1, e2]
    subst hLe
    simp [choose, Sem.run, Question.forced]
  · have hne : L.isEmpty = false := by simp [Array.isEmpty, h0]
    have hch : ∃ (j : Nat) (w1 : World), j < L.size ∧ (w1 = w ∨ w1 = w.drew) ∧ (choose (Question.mapNext L.size)).run P w = .ok j w1 := by
      by_cases hf : L.size ≤ 1
      · exact ⟨0, w, by omega, .inl rfl, by simp [choose, Sem.run, Question.forced, hf]⟩
      · exact ⟨_, w.drew, Nat.mod_lt _ (by omega), .inr rfl, by
          simp only [choose, Sem.run, Question.forced, decide_eq_true_eq, hf, if_false, Question.cut]
          rfl⟩
    obtain ⟨j, w1, hj, hw1, hrun⟩ := hch
    have hr1 : Real C.sh ρ h w1 := hw1.elim (fun e => e ▸ r) (fun e => e ▸ r.drew)
    have hx1 : Ext ρ w ρ w1 := hw1.elim (fun e => e ▸ Ext.refl _ _) (fun e => e ▸ Ext.drew _ _)
    have hI1 : w1.heap[I]? = some (.mapIter (some B) clock sn clock) := by rcases hw1 with rfl | rfl <;> exact hI
    have hB1 : w1.heap[B]? = some (.map es clock) := by rcases hw1 with rfl | rfl <;> exact hB
    obtain ⟨m1, m2⟩ := hmem L[j] (by simp)
    obtain ⟨p, hp⟩ := List.getElem?_of_mem m1
    obtain ⟨q1, q2⟩ := heap_set (w := w1) (o' := .mapIter (some B) clock (sn.push L[j].born) clock) hI1
    have hplt : p < vs.length := by
      rw [← hvals.1, List.length_map]; exact (List.getElem?_eq_some_iff.1 hp).1
    have hpk : p < ks.length := by
      have := congrArg List.length hkk
      rw [List.length_map, List.length_map] at this
      rw [← this]; exact (List.getElem?_eq_some_iff.1 hp).1
    have hkp : L[j].key = valOf ks[p] := by
      have h1 : (es.toList.map (·.key))[p]? = some L[j].key := by rw [List.getElem?_map, hp]; rfl
      rw [hkk, List.getElem?_map, List.getElem?_eq_getElem hpk] at h1
      exact (Option.some.inj h1).symm
    have hnk : ks[p] ∉ seen := fun hm2 => m2 (by rw [hkp]; exact List.mem_map.2 ⟨_, hm2, rfl⟩)
    have hnd : (ks.map valOf).Nodup := by rw [← hkk]; exact hst.2.2
    have hinj2 : ∀ k ∈ ks, valOf ks[p] = valOf k → ks[p] = k := by
      intro k hk he
      obtain ⟨q, hq, rfl⟩ := List.getElem_of_mem hk
      have : p = q := by
        have hnd' := List.pairwise_iff_getElem.1 hnd
        rcases Nat.lt_trichotomy p q with h | h | h
        · exact absurd (by rw [List.getElem_map, List.getElem_map]; exact he) (hnd' p q (by simpa using hpk) (by simpa using hq) h)
        · exact h
        · exact absurd (by rw [List.getElem_map, List.getElem_map]; exact he.symm) (hnd' q p (by simpa using hq) (by simpa using hpk) h)
      subst this; rfl
    have hvp : VV C.sh ρ L[j].val vs[p] := hvals.2 p _ _ (by rw [List.getElem?_map, hp]; rfl) (List.getElem?_eq_getElem hplt)
    have hset : (setObj I (.mapIter (some B) clock (sn.push L[j].born) clock)).run P w1 = .ok () { w1 with heap := w1.heap.setIfInBounds I (.mapIter (some B) clock (sn.push L[j].born) clock) } := by
      simp [setObj, Sem.run, hI1]
    have hmi : m ≠ i := by rintro rfl; rw [hi] at hm; cases hm
    refine ⟨_, _, h1 p ks[p] vs[p] (List.getElem?_eq_getElem hpk) (List.getElem?_eq_getElem hplt) hnk, .tuple #[.bool true, L[j].key, L[j].val], ρ, { w1 with heap := w1.heap.setIfInBounds I (.mapIter (some B) clock (sn.push L[j].born) clock) }, .inl ?_,
      hx1.trans (box_ext hr1 hbI rfl rfl rfl (by simp) q2), block_set hr1 hbI hi (by simp) (fun _ => ⟨rfl, show D.isLeaf _ = true from rfl⟩) _ (fun _ => ?_) (by simp) (by simp) q2, ?_⟩
    · rw [execOp, ho]
      simp only [Instr.next, hv, getObj, Sem.run_bind, Sem.run, hI, hB, Result.andThen, htest, Bool.false_eq_true, if_false, hL, e1, e2, hne, Array.append_empty, Array.empty_append, Array.size_map, hrun, Array.getElem?_map, Array.getElem?_eq_getElem hj, Option.map_some, hset]
      rfl
    · refine ⟨m, g, seen ++ [ks[p]], B, clock, sn.push L[j].born, clock, rfl, q1, hbB, ?_, ?_⟩
      · intro ks1 vs1 g1 j1
        simp only at j1
        rw [List.getElem?_set_ne (fun e => hmi e.symm), hm] at j1
        cases j1; exact Nat.le_refl _
      · intro ks1 vs1 es1 clock1 j1 j2
        have hBI : B ≠ I := by rintro rfl; rw [hB1] at hI1; cases hI1
        rw [q2 B hBI, hB1] at j2
        cases j2
        simp only at j1
        rw [List.getElem?_set_ne (fun e => hmi e.symm), hm] at j1
        cases j1
        refine ⟨rfl, rfl, ?_, fun x hx => ⟨?_, ?_⟩⟩
        · intro s hs k hk
          rcases List.mem_append.1 hs with hs | hs
          · exact hinj s hs k hk
          · rw [List.mem_singleton] at hs; subst hs; exact hinj2 k hk
        · simp only [Array.toList_push, List.map_append, List.map_cons, List.map_nil, List.mem_append, List.mem_singleton, ← hkp]
          constructor
          · rintro (h3 | h3)
            · exact .inl ((hrel x hx).1.1 h3)
            · have := born_inj hst.2.1 hx m1 h3
              exact .inr (by rw [this])
          · rintro (h3 | h3)
            · exact .inl ((hrel x hx).1.2 h3)
            · have := key_inj hst.2.2 hx m1 h3
              exact .inr (by rw [this])
        · simp only [Array.back?_push, Option.some.injEq, List.map_append, List.map_cons, List.map_nil, List.getLast?_append, List.getLast?_singleton, Option.some_or, ← hkp]
          constructor
          · intro h3
            have := born_inj hst.2.1 hx m1 h3.symm
            rw [this]
          · intro h3
            have := key_inj hst.2.2 hx m1 h3.symm
            rw [this]
    · exact .tup (vs := [.bool true, L[j].key, L[j].val]) (l := [.bool true, ks[p], vs[p]]) rfl (All2.cons (.lit _) (All2.cons (by rw [hkp]; exact vv_flat (hfl _ (List.getElem_mem hpk))) (All2.cons hvp All2.nil))).2

end
end Go.Ab
