/- Regions whose order is open, in which stores change memory, one behind the other, while the rest only asks for what they don't change. Conditions: none. -/
import Derived.Test.YtehcjnendfpbaaaGreatAbS
import Derived.Test.YtehcjnendfpbaaaGreatAbPg
import Derived.Test.YtehcjnendfpbaaaGreatSoB
import Derived.Test.YtehcjnendfpbaaaGreatTxI
set_option linter.unusedSimpArgs false
namespace Go.Ab
section
variable {P : Program} {C : Tab}
theorem sched_facts {ops : Array Oper} (hany : downTo .any ops (fun j => j) = true) (hmodes : Region.departs ops = false ∨ downTo .text ops (fun j => j) = true ∧ downTo .gc ops (fun j => (Region.linearise .gc ops 0).idxOf j) = true) (mixed : Bool) (t : Nat) :
    ∃ l, Region.schedule mixed ops t = l ∧ l.Perm (List.range ops.size) ∧ l.Nodup ∧ ∀ k j, ((Region.before ops).getD j 0).testBit k = true → j < ops.size → ∀ x y, l = x ++ j :: y → k ∈ x := by
  have key : ∃ (m : Region.Mode) (rank : Nat → Nat) (t' : Nat), downTo m ops rank = true ∧ Region.schedule mixed ops t = Region.linearise m ops t' := by
    unfold Region.schedule
    split
    · exact ⟨.any, _, t, hany, rfl⟩
    · rename_i hc
      simp only [Bool.or_eq_true, Bool.not_eq_true', not_or, Bool.not_eq_false] at hc
      rcases hmodes with h | ⟨h1, h2⟩
      · rw [h] at hc; exact absurd hc.2 (by simp)
      · split
        · exact ⟨.text, _, _, h1, rfl⟩
        · exact ⟨.gc, _, _, h2, rfl⟩
  obtain ⟨m, rank, t', hdown, hsch⟩ := key
  obtain ⟨l, g1, g2, g3⟩ := go_sound hdown ops.size t' (Array.replicate ops.size false) [] (by simp) (by rw [rest_all]; simp)
  rw [rest_all] at g2
  have hl : Region.schedule mixed ops t = l := by
    rw [hsch]; unfold Region.linearise; rw [g1]; simp
  have hcl : ∀ x k y, l = x ++ k :: y → ∀ (o : Oper), ops[k]? = some o → ∀ e ∈ o.after.toList, Region.binds .any e = true → e.on ∈ x := by
    intro x k y hxl o ho e he hb
    have hb2 : Region.binds m e = true := by
      unfold Region.binds at hb ⊢
      split at hb <;> simp_all
    rcases g3 x k y hxl o ho e he hb2 with h | h
    · exfalso
      rw [Array.getD_eq_getD_getElem?, Array.getElem?_replicate] at h
      split at h <;> simp at h
    · exact h
  have hnd : l.Nodup := g2.nodup_iff.2 List.nodup_range
  have hbef : ∀ k j, ((Region.before ops).getD j 0).testBit k = true → j < ops.size → ∀ x y, l = x ++ j :: y → k ∈ x := by
    intro k j h3 hjl x1 y1 e
    have hoj : ops[j]? = some ops[j] := Array.getElem?_eq_getElem hjl
    refine before_in (L := fun i => i ∈ x1) ?_ ?_ j _ hoj ?_ k h3
    · intro j o ho e he hb
      simp only [downTo, List.all_eq_true, List.mem_range] at hany
      have q := hany j (Array.getElem?_eq_some_iff.1 ho).1
      rw [ho] at q
      simp only [Array.all_eq_true'] at q
      have q2 := q e (by simpa using he)
      rw [hb] at q2
      simp at q2
      exact q2.2
    · intro i o hi ho e' he hb
      obtain ⟨u, v, rfl⟩ := List.append_of_mem hi
      have := hcl u i (v ++ j :: y1) (by rw [e]; simp) o ho e' he hb
      simp [this]
    · intro e' he hb
      exact hcl x1 j y1 e _ hoj e' he hb
  exact ⟨l, hl, g2, hnd, hbef⟩
def storeOp (ops : Array Oper) (i : Nat) : Bool := match ops[i]? with | some o => (match o.op with | .store _ _ _ => true | _ => false) && decide (o.dst = none) && decide (o.guard = none) | none => false
/-- Stores, one behind the other; ahead of each of them, and behind the last, the rest asks the same. -/
def storesD (C : Tab) (ops : Array Oper) (Good : Heap → Prop) (Q : St → Prop) (ts1 : List D) : List Nat → Heap → Prop
  | [], h => Good h ∧ Q ⟨ts1, h⟩
  | c :: cs, h => Good h ∧ ∃ o h', ops[c]? = some o ∧ eff C o (St.ev ⟨ts1, h⟩) h (.lit undef) h' ∧ storesD C ops Good Q ts1 cs h'
theorem storesD_good {ops : Array Oper} {Good : Heap → Prop} {Q : St → Prop} {ts1 : List D} : ∀ {sts : List Nat} {h : Heap}, storesD C ops Good Q ts1 sts h → Good h
  | [], _, h => h.1
  | _ :: _, _, h => h.1
theorem stores_sound {ops : Array Oper} {Q : St → Prop} {Good : Heap → Prop} {ts1 : List D} (bef : Nat → Nat → Prop) : ∀ (y pre sts : List Nat) (ts : List D) (h : Heap), y.Perm (pre ++ sts) → y.Nodup →
    (∀ k j, bef k j → ∀ x z, y = x ++ j :: z → k ∉ z) → (∀ p ∈ pre, p < ops.size ∧ preOk ops p = true) → pre.Pairwise (fun k j => bef k j ∨ indep ops k j = true) → pre.Pairwise (fun k j => dstOf ops k ≠ dstOf ops j) → sts.Pairwise bef →
    (∀ p ∈ pre, ∀ c ∈ sts, bef p c ∨ slotsApart ops p c = true) → (∀ c ∈ sts, storeOp ops c = true) → (∀ g, Good g → runD P C ops pre ⟨ts, g⟩ ⟨ts1, g⟩) → storesD C ops Good Q ts1 sts h → aopsN P C ops Q y ⟨ts, h⟩
  | [], pre, sts, ts, h, hperm, _, _, _, _, _, _, _, _, hrun, hc => by
    have hl := hperm.length_eq
    simp only [List.length_nil, List.length_append] at hl
    have e1 : sts = [] := List.eq_nil_of_length_eq_zero (by omega)
    have e2 : pre = [] := List.eq_nil_of_length_eq_zero (by omega)
    subst e1; subst e2
    have h1 := hrun h hc.1
    cases h1
    exact hc.2
  | i :: y, pre, sts, ts, h, hperm, hnd, hord, hpre, hpp, hdd, hcc, hpc, hso, hrun, hc => by
    have hnd2 : (pre ++ sts).Nodup := hperm.nodup_iff.1 hnd
    have hord' : ∀ k j, bef k j → ∀ x z, y = x ++ j :: z → k ∉ z := fun k j hb x z e => hord k j hb (i :: x) z (by rw [e]; rfl)
    have hfirst : ∀ k, k ∈ y → ¬ bef k i := fun k hk hb => hord k i hb [] y rfl hk
    have hgd := storesD_good hc
    rcases List.mem_append.1 (hperm.subset (List.mem_cons_self)) with hi | hi
    · obtain ⟨u, v, rfl⟩ := List.append_of_mem hi
      have hperm' : y.Perm (u ++ v ++ sts) := by
        have : (u ++ i :: v ++ sts).Perm (i :: (u ++ v ++ sts)) := by
          rw [List.append_assoc, List.append_assoc]; exact List.perm_middle
        exact (List.perm_cons i).1 (hperm.trans this)
      have hui : ∀ k ∈ u, k < ops.size ∧ indep ops k i = true := by
        intro k hk
        refine ⟨(hpre k (by simp [hk])).1, ?_⟩
        rcases (List.pairwise_append.1 hpp).2.2 k hk i (by simp) with h1 | h1
        · exact absurd h1 (hfirst k (hperm'.symm.subset (by simp [hk])))
        · exact h1
      have hsub : (u ++ v).Sublist (u ++ i :: v) := (List.Sublist.refl u).append (List.sublist_cons_self i v)
      have hpre' : ∀ p ∈ u ++ v, p < ops.size ∧ preOk ops p = true := fun p hp => hpre p (hsub.subset hp)
      have hdi : ∀ q ∈ u ++ v, dstOf ops q ≠ dstOf ops i := fun q hq => by
        rcases List.mem_append.1 hq with hq | hq
        · exact (List.pairwise_append.1 hdd).2.2 q hq i (by simp)
        · exact Ne.symm ((List.pairwise_cons.1 (List.pairwise_append.1 hdd).2.1).1 q hq)
      have step : ∀ g, Good g → ∃ r, stp P C ops i ⟨ts, g⟩ (St.put ⟨ts, g⟩ (dstOf ops i) r) ∧ runD P C ops (u ++ v) ⟨(St.put ⟨ts, g⟩ (dstOf ops i) r).tmps, g⟩ ⟨ts1, g⟩ := fun g hg => by
        obtain ⟨s1, g1, g2⟩ := runD_front (hpre i (by simp)).1 hui (hrun g hg)
        obtain ⟨r, rfl, _⟩ := stp_le (hpre i (by simp)).2 g1
        refine ⟨r, g1, ?_⟩
        have e : St.put ⟨ts, g⟩ (dstOf ops i) r = ⟨(St.put ⟨ts, g⟩ (dstOf ops i) r).tmps, g⟩ := by cases dstOf ops i <;> rfl
        rw [e] at g2; exact g2
      obtain ⟨r, g1, g2⟩ := step h hgd
      have same : ∀ g r', runD P C ops (u ++ v) ⟨(St.put ⟨ts, g⟩ (dstOf ops i) r').tmps, g⟩ ⟨ts1, g⟩ → (St.put ⟨ts, g⟩ (dstOf ops i) r').tmps = (St.put ⟨ts, h⟩ (dstOf ops i) r).tmps := fun g r' g3 => by
        cases hd : dstOf ops i with
        | none => rfl
        | some t =>
          rw [hd] at g2 g3 hdi
          have k1 := (runD_tmps (u ++ v) (fun p hp => (hpre' p hp).2) g2).2 t fun p hp => hdi p hp
          have k2 := (runD_tmps (u ++ v) (fun p hp => (hpre' p hp).2) g3).2 t fun p hp => hdi p hp
          rw [k1] at k2
          have k3 : (ts.set t r)[t]? = (ts.set t r')[t]? := k2
          show ts.set t r' = ts.set t r
          rcases Nat.lt_or_ge t ts.length with hlt | hge
          · rw [List.getElem?_set_self hlt, List.getElem?_set_self hlt] at k3
            cases k3; rfl
          · rw [List.set_eq_of_length_le hge, List.set_eq_of_length_le hge]
      have e : ∀ g r, St.put ⟨ts, g⟩ (dstOf ops i) r = ⟨(St.put ⟨ts, g⟩ (dstOf ops i) r).tmps, g⟩ := fun g r => by cases dstOf ops i <;> rfl
      refine aopsN_stp (hpre i (by simp)).2 g1 ?_
      rw [e]
      refine stores_sound bef y (u ++ v) sts _ h hperm' (List.nodup_cons.1 hnd).2 hord' hpre' (hpp.sublist hsub) (hdd.sublist hsub) hcc (fun p hp => hpc p (hsub.subset hp)) hso ?_ hc
      intro g hg
      obtain ⟨r', _, g3⟩ := step g hg
      rw [← same g r' g3]; exact g3
    · cases sts with
      | nil => exact absurd hi (by simp)
      | cons c cs =>
        have hic : i = c := by
          rcases List.mem_cons.1 hi with h1 | h1
          · exact h1
          · exfalso
            have hb : bef c i := (List.pairwise_cons.1 hcc).1 i h1
            have hcy : c ∈ y := by
              have hcm : c ∈ i :: y := hperm.symm.subset (by simp)
              rcases List.mem_cons.1 hcm with h2 | h2
              · exfalso
                subst h2
                exact (List.nodup_cons.1 (List.nodup_append.1 hnd2).2.1).1 h1
              · exact h2
            exact hfirst c hcy hb
        subst hic
        have hperm' : y.Perm (pre ++ cs) := by
          have : (pre ++ i :: cs).Perm (i :: (pre ++ cs)) := List.perm_middle
          exact (List.perm_cons i).1 (hperm.trans this)
        have hpnb : ∀ p ∈ pre, ¬ bef p i := fun p hp => hfirst p (hperm'.symm.subset (by simp [hp]))
        obtain ⟨_, o, h', ho, he, hk⟩ := hc
        have hst := hso i (by simp)
        simp only [storeOp, ho, Bool.and_eq_true, decide_eq_true_eq] at hst
        obtain ⟨⟨hst, hdn⟩, hgn⟩ := hst
        have hap : ∀ p ∈ pre, slotsApart ops p i = true := fun p hp => (hpc p hp i (by simp)).resolve_left (hpnb p hp)
        have hro : readOf ops i = readsOf ops o := by simp [readOf, ho]
        obtain ⟨_, htm⟩ := runD_tmps pre (fun p hp => (hpre p hp).2) (hrun h hgd)
        have hev : ∀ x ∈ o.op.operands.toList, St.ev ⟨ts1, h⟩ x = St.ev ⟨ts, h⟩ x := by
          refine ev_congr fun t ht => ?_
          refine (htm t fun p hp e => ?_).symm
          have := hap p hp
          simp only [slotsApart, Bool.and_eq_true] at this
          have h1 := this.1.1
          rw [e] at h1
          simp only [Bool.not_eq_true', List.contains_eq_mem, decide_eq_false_iff_not] at h1
          exact h1 (by rw [hro]; simp [readsOf, ht])
        have he2 := eff_congr hev he
        simp only [aopsN, ho]
        rw [if_pos (by simp [Region.wanted, hgn])]
        have hcal : calleeOf P C o ⟨ts, h⟩ = none := by
          cases hcl : calleeOf P C o ⟨ts, h⟩ with
          | none => rfl
          | some x =>
            have h1 := callee_kind hcl
            split at hst
            · rename_i hop; rw [hop] at h1; simp [kindOf] at h1
            · cases hst
        unfold aop
        rw [hcal]
        refine .inl ⟨_, h', he2, ?_⟩
        rw [hdn]
        exact stores_sound bef y pre cs ts h' hperm' (List.nodup_cons.1 hnd).2 hord' hpre hpp hdd (List.pairwise_cons.1 hcc).2 (fun p hp c hc => hpc p hp c (List.mem_cons_of_mem _ hc)) (fun c hc => hso c (List.mem_cons_of_mem _ hc)) hrun hk
end
end Go.Ab
set_option linter.unusedSimpArgs false
namespace Go.Ab

theorem vp_retok {T : TypeId → Sh} {S : Nat → Nat → Option Value} {v : Value} {e : TypeId} {l : List D} {t : Tok} (h : VP T S v (.lst e l .no)) (h1 : ∀ i, t ≠ .own i) (h2 : ∀ a n cap, v = .slice (some a) n cap → t = .full → cap = l.length) : VP T S v (.lst e l t) := by
  cases h with
  | nil _ => exact .nil h1
  | lst cs hr hl h hs hc hm _ _ => exact .lst cs hr hl h hs hc hm h1 (fun ht => h2 _ _ _ rfl ht)
theorem vv_deepTail {T : TypeId → Sh} {ρ : Env} {v : Value} {e : TypeId} {l : List D} {t : Tok} (h : VV T ρ v (.lst e l t)) : VV T ρ v (.lst e (deepL l) t) := by
  have hlen : (deepL l).length = l.length := by rw [deepL_map, List.length_map]
  cases h with
  | pure h =>
    have hd := vp_deep h
    simp only [deep] at hd
    cases h with
    | nil ht => exact .pure (vp_retok hd ht (fun a n cap hv _ => by cases hv))
    | lst cs hr hl hh hs hc hm h1 h2 =>
      refine .pure (vp_retok hd h1 fun a n cap hv ht => ?_)
      simp only [Value.slice.injEq] at hv
      rw [hlen, ← hv.2.2]; exact h2 ht
  | ownNil h => exact .ownNil h
  | own h hn hv =>
    have hd := vp_deep hv
    simp only [deep] at hd
    rw [← hlen] at hd hn ⊢
    exact .own h hn hd
section
variable {P : Program} {C : Tab}
/-- A function that only computes: a value, and a slice that is the caller's own. -/
def FSpec (P : Program) (C : Tab) (f : FuncId) (args : List D) (R : D → TypeId → List D → Prop) : Prop :=
  ASpec P C f args noHeap fun r h' => ∃ a u L t, r = .tup [a, .lst u L t] ∧ pureD a ∧ live t h'.toks ∧ R a u L
/-- Such a function may be called with whatever own memory there is. -/
theorem FSpec.call {f : FuncId} {args args' : List D} {R : D → TypeId → List D → Prop} (hs : FSpec P C f args' R) (bs : List (Sh × D)) (tk : List Bool) (ha : args.map erase = args') (hp : pureL args') :
    ASpec P C f args ⟨bs, tk⟩ fun r h' => ∃ a u L t z, r = .tup [a, .lst u L t] ∧ h' = ⟨bs, tk ++ z⟩ ∧ liveH t tk z ∧ R a u L := by
  refine ⟨hs.1, ?_⟩
  intro ρ w vs hr hv
  let ρ0 : Env := { S := ρ.S, box := [], tok := [], own := fun _ => False }
  have hr0 : Real C.sh ρ0 noHeap w := by
    refine ⟨hr.st, rfl, rfl, ?_, ?_, ?_, ?_, ?_, fun _ h => h.elim⟩
    · intro b B sh hb; simp [ρ0] at hb
    · intro b B sh sh' d hb; simp [ρ0] at hb
    · intro b b' B sh sh' hb; simp [ρ0] at hb
    · intro t B n lim ht; simp [ρ0] at ht
    · intro t t' B n n' lim lim' ht; simp [ρ0] at ht
  have hv0 : All2 (VV C.sh ρ0) vs.toList args' := by
    refine ⟨by rw [hv.1, ← ha, List.length_map], ?_⟩
    intro i c d hc hd
    have hpd := pureL_mem hp d (List.mem_of_getElem? hd)
    rw [← ha, List.getElem?_map, Option.map_eq_some_iff] at hd
    obtain ⟨x, hx, rfl⟩ := hd
    have hvp := vp_of_vv (vv_erase (hv.2 i c x hc hx)) hpd
    exact .pure hvp
  refine (hs.2 ρ0 w vs hr0 hv0).mono ?_
  rintro e w' ⟨v, r, h', ρ', rfl, he, hr', hvr, a, u, L, t, rfl, hpa, hlv, hR⟩
  have hS : ∀ B i x, ρ.S B i = some x → ρ'.S B i = some x := he.le.S
  have hold : ∀ B i x, B < w.heap.size → ρ'.S B i = some x → ρ.S B i = some x := by
    intro B i x hB hx
    rcases he.old B i x hB hx with h1 | h1
    · exact h1.elim
    · exact h1
  have hblk : ∀ k, k < w.heap.size → w'.heap[k]? = w.heap[k]? := fun k hk => he.blk k hk (fun h => h)
  have hnew : ∀ k, ρ'.own k → w.heap.size ≤ k := fun k hk => by
    rcases Nat.lt_or_ge k w.heap.size with h | h
    · exact (he.own k h hk).elim
    · exact h
  let ρ'' : Env := { S := ρ'.S, box := ρ.box, tok := ρ.tok ++ ρ'.tok, own := fun B => ρ.own B ∨ ρ'.own B }
  have hlT : tk.length = ρ.tok.length := hr.lenT
  have hlT' : h'.toks.length = ρ'.tok.length := hr'.lenT
  have hle : ρ.le ρ'' := ⟨hS, fun _ _ h => h, fun t x h => by
    show (ρ.tok ++ ρ'.tok)[t]? = some x
    rw [List.getElem?_append_left (List.getElem?_eq_some_iff.1 h).1]; exact h⟩
  have hrr : Real C.sh ρ'' ⟨bs, tk ++ h'.toks⟩ w' := by
    have split : ∀ (t : Nat) (x : Option (Nat × Nat × Nat)) (b : Bool), (ρ.tok ++ ρ'.tok)[t]? = some x → (tk ++ h'.toks)[t]? = some b → (ρ.tok[t]? = some x ∧ tk[t]? = some b ∧ t < tk.length) ∨ (ρ'.tok[t - tk.length]? = some x ∧ h'.toks[t - tk.length]? = some b ∧ tk.length ≤ t) := by
      intro t x b h1 h2
      rcases Nat.lt_or_ge t tk.length with hlt | hge
      · rw [List.getElem?_append_left (by omega)] at h1
        rw [List.getElem?_append_left hlt] at h2
        exact .inl ⟨h1, h2, hlt⟩
      · rw [List.getElem?_append_right (by omega), ← hlT] at h1
        rw [List.getElem?_append_right hge] at h2
        exact .inr ⟨h1, h2, hge⟩
    refine ⟨hr'.st, hr.lenB, by show (tk ++ h'.toks).length = (ρ.tok ++ ρ'.tok).length; simp [hlT, hlT'], fun b B sh hb => .inl (hr.bown b B sh hb), ?_, hr.inj, ?_, ?_, ?_⟩
    · intro b B sh sh' d hb hd hne
      obtain ⟨k1, k2, k4, k5⟩ := hr.box b B sh sh' d hb hd hne
      have hB := hr.lt B (hr.bown b B sh hb)
      refine ⟨k1, k2, ?_, k5.keep hle (fun y hy => by rw [hblk B hB]; exact hy) fun m Bm hm => ⟨fun y hy => by rw [hblk Bm (hr.lt Bm (hr.bown m Bm _ hm))] at hy; exact hy, fun _ h => h⟩⟩
      intro j
      cases hj : ρ'.S B j with
      | none => rfl
      | some x => have := hold B j x hB hj; rw [k4 j] at this; cases this
    · intro t B n lim ht hl
      rcases split t _ _ ht hl with ⟨h1, h2, _⟩ | ⟨h1, h2, _⟩
      · obtain ⟨k1, k2, ⟨c, t', k3, k4⟩, k5⟩ := hr.tok t B n lim h1 h2
        have hB := hr.lt B k1
        refine ⟨.inl k1, ?_, ⟨c, t', by rw [hblk B hB]; exact k3, k4⟩, k5⟩
        intro j hj
        cases hjj : ρ'.S B j with
        | none => rfl
        | some x => have := hold B j x hB hjj; rw [k2 j hj] at this; cases this
      · obtain ⟨k1, k2, k3, _⟩ := hr'.tok _ B n lim h1 h2
        refine ⟨.inr k1, k2, k3, fun b sh hb => ?_⟩
        have := hr.lt B (hr.bown b B sh hb)
        have := hnew B k1
        omega
    · intro t t' B n n' lim lim' ht ht' hl hl'
      rcases split t _ _ ht hl with ⟨h1, h2, _⟩ | ⟨h1, h2, h3⟩ <;> rcases split t' _ _ ht' hl' with ⟨g1, g2, _⟩ | ⟨g1, g2, g3⟩
      · exact hr.tinj t t' B n n' lim lim' h1 g1 h2 g2
      · have := hr.lt B (hr.tok t B n lim h1 h2).1
        have := hnew B (hr'.tok _ B n' lim' g1 g2).1
        omega
      · have := hr.lt B (hr.tok t' B n' lim' g1 g2).1
        have := hnew B (hr'.tok _ B n lim h1 h2).1
        omega
      · have := hr'.tinj _ _ B n n' lim lim' h1 g1 h2 g2
        omega
    · intro B hB
      rcases hB with hB | hB
      · exact Nat.lt_of_lt_of_le (hr.lt B hB) he.size
      · exact hr'.lt B hB
  have hext : Ext ρ w ρ'' w' := ⟨hle, he.os, he.tape, he.output, he.size, fun k hk _ => hblk k hk, fun k hk ho => ho.elim id fun h => by have := hnew k h; omega, fun B i x hB hx => .inr (hold B i x hB hx), he.dr⟩
  have hsh : ∀ id x, ρ'.tok[id]? = some x → ρ''.tok[tk.length + id]? = some x := fun id x h => by
    show (ρ.tok ++ ρ'.tok)[tk.length + id]? = some x
    rw [List.getElem?_append_right (by omega), hlT, Nat.add_sub_cancel_left]; exact h
  have hparts : ∃ v1 v2, v = .tuple #[v1, v2] ∧ VV C.sh ρ' v1 a ∧ VV C.sh ρ' v2 (.lst u L t) := by
    cases hvr with
    | pure h => cases h
    | @tup vs _ hl h =>
      match vs, hl with
      | [v1, v2], _ => exact ⟨v1, v2, rfl, h 0 _ _ rfl rfl, h 1 _ _ rfl rfl⟩
  obtain ⟨v1, v2, rfl, hva, hvl⟩ := hparts
  have hva2 : VV C.sh ρ'' v1 a := .pure (show VP C.sh ρ'.S v1 a from vp_of_vv (ρ := ρ') hva hpa)
  have mk : ∀ t2, VV C.sh ρ'' v2 (.lst u L t2) → VV C.sh ρ'' (.tuple #[v1, v2]) (.tup [a, .lst u L t2]) := fun t2 h2 => by
    refine VV.tup (vs := [v1, v2]) rfl fun i c d hc hd => ?_
    match i, hc, hd with
    | 0, hc, hd => cases hc; cases hd; exact hva2
    | 1, hc, hd => cases hc; cases hd; exact h2
  cases t with
  | no => exact hlv.elim
  | full =>
    refine ⟨_, .tup [a, .lst u L .full], _, ρ'', rfl, hext, hrr, mk _ ?_, a, u, L, .full, h'.toks, rfl, rfl, ⟨trivial, trivial⟩, hR⟩
    cases hvl with
    | pure h => exact .pure h
  | own id =>
    have hlv' : h'.toks[id]? = some true := hlv
    refine ⟨_, .tup [a, .lst u L (.own (tk.length + id))], _, ρ'', rfl, hext, hrr, mk _ ?_, a, u, L, .own (tk.length + id), h'.toks, rfl, rfl, ⟨?_, Nat.le_add_right _ _⟩, hR⟩
    · cases hvl with
      | pure h =>
        cases h with
        | nil ht => exact absurd rfl (ht id)
        | lst _ _ _ _ _ _ _ ht => exact absurd rfl (ht id)
      | ownNil h => exact .ownNil (hsh _ _ h)
      | own h hn hv => exact .own (hsh _ _ h) hn hv
    · show (tk ++ h'.toks)[tk.length + id]? = some true
      rw [List.getElem?_append_right (by omega), Nat.add_sub_cancel_left]; exact hlv'
end
end Go.Ab
set_option linter.unusedSimpArgs false
namespace Go.Ab
open Go.Proofs

/-- A function's name, as a closure that holds nothing. -/
def fnD : D → D
  | .lit (.func (.func f) ⟨[]⟩ ⟨[]⟩) => .fn (.func f) []
  | d => d
theorem vv_fnD {T : TypeId → Sh} {ρ : Env} {v : Value} {d : D} (h : VV T ρ v d) : VV T ρ v (fnD d) := by
  unfold fnD
  split
  · cases h with
    | pure h =>
      cases h with
      | lit => exact .fn (caps := []) rfl (by simp)
  · exact h
section
variable {P : Program} {C : Tab}
theorem ASpec.fnA {f : FuncId} {args : List D} {h : Heap} {R : D → Heap → Prop} (hs : ASpec P C f (args.map fnD) h R) : ASpec P C f args h R :=
  ⟨hs.1, fun ρ w vs hr hv => hs.2 ρ w vs hr ⟨by rw [hv.1, List.length_map], fun i c d hc hd => by
    rw [List.getElem?_map, Option.map_eq_some_iff] at hd
    obtain ⟨x, hx, rfl⟩ := hd
    exact vv_fnD (hv.2 i c x hc hx)⟩⟩
theorem HSpec.fnA {f : FuncId} {args args' : List D} {bs : List (Sh × D)} {R : D → List (Sh × D) → Prop} (ha : args.map fnD = args') (hs : HSpec P C f args' bs R) : HSpec P C f args bs R :=
  fun tk => ASpec.fnA (by rw [ha]; exact hs tk)

theorem ASpec.weak {f : FuncId} {args args' : List D} {h : Heap} {R : D → Heap → Prop} (hs : ASpec P C f args' h R) (hw : All2 (fun d d' => ∀ (ρ : Env) (v : Value), VV C.sh ρ v d → VV C.sh ρ v d') args args') : ASpec P C f args h R :=
  ⟨hs.1, fun ρ w vs hr hv => hs.2 ρ w vs hr ⟨by rw [hv.1, hw.1], fun i c d hc hd => by
    obtain ⟨d0, h1, h2⟩ := hw.get hd
    exact h2 ρ c (hv.2 i c d0 hc h1)⟩⟩
/-- A call of what a slot holds, in a drawn region. -/
def callTD (P : Program) (C : Tab) (d : D) (args : List D) (o : Oper) (K : St → Prop) (dst : Option Tmp) (ts : List D) (h : Heap) : Prop :=
  match d with
  | .fn (.func f) caps => callD P C f (args ++ caps) K dst ts h
  | _ => aopD P C o K ⟨ts, h⟩
theorem aopD_callt (K : St → Prop) (dst : Option Tmp) (ty : TypeId) (pos : String) (after : Array Edge) (g : Option (Nat × Bool)) (ts : List D) (h : Heap) (t : Tmp) (args : Array Operand) (at_ : Array TypeId) :
    aopD P C ⟨dst, .call { callee := .value (.tmp t), args := args, argTypes := at_ }, ty, pos, after, g⟩ K ⟨ts, h⟩ =
    callTD P C (ts.getD t (.lit undef)) (argsD C (St.ev ⟨ts, h⟩) args.toList at_.toList) ⟨dst, .call { callee := .value (.tmp t), args := args, argTypes := at_ }, ty, pos, after, g⟩ K dst ts h := by
  unfold callTD
  split
  · rename_i f caps hd
    have hc : calleeOf P C ⟨dst, .call { callee := .value (.tmp t), args := args, argTypes := at_ }, ty, pos, after, g⟩ ⟨ts, h⟩ = some (f, argsD C (St.ev ⟨ts, h⟩) args.toList at_.toList ++ caps) := by
      have he : St.ev ⟨ts, h⟩ (.tmp t) = .fn (.func f) caps := hd
      simp only [calleeOf, he]
    simp only [aopD, hc, callD]
  · rfl
theorem callTD_fn (f : FuncId) (caps : List D) (args : List D) (o : Oper) (K : St → Prop) (dst : Option Tmp) (ts : List D) (h : Heap) : callTD P C (.fn (.func f) caps) args o K dst ts h = callD P C f (args ++ caps) K dst ts h := Eq.trans rfl rfl
attribute [go_sem] aopD_callt callTD_fn

/-- A call whose result is a slice that is written no more. -/
theorem ASpec.freezeSl {f : FuncId} {args : List D} {h : Heap} {R Q : D → Heap → Prop} (hs : ASpec P C f args h R)
    (hr : ∀ r h', R r h' → Q r h' ∨ ∃ u b lo n c N s L, r = .sl u b lo n c ∧ h'.boxes[b]? = some (.arr N s, .agg L) ∧ (∀ d ∈ (L.drop lo).take n, pureD d) ∧ Q (.lst u ((L.drop lo).take n) .no) { h' with boxes := h'.boxes.set b (.obj 0, .tup []) }) : ASpec P C f args h Q := by
  refine ⟨hs.1, fun ρ w vs hreal ha => (hs.2 ρ w vs hreal ha).mono fun e w' ⟨v, r, h', ρ', h1, h2, h3, h4, h5⟩ => ?_⟩
  rcases hr r h' h5 with h6 | ⟨u, b, lo, n, c, N, s, L, rfl, h6, h7, h8⟩
  · exact ⟨v, r, h', ρ', h1, h2, h3, h4, h6⟩
  · obtain ⟨ρ2, k1, k2, k3⟩ := freeze_real h3 h4 h6 h7
    exact ⟨v, _, _, ρ2, h1, h2.trans k1, k2, k3, h8⟩
/-- A slice of the call's own that is frozen. -/
theorem ASpec.freezeM {f : FuncId} {args : List D} {base : List (Sh × D)} {tk : List Bool} {h : Heap} {e : TypeId} {l : List D} (hs : ASpec P C f args h fun r h' => ∃ ex', h' = ⟨base ++ ex', tk⟩ ∧ OutM e base.length r ex' l) (hp : pureL l) :
    ASpec P C f args h fun r h' => r = .lst e l .no ∧ ∃ ex', h' = ⟨base ++ ex', tk⟩ ∧ ∀ N s L, (Sh.arr N s, D.agg L) ∈ ex' → pureL L := by
  refine hs.freezeSl ?_
  rintro r h' ⟨ex', rfl, ho⟩
  rcases ho with ⟨rfl, rfl, rfl⟩ | ⟨j, N, L, rfl, hj, hL, hlN, hN, hlL, hpu⟩
  · exact .inl ⟨rfl, [], by simp, by simp⟩
  · refine .inr ⟨e, base.length + j, 0, l.length, N, N, _, L, rfl, by simp only [List.getElem?_append_right (Nat.le_add_right _ _), Nat.add_sub_cancel_left]; exact hj, ?_, ?_⟩
    · intro d hd
      rw [List.drop_zero, hlL] at hd
      have : ∀ {l : List D}, pureL l → d ∈ l → pureD d := by
        intro l h hd
        induction l with
        | nil => cases hd
        | cons x r ih =>
          rcases List.mem_cons.1 hd with rfl | hd
          · exact h.1
          · exact ih h.2 hd
      exact this hp hd
    · rw [List.drop_zero, hlL]
      refine ⟨rfl, ex'.set j (.obj 0, .tup []), ?_, ?_⟩
      · simp only
        rw [List.set_append_right _ _ (by omega), Nat.add_sub_cancel_left]
      · intro N s L hm
        rcases List.mem_or_eq_of_mem_set hm with h' | h'
        · exact hpu N s L h'
        · cases h'

theorem aopsN_append {ops : Array Oper} {Q : St → Prop} : ∀ (a b : List Nat) (s : St), aopsN P C ops Q (a ++ b) s = aopsN P C ops (aopsN P C ops Q b) a s
  | [], _, _ => rfl
  | i :: a, b, s => by
    have ih : aopsN P C ops Q (a ++ b) = aopsN P C ops (aopsN P C ops Q b) a := funext fun s => aopsN_append a b s
    simp only [List.cons_append, aopsN, ih]
def okLast (ops : Array Oper) (pre : List Nat) (c : Nat) : Bool :=
  downTo .any ops (fun j => j) &&
  (!Region.departs ops || (downTo .text ops (fun j => j) && (let g := Region.linearise .gc ops 0; downTo .gc ops fun j => g.idxOf j))) &&
  (pre ++ [c]).isPerm (List.range ops.size) &&
  pre.all (preOk ops) &&
  decide (pre.Pairwise fun k j => (((Region.before ops).getD j 0).testBit k || indep ops k j) = true) &&
  decide (pre.Pairwise fun k j => dstOf ops k ≠ dstOf ops j) &&
  pre.all (fun p => ((Region.before ops).getD c 0).testBit p)
/-- A region whose order is open, but that one operation comes behind all others. -/
theorem drawN_last {l : List Oper} {Q : St → Prop} {ts : List D} {h : Heap} (pre : List Nat) (c : Nat) (hok : okLast l.toArray pre c = true)
    (h1 : aopsD P C l.toArray (fun s1 => aopsN P C l.toArray Q [c] s1) (pickL l pre) ⟨ts, h⟩) : drawN P C l.toArray Q ⟨ts, h⟩ := by
  refine .inr (.inr (.inr (.inr fun mixed t => ?_)))
  simp only [okLast, Bool.and_eq_true, Bool.or_eq_true, Bool.not_eq_true', decide_eq_true_eq] at hok
  obtain ⟨⟨⟨⟨⟨⟨hany, hmodes⟩, hperm⟩, hpre⟩, hpp⟩, hdd⟩, hpc⟩ := hok
  obtain ⟨y, hy, g2, hnd, hbef⟩ := sched_facts hany hmodes mixed t
  have hperm := List.isPerm_iff.1 hperm
  have hprel : ∀ p ∈ pre, p < l.toArray.size := fun p hp => List.mem_range.1 (hperm.subset (by simp [hp]))
  have hcl : c < l.toArray.size := List.mem_range.1 (hperm.subset (by simp))
  have hyp : y.Perm (pre ++ [c]) := g2.trans hperm.symm
  have hndp : (pre ++ [c]).Nodup := hyp.nodup_iff.1 hnd
  obtain ⟨u, v, rfl⟩ := List.append_of_mem (hyp.symm.subset (show c ∈ pre ++ [c] by simp))
  have hvn : v = [] := by
    cases v with
    | nil => rfl
    | cons w v =>
      exfalso
      have hw : w ∈ pre := by
        have := hyp.subset (show w ∈ u ++ c :: w :: v by simp)
        rcases List.mem_append.1 this with h | h
        · exact h
        · rw [List.mem_singleton] at h; subst h
          have := (List.nodup_append.1 hnd).2.1
          simp at this
      have hwu := hbef w c (List.all_eq_true.1 hpc w hw) hcl u (w :: v) rfl
      exact (List.nodup_append.1 hnd).2.2 w hwu w (by simp) rfl
  subst hvn
  have hup : u.Perm (pre ++ []) := by
    rw [List.append_nil]
    exact (List.perm_append_right_iff [c]).1 hyp
  rw [hy, aopsN_append]
  rw [← pickL_eq] at h1
  obtain ⟨⟨ts1, h1h⟩, hr, hk⟩ := aopsD_run _ pre rfl hprel h1
  have hh : h1h = h := (runD_tmps pre (fun p hp => List.all_eq_true.1 hpre p hp) hr).1
  subst hh
  refine stores_sound (Good := fun g => g = h1h) (ts1 := ts1) (fun k j => ((Region.before l.toArray).getD j 0).testBit k = true) u pre [] ts h1h hup (List.nodup_append.1 hnd).1 ?_ (fun p hp => ⟨hprel p hp, List.all_eq_true.1 hpre p hp⟩) hpp hdd (by simp) (by simp) (by simp) ?_ ⟨rfl, hk⟩
  · intro k j hb x z e hkz
    have hjl : j < l.toArray.size := List.mem_range.1 (g2.subset (by rw [e]; simp))
    have hkx := hbef k j hb hjl x (z ++ [c]) (by rw [e]; simp)
    have := (List.nodup_append.1 hnd).1
    rw [e] at this
    exact (List.nodup_append.1 this).2.2 k hkx k (by simp [hkz]) rfl
  · rintro g rfl
    exact hr
end
end Go.Ab
set_option linter.unusedSimpArgs false
namespace Go.Ab
open Go.Proofs

abbrev intsL (l : List Int) (t : Tok) : D := .lst 3 (l.map fun n => .lit (.int .i64 n)) t


end Go.Ab
set_option linter.unusedSimpArgs false
namespace Go.Ab
open Go.Proofs



end Go.Ab
