/- Messages of any kind: their data. Conditions: none. -/
import Derived.Test.YtjafmlbcjhoflaaGreatOvL
import Derived.Test.YtjafmlbcjhoflaaGreatTxI
open Nat (reduceAdd reduceSub reduceMul reduceLT reduceLeDiff reduceEqDiff)
open Int (reduceToNat reduceLE reduceEq)
set_option linter.unusedSimpArgs false
namespace Go.Ab
open Go.Proofs

/-- What holds behind a code that comes to its end. -/
def thenI (I : Nat → St → Prop) (n : Nat) : AExit → St → Prop
  | .normal, s => I n s
  | _, _ => False
theorem thenI_normal (I : Nat → St → Prop) (n : Nat) (s : St) : thenI I n .normal s = I n s := Eq.trans rfl rfl
attribute [go_sem] thenI_normal
/-- A code in two parts: what holds between them. -/
theorem awp_cut {P : Program} {C : Tab} {a b : Code} {Q : AExit → St → Prop} {s : St} (I : Nat → St → Prop) (n : Nat) (h1 : awp P C a (thenI I n) s) (h2 : ∀ s', I n s' → awp P C b Q s') : awp P C (.seq a b) Q s := by
  show awp P C a (AExit.then (awp P C b Q) Q) s
  refine awp_mono (fun e s' h => ?_) h1
  cases e with
  | normal => exact h2 s' h
  | exit i => exact absurd h (by simp [thenI])
  | ret => exact absurd h (by simp [thenI])
/-- A tree. -/
inductive TreeM where
  | nd (n : Int) (ks : List TreeM)
def TreeM.num : TreeM → Int
  | .nd n _ => n
def TreeM.kids : TreeM → List TreeM
  | .nd _ ks => ks
mutual
def treeD : TreeM → D
  | .nd n ks => .agg [.lit (.int .i64 n), .lst 41 (treesD ks) .no]
def treesD : List TreeM → List D
  | [] => []
  | t :: r => treeD t :: treesD r
end
theorem treeD_nd (n : Int) (ks : List TreeM) : treeD (.nd n ks) = .agg [.lit (.int .i64 n), .lst 41 (treesD ks) .no] := by rw [treeD]
theorem treesD_map : ∀ ks : List TreeM, treesD ks = ks.map treeD
  | [] => by rw [treesD]; rfl
  | t :: r => by rw [treesD, treesD_map r]; rfl
theorem treeD_eq (t : TreeM) : treeD t = .agg [.lit (.int .i64 t.num), .lst 41 (t.kids.map treeD) .no] := by
  cases t with
  | nd n ks => rw [treeD_nd, treesD_map]; rfl
theorem treeD_z : treeD (.nd 0 []) = zTree .no := by rw [treeD_eq]; rfl
mutual
/-- No node of a tree has too many kids. -/
def treeOk : TreeM → Prop
  | .nd _ ks => ks.length ≤ maxLen ∧ treesOk ks
def treesOk : List TreeM → Prop
  | [] => True
  | t :: r => treeOk t ∧ treesOk r
end
theorem treesOk_of : ∀ {ks : List TreeM}, (∀ t ∈ ks, treeOk t) → treesOk ks
  | [], _ => by rw [treesOk]; trivial
  | t :: r, h => by rw [treesOk]; exact ⟨h t (by simp), treesOk_of fun x hx => h x (by simp [hx])⟩
theorem treesOk_mem : ∀ {ks : List TreeM}, treesOk ks → ∀ t ∈ ks, treeOk t
  | [], _, t, ht => absurd ht (by simp)
  | x :: r, h, t, ht => by
    rw [treesOk] at h
    rcases List.mem_cons.1 ht with rfl | ht
    · exact h.1
    · exact treesOk_mem h.2 t ht
theorem treeOk_kids {t : TreeM} (h : treeOk t) : t.kids.length ≤ maxLen ∧ ∀ x ∈ t.kids, treeOk x := by
  cases t with
  | nd n ks => rw [treeOk] at h; exact ⟨h.1, treesOk_mem h.2⟩
theorem erase_tree (t : TreeM) : erase (treeD t) = treeD t := by rw [treeD_eq]; simp only [erase_agg, List.map_cons, List.map_nil, erase_lit, erase_lst]
mutual
theorem pure_tree : ∀ t : TreeM, pureD (treeD t) = True
  | .nd n ks => by
    rw [treeD_nd]
    have := pure_trees ks
    simp only [pureD, pureL, this, and_true, and_self]
theorem pure_trees : ∀ ks : List TreeM, pureL (treesD ks) = True
  | [] => by simp [treesD, pureL]
  | t :: r => by rw [treesD]; simp only [pureL, pure_tree t, pure_trees r, and_self]
end
theorem inv_tree_n : ∀ (k : Nat) (d : D), SizeOf.sizeOf d < k → HasTy CT 41 d → ∃ t : TreeM, d = treeD t ∧ treeOk t
  | 0, _, hk, _ => absurd hk (Nat.not_lt_zero _)
  | k + 1, d, hk, h => by
    obtain ⟨l, rfl, hl⟩ := h.inv_struct ty41
    have hlen := hl.1
    match l, hl with
    | [x, y], hl =>
      obtain ⟨hx, hl⟩ := hl.head
      obtain ⟨hy, _⟩ := hl.head
      obtain ⟨n, rfl, _⟩ := hx.inv_i64 ty3
      obtain ⟨ks, rfl, hl2, hq⟩ := hy.inv_slice ty39
      obtain ⟨m, rfl, hm⟩ := all_of (enc := treeD) (Q := treeOk) fun x hx => by
        have h1 := List.sizeOf_lt_of_mem hx
        exact inv_tree_n k x (by simp at hk; omega) (hq x hx)
      exact ⟨.nd n m, by rw [treeD_nd, treesD_map], by rw [treeOk]; exact ⟨by simpa using hl2, treesOk_of hm⟩⟩
    | [], hl => exact absurd hlen (by simp)
    | [_], hl => exact absurd hlen (by simp)
    | _ :: _ :: _ :: _, hl => exact absurd hlen (by simp)
theorem inv_tree (d : D) (h : HasTy CT 41 d) : ∃ t : TreeM, d = treeD t ∧ treeOk t := inv_tree_n _ d (Nat.lt_succ_self _) h
/-- A message's data, whatever it is. -/
structure GMsg where
  kind : Int
  from_ : Int
  to : Int
  tx : TxR
  vec : List Int
  row : List Int
  flag : Bool
  num : Int
  n : Int
  of_ : Int
  data : List Int
  id : TreeM
  ev : TreeM
  peers : List Int
abbrev bytesD (l : List Int) : D := .lst 5 (l.map fun n => .lit (.int .u8 n)) .no
abbrev rawG (g : GMsg) : D := .agg [.lit (.int .i64 g.kind), .lit (.int .i64 g.from_), .lit (.int .i64 g.to), txD g.tx, ints g.vec, ints g.row, .lit (.bool g.flag), .lit (.int .i64 g.num), .lit (.int .i64 g.n), .lit (.int .i64 g.of_), bytesD g.data, .agg [treeD g.id, treeD g.ev], intsL g.peers .no]
def gOf (m : MsgM) : GMsg := ⟨m.kind, m.from_, m.to, t0Z, zeros 13, zeros 13, m.flag, 0, m.n, m.of_, [], .nd 0 [], .nd 0 [], m.peers⟩
theorem raw_gOf (m : MsgM) : rawG (gOf m) = rawM .no .no m := by
  show D.agg _ = D.agg _
  simp only [gOf, treeD_z]
  rfl
def GOk (g : GMsg) : Prop := g.tx.deps.length = 13 ∧ g.vec.length = 13 ∧ g.row.length = 13 ∧ g.tx.ops.length ≤ maxLen ∧ g.data.length ≤ maxLen ∧ g.peers.length ≤ maxLen ∧ treeOk g.id ∧ treeOk g.ev
theorem all2_cons {α β : Type} {R : α → β → Prop} {c : α} {cs : List α} {l : List β} (h : All2 R (c :: cs) l) : ∃ d r, l = d :: r ∧ R c d ∧ All2 R cs r := by
  match l, h with
  | [], h => exact absurd h.1 (by simp)
  | d :: r, h => exact ⟨d, r, rfl, h.head.1, h.head.2⟩
theorem all2_nil {α β : Type} {R : α → β → Prop} {l : List β} (h : All2 R [] l) : l = [] := List.eq_nil_of_length_eq_zero h.1.symm
theorem inv_stamp {d : D} (h : HasTy CT 43 d) : ∃ a b : TreeM, d = .agg [treeD a, treeD b] ∧ treeOk a ∧ treeOk b := by
  obtain ⟨l, rfl, hl⟩ := h.inv_struct ty43
  obtain ⟨x, l, rfl, hx, hl⟩ := all2_cons hl
  obtain ⟨y, l, rfl, hy, hl⟩ := all2_cons hl
  obtain rfl := all2_nil hl
  obtain ⟨a, rfl, ha⟩ := inv_tree x hx
  obtain ⟨b, rfl, hb⟩ := inv_tree y hy
  exact ⟨a, b, rfl, ha, hb⟩
theorem inv_msg {d : D} (h : HasTy CT 45 d) : ∃ g : GMsg, d = rawG g ∧ GOk g := by
  obtain ⟨l, rfl, hl⟩ := h.inv_struct ty45
  obtain ⟨x1, l, rfl, h1, hl⟩ := all2_cons hl
  obtain ⟨x2, l, rfl, h2, hl⟩ := all2_cons hl
  obtain ⟨x3, l, rfl, h3, hl⟩ := all2_cons hl
  obtain ⟨x4, l, rfl, h4, hl⟩ := all2_cons hl
  obtain ⟨x5, l, rfl, h5, hl⟩ := all2_cons hl
  obtain ⟨x6, l, rfl, h6, hl⟩ := all2_cons hl
  obtain ⟨x7, l, rfl, h7, hl⟩ := all2_cons hl
  obtain ⟨x8, l, rfl, h8, hl⟩ := all2_cons hl
  obtain ⟨x9, l, rfl, h9, hl⟩ := all2_cons hl
  obtain ⟨y1, l, rfl, k1, hl⟩ := all2_cons hl
  obtain ⟨y2, l, rfl, k2, hl⟩ := all2_cons hl
  obtain ⟨y3, l, rfl, k3, hl⟩ := all2_cons hl
  obtain ⟨y4, l, rfl, k4, hl⟩ := all2_cons hl
  obtain rfl := all2_nil hl
  obtain ⟨kind, rfl, _⟩ := h1.inv_i64 ty3
  obtain ⟨from_, rfl, _⟩ := h2.inv_i64 ty3
  obtain ⟨to, rfl, _⟩ := h3.inv_i64 ty3
  obtain ⟨tx, rfl, t1, t2⟩ := inv_tx h4
  obtain ⟨vec, rfl, v1, _⟩ := h5.inv_ints ty34 ty3
  obtain ⟨row, rfl, r1, _⟩ := h6.inv_ints ty34 ty3
  obtain ⟨flag, rfl⟩ := h7.inv_bool ty4
  obtain ⟨num, rfl, _⟩ := h8.inv_i64 ty3
  obtain ⟨n, rfl, _⟩ := h9.inv_i64 ty3
  obtain ⟨of_, rfl, _⟩ := k1.inv_i64 ty3
  obtain ⟨bs, rfl, b1, b2⟩ := k2.inv_slice ty38
  obtain ⟨data, rfl, _⟩ := all_of (enc := fun n : Int => D.lit (.int .u8 n)) (Q := fun _ => True) fun x hx => by
    obtain ⟨n, hn, _⟩ := (b2 x hx).inv_int ty5
    exact ⟨n, hn, trivial⟩
  obtain ⟨id, ev, rfl, o1, o2⟩ := inv_stamp k3
  obtain ⟨peers, rfl, p1, _⟩ := k4.inv_intList ty22 ty3
  exact ⟨⟨kind, from_, to, tx, vec, row, flag, num, n, of_, data, id, ev, peers⟩, rfl, t1, v1, r1, t2, by simpa using b1, p1, o1, o2⟩
end Go.Ab
set_option linter.unusedSimpArgs false
namespace Go.Ab
open Go.Proofs

theorem len0 {α : Type} (l : List α) : decide (((0 : Nat) : Int) = (l.length : Int)) = l.isEmpty := by cases l <;> simp; omega
theorem equal_ops0 (l : List OpR) : PSpec Tryz.prog CT 100 [.lst 89 [] .no, opsD l] (· = .bool l.isEmpty) := by
  refine PSpec.of hT Tryz.func100 rfl (by kernel_rfl) rfl rfl ?_
  simp only [Tryz.f100, go_sem, reduceAdd, reduceSub, reduceMul, reduceLT, reduceLeDiff, ↓reduceIte, reduceCtorEq, reduceEqDiff, reduceToNat, Int.reduceLT, reduceLE, reduceEq, List.length_nil, List.length_map, len0]
  refine condK_split (fun h1 => ?_) (fun h1 => ?_)
  · have : l.isEmpty = false := by simpa using h1
    simp only [go_sem, reduceAdd, reduceSub, reduceMul, reduceLT, reduceLeDiff, ↓reduceIte, reduceCtorEq, reduceEqDiff, reduceToNat, Int.reduceLT, reduceLE, reduceEq, this]
  · have h2 : l.isEmpty = true := by simpa using h1
    simp only [go_sem, reduceAdd, reduceSub, reduceMul, reduceLT, reduceLeDiff, ↓reduceIte, reduceCtorEq, reduceEqDiff, reduceToNat, Int.reduceLT, reduceLE, reduceEq, h2, List.length_nil, Int.natCast_zero, Int.cast_ofNat_Int]
    refine awp_loop (fun n s => ∃  (g : Nat → D), s = ⟨[g 0, g 1, g 2, g 3, g 4, g 5, g 6, g 7, g 8, g 9, g 10, g 11, .lit (.int .i64 0), .lit (.int .i64 0), g 14, g 15, g 16, g 17, g 18, g 19, g 20, g 21, g 22, g 23, g 24, g 25], ⟨[], []⟩⟩ ∧ n = 0) 0 (reg_intro rfl rfl (rfl)) ?_
    rintro n st ⟨g, rfl, hn⟩
    simp only [go_sem, reduceAdd, reduceSub, reduceMul, reduceLT, reduceLeDiff, ↓reduceIte, reduceCtorEq, reduceEqDiff, reduceToNat, Int.reduceLT, reduceLE, reduceEq, Int.reduceLT, decide_false]
theorem equal_bytes0 (l : List Int) : PSpec Tryz.prog CT 102 [.lst 5 [] .no, bytesD l] (· = .bool l.isEmpty) := by
  refine PSpec.of hT Tryz.func102 rfl (by kernel_rfl) rfl rfl ?_
  simp only [Tryz.f102, go_sem, reduceAdd, reduceSub, reduceMul, reduceLT, reduceLeDiff, ↓reduceIte, reduceCtorEq, reduceEqDiff, reduceToNat, Int.reduceLT, reduceLE, reduceEq, List.length_nil, List.length_map, len0]
  refine condK_split (fun h1 => ?_) (fun h1 => ?_)
  · have : l.isEmpty = false := by simpa using h1
    simp only [go_sem, reduceAdd, reduceSub, reduceMul, reduceLT, reduceLeDiff, ↓reduceIte, reduceCtorEq, reduceEqDiff, reduceToNat, Int.reduceLT, reduceLE, reduceEq, this]
  · have h2 : l.isEmpty = true := by simpa using h1
    simp only [go_sem, reduceAdd, reduceSub, reduceMul, reduceLT, reduceLeDiff, ↓reduceIte, reduceCtorEq, reduceEqDiff, reduceToNat, Int.reduceLT, reduceLE, reduceEq, h2, List.length_nil, Int.natCast_zero, Int.cast_ofNat_Int]
    refine awp_loop (fun n s => ∃  (g : Nat → D), s = ⟨[g 0, g 1, g 2, g 3, g 4, g 5, g 6, g 7, g 8, g 9, g 10, g 11, .lit (.int .i64 0), .lit (.int .i64 0), g 14, g 15, g 16, g 17, g 18, g 19, g 20, g 21, g 22, g 23, g 24, g 25], ⟨[], []⟩⟩ ∧ n = 0) 0 (reg_intro rfl rfl (rfl)) ?_
    rintro n st ⟨g, rfl, hn⟩
    simp only [go_sem, reduceAdd, reduceSub, reduceMul, reduceLT, reduceLeDiff, ↓reduceIte, reduceCtorEq, reduceEqDiff, reduceToNat, Int.reduceLT, reduceLE, reduceEq, Int.reduceLT, decide_false]
theorem equal_trees0 (l : List TreeM) : PSpec Tryz.prog CT 122 [.lst 41 [] .no, .lst 41 (l.map treeD) .no, .lit (.func (.func 101) #[] #[])] (· = .bool l.isEmpty) := by
  refine PSpec.of hT Tryz.func122 rfl (by kernel_rfl) rfl rfl ?_
  simp only [Tryz.f122, go_sem, reduceAdd, reduceSub, reduceMul, reduceLT, reduceLeDiff, ↓reduceIte, reduceCtorEq, reduceEqDiff, reduceToNat, Int.reduceLT, reduceLE, reduceEq, List.length_nil, List.length_map, len0]
  refine condK_split (fun h1 => ?_) (fun h1 => ?_)
  · have : l.isEmpty = false := by simpa using h1
    simp only [go_sem, reduceAdd, reduceSub, reduceMul, reduceLT, reduceLeDiff, ↓reduceIte, reduceCtorEq, reduceEqDiff, reduceToNat, Int.reduceLT, reduceLE, reduceEq, this]
  · have h2 : l.isEmpty = true := by simpa using h1
    simp only [go_sem, reduceAdd, reduceSub, reduceMul, reduceLT, reduceLeDiff, ↓reduceIte, reduceCtorEq, reduceEqDiff, reduceToNat, Int.reduceLT, reduceLE, reduceEq, h2, List.length_nil, Int.natCast_zero, Int.cast_ofNat_Int]
    refine awp_loop (fun n s => ∃  (g : Nat → D), s = ⟨[g 0, g 1, g 2, g 3, g 4, g 5, g 6, g 7, g 8, g 9, g 10, g 11, g 12, g 13, g 14, g 15, .lit (.int .i64 0), .lit (.int .i64 0), g 18, g 19, g 20, g 21, g 22, g 23, g 24, g 25, g 26, g 27, g 28, g 29, g 30, g 31], ⟨[], []⟩⟩ ∧ n = 0) 0 (reg_intro rfl rfl (rfl)) ?_
    rintro n st ⟨g, rfl, hn⟩
    simp only [go_sem, reduceAdd, reduceSub, reduceMul, reduceLT, reduceLeDiff, ↓reduceIte, reduceCtorEq, reduceEqDiff, reduceToNat, Int.reduceLT, reduceLE, reduceEq, Int.reduceLT, decide_false]
theorem equal_ints2 (a b : List Int) (ha : a.length < 4000000000) : PSpec Tryz.prog CT 103 [intsL a .no, intsL b .no] (· = .bool (decide (a = b))) := by
  refine PSpec.of hT Tryz.func103 rfl (by kernel_rfl) rfl rfl ?_
  simp only [Tryz.f103, go_sem, reduceAdd, reduceSub, reduceMul, reduceLT, reduceLeDiff, ↓reduceIte, reduceCtorEq, reduceEqDiff, reduceToNat, Int.reduceLT, reduceLE, reduceEq]
  refine condK_split (fun hc => ?_) (fun hc => ?_)
  · have : a ≠ b := by rintro rfl; simp at hc
    simp only [go_sem, reduceAdd, reduceSub, reduceMul, reduceLT, reduceLeDiff, ↓reduceIte, reduceCtorEq, reduceEqDiff, reduceToNat, Int.reduceLT, reduceLE, reduceEq, decide_eq_false this]
  · have hl : a.length = b.length := by simp only [Bool.not_eq_false', decide_eq_true_eq] at hc; omega
    simp only [go_sem, reduceAdd, reduceSub, reduceMul, reduceLT, reduceLeDiff, ↓reduceIte, reduceCtorEq, reduceEqDiff, reduceToNat, Int.reduceLT, reduceLE, reduceEq]
    refine awp_loop (fun n s => ∃ (k : Nat) (g : Nat → D), s = ⟨[intsL a .no, intsL b .no, g 2, g 3, g 4, g 5, g 6, g 7, g 8, g 9, g 10, g 11, .lit (.int .i64 a.length), .lit (.int .i64 k), g 14, g 15, g 16, g 17, g 18, g 19, g 20, g 21, g 22, g 23, g 24, g 25], ⟨[], []⟩⟩ ∧ n = a.length - k ∧ k ≤ a.length ∧ ∀ p, p < k → a.getD p 0 = b.getD p 0) a.length ⟨0, reg_intro rfl rfl ⟨by simp, by omega, by simp⟩⟩ ?_
    rintro n st ⟨k, g, rfl, hn, hk, hp⟩
    simp only [go_sem, reduceAdd, reduceSub, reduceMul, reduceLT, reduceLeDiff, ↓reduceIte, reduceCtorEq, reduceEqDiff, reduceToNat, Int.reduceLT, reduceLE, reduceEq]
    refine condK_split (fun hc => ?_) (fun hc => ?_)
    · have hk' : k < a.length := by have := of_decide_eq_true hc; omega
      have hk2 : k < b.length := by omega
      simp only [go_sem, reduceAdd, reduceSub, reduceMul, reduceLT, reduceLeDiff, ↓reduceIte, reduceCtorEq, reduceEqDiff, reduceToNat, Int.reduceLT, reduceLE, reduceEq, hk', hk2]
      refine .inl ⟨by kernel_rfl, ?_⟩
      refine condK_split (fun h1 => ?_) (fun h1 => ?_)
      · have : a ≠ b := by rintro rfl; simp at h1
        simp only [go_sem, reduceAdd, reduceSub, reduceMul, reduceLT, reduceLeDiff, ↓reduceIte, reduceCtorEq, reduceEqDiff, reduceToNat, Int.reduceLT, reduceLE, reduceEq, decide_eq_false this]
      · simp only [Bool.not_eq_false', decide_eq_true_eq] at h1
        simp only [go_sem, reduceAdd, reduceSub, reduceMul, reduceLT, reduceLeDiff, ↓reduceIte, reduceCtorEq, reduceEqDiff, reduceToNat, Int.reduceLT, reduceLE, reduceEq, wrapNat k (by omega)]
        refine ⟨a.length - (k + 1), by omega, k + 1, reg_intro rfl rfl ⟨rfl, by omega, fun p h => ?_⟩⟩
        by_cases hpk : p = k
        · subst hpk; exact h1
        · exact hp p (by omega)
    · have hi := of_decide_eq_false hc
      obtain rfl : k = a.length := by omega
      have : a = b := List.ext_getElem hl fun i h1 h2 => by
        have := hp i h1
        simpa [List.getD_eq_getElem?_getD, h1, h2] using this
      simp only [go_sem, reduceAdd, reduceSub, reduceMul, reduceLT, reduceLeDiff, ↓reduceIte, reduceCtorEq, reduceEqDiff, reduceToNat, Int.reduceLT, reduceLE, reduceEq, decide_eq_true this]
def bareT (t : TreeM) : Bool := decide (0 = t.num) && t.kids.isEmpty
theorem msg_same0 (t : TreeM) : PSpec Tryz.prog CT 101 [zTree .no, treeD t] (· = .bool (bareT t)) := by
  refine PSpec.of hT Tryz.func101 rfl (by kernel_rfl) rfl rfl ?_
  rw [treeD_eq]
  simp only [Tryz.f101, go_sem, reduceAdd, reduceSub, reduceMul, reduceLT, reduceLeDiff, ↓reduceIte, reduceCtorEq, reduceEqDiff, reduceToNat, Int.reduceLT, reduceLE, reduceEq, bareT]
  refine guardK_split (fun h1 => ?_) (fun h1 => ?_)
  · simp only [go_sem, reduceAdd, reduceSub, reduceMul, reduceLT, reduceLeDiff, ↓reduceIte, reduceCtorEq, reduceEqDiff, reduceToNat, Int.reduceLT, reduceLE, reduceEq, h1, Bool.true_and]
    refine callK_pure (equal_trees0 t.kids) (by first | rfl | (simp only [go_sem, erase_map _ _ erase_tree]; done)) (by first | (simp only [go_sem, erase_map _ _ erase_tree]; done) | (simp [pureL, pureD]; done)) ?_
    simp only [go_sem, reduceAdd, reduceSub, reduceMul, reduceLT, reduceLeDiff, ↓reduceIte, reduceCtorEq, reduceEqDiff, reduceToNat, Int.reduceLT, reduceLE, reduceEq, h1, Bool.true_and]
  · simp only [go_sem, reduceAdd, reduceSub, reduceMul, reduceLT, reduceLeDiff, ↓reduceIte, reduceCtorEq, reduceEqDiff, reduceToNat, Int.reduceLT, reduceLE, reduceEq, h1, Bool.false_and]
end Go.Ab
set_option linter.unusedSimpArgs false
namespace Go.Ab
open Go.Proofs

theorem reg0 {ts : List D} {h h' : Heap} {F : (Nat → D) → List D} (e : ts = F fun k => ts.getD k (.lit undef)) (e2 : h = h') : ∃ g : Nat → D, (⟨ts, h⟩ : St) = ⟨F g, h'⟩ :=
  ⟨fun k => ts.getD k (.lit undef), by rw [← e, e2]⟩
theorem sh_tree (t : TreeM) : hasSh (.pair .leaf (.pair .leaf .unit)) (treeD t) = True := by
  rw [treeD_eq]; simp only [go_sem, reduceAdd, reduceSub, reduceMul, reduceLT, reduceLeDiff, ↓reduceIte, reduceCtorEq, reduceEqDiff, reduceToNat, Int.reduceLT, reduceLE, reduceEq]
theorem nrm_tree (t : TreeM) : nrm CT 41 (treeD t) = treeD t := by
  rw [treeD_eq]; simp only [go_sem, reduceAdd, reduceSub, reduceMul, reduceLT, reduceLeDiff, ↓reduceIte, reduceCtorEq, reduceEqDiff, reduceToNat, Int.reduceLT, reduceLE, reduceEq]
def tB (g : GMsg) : Bool := decide (0 = g.tx.peer) && decide (0 = g.tx.seq) && decide (zeros 13 = g.tx.deps) && decide (0 = g.tx.time) && g.tx.ops.isEmpty
def vB (x : MsgM) (g : GMsg) : Bool := decide (zeros 13 = g.vec) && decide (zeros 13 = g.row) && (x.flag == g.flag)
def nB (x : MsgM) (g : GMsg) : Bool := decide (x.kind = g.kind) && decide (x.from_ = g.from_) && decide (x.to = g.to) && decide (0 = g.num) && decide (x.n = g.n) && decide (x.of_ = g.of_)
def sB (g : GMsg) : Bool := bareT g.id && bareT g.ev
def alikeB (x : MsgM) (g : GMsg) : Bool := tB g && vB x g && nB x g && sB g && g.data.isEmpty && decide (x.peers = g.peers)
set_option maxRecDepth 8000 in
set_option maxHeartbeats 8000000 in
theorem msg_alikeG (x : MsgM) (y : GMsg) (hg : GOk y) (hx : x.peers.length < 4000000000) : PSpec Tryz.prog CT 67 [rawM .no .no x, rawG y] (· = .bool (alikeB x y)) := by
  obtain ⟨d1, d2, d3, _⟩ := hg
  refine PSpec.of hT Tryz.func67 rfl (by kernel_rfl) rfl rfl ?_
  simp only [Tryz.f67]
  have e1 := eqB_vec (zeros 13) y.tx.deps
  have e2 := eqB_vec (zeros 13) y.vec
  have e3 := eqB_vec (zeros 13) y.row
  refine awp_cut (fun n s => ∃  (g : Nat → D), s = ⟨[g 0, g 1, .ptr 0 [], .ptr 1 [], g 4, g 5, g 6, g 7, g 8, g 9, g 10, g 11, g 12, g 13, g 14, g 15, g 16, g 17, g 18, g 19, g 20, g 21, g 22, g 23, g 24, g 25, g 26, g 27, g 28, g 29, g 30, g 31, g 32, g 33, g 34, g 35, g 36, g 37, g 38, g 39, g 40, g 41, g 42, g 43, g 44, g 45, g 46, g 47, g 48, g 49, g 50, g 51, g 52, g 53, g 54, g 55, g 56, g 57, g 58, g 59, g 60, g 61, g 62, g 63, g 64, g 65, g 66, g 67, g 68, g 69, g 70, g 71, g 72, g 73, g 74, g 75, g 76, g 77, g 78, g 79, g 80, g 81, g 82, g 83, g 84, g 85, g 86, g 87, g 88, g 89, g 90, g 91, g 92, g 93, g 94, g 95, g 96, g 97, g 98, g 99, g 100, g 101, g 102, g 103, g 104, g 105, g 106, g 107, g 108, g 109, g 110, g 111, g 112, g 113, g 114, g 115, g 116, g 117, g 118, g 119, g 120, g 121, g 122, g 123, g 124, g 125, g 126, g 127, g 128, g 129, g 130, g 131, g 132, g 133, g 134, g 135, g 136, g 137, g 138, g 139, g 140, g 141], ⟨[(msgSh, rawM .no .no x), (msgSh, rawG y)], []⟩⟩ ∧ n = 0) 0 ?_ ?_
  · simp only [go_sem, reduceAdd, reduceSub, reduceMul, reduceLT, reduceLeDiff, ↓reduceIte, reduceCtorEq, reduceEqDiff, reduceToNat, Int.reduceLT, reduceLE, reduceEq, zeros_len, d1, d2, d3, sh_tree, true_and]
    exact reg0 rfl rfl
  rintro s ⟨g, rfl, -⟩
  refine awp_cut (fun n s => ∃ (b : Bool) (g : Nat → D), s = ⟨[g 0, g 1, .ptr 0 [], .ptr 1 [], g 4, .lit (.bool b), g 6, g 7, g 8, g 9, g 10, g 11, g 12, g 13, g 14, g 15, g 16, g 17, g 18, g 19, g 20, g 21, g 22, g 23, g 24, g 25, g 26, g 27, g 28, g 29, g 30, g 31, g 32, g 33, g 34, g 35, g 36, g 37, g 38, g 39, g 40, g 41, g 42, g 43, g 44, g 45, g 46, g 47, g 48, g 49, g 50, g 51, g 52, g 53, g 54, g 55, g 56, g 57, g 58, g 59, g 60, g 61, g 62, g 63, g 64, g 65, g 66, g 67, g 68, g 69, g 70, g 71, g 72, g 73, g 74, g 75, g 76, g 77, g 78, g 79, g 80, g 81, g 82, g 83, g 84, g 85, g 86, g 87, g 88, g 89, g 90, g 91, g 92, g 93, g 94, g 95, g 96, g 97, g 98, g 99, g 100, g 101, g 102, g 103, g 104, g 105, g 106, g 107, g 108, g 109, g 110, g 111, g 112, g 113, g 114, g 115, g 116, g 117, g 118, g 119, g 120, g 121, g 122, g 123, g 124, g 125, g 126, g 127, g 128, g 129, g 130, g 131, g 132, g 133, g 134, g 135, g 136, g 137, g 138, g 139, g 140, g 141], ⟨[(msgSh, rawM .no .no x), (msgSh, rawG y)], []⟩⟩ ∧ n = 0 ∧ b = tB y) 0 ?_ ?_
  · simp only [go_sem, reduceAdd, reduceSub, reduceMul, reduceLT, reduceLeDiff, ↓reduceIte, reduceCtorEq, reduceEqDiff, reduceToNat, Int.reduceLT, reduceLE, reduceEq, zeros_len, eqB_cons, eqB_nil, eqB_int, Bool.and_true, d1, d2, d3, e1]
    (repeat' (first | ((refine guardK_split (fun hg => ?_) (fun hg => ?_)) <;> (try simp only [go_sem, reduceAdd, reduceSub, reduceMul, reduceLT, reduceLeDiff, ↓reduceIte, reduceCtorEq, reduceEqDiff, reduceToNat, Int.reduceLT, reduceLE, reduceEq, hg, zeros_len, eqB_cons, eqB_nil, eqB_int, Bool.and_true, d1, d2, d3, e1])) | ((refine condK_split (fun hg => ?_) (fun hg => ?_)) <;> (try simp only [go_sem, reduceAdd, reduceSub, reduceMul, reduceLT, reduceLeDiff, ↓reduceIte, reduceCtorEq, reduceEqDiff, reduceToNat, Int.reduceLT, reduceLE, reduceEq, hg, zeros_len, eqB_cons, eqB_nil, eqB_int, Bool.and_true, d1, d2, d3, e1])) | ((first | refine callK_pure (equal_ops0 y.tx.ops) ?_ ?_ ?_ | refine callD_pure (equal_ops0 y.tx.ops) ?_ ?_ ?_); (iterate 2 (focus (first | rfl | (simp only [go_sem, zeros_len, eqB_cons, eqB_nil, eqB_int, Bool.and_true, d1, d2, d3, e1]; done)))); try simp only [go_sem, reduceAdd, reduceSub, reduceMul, reduceLT, reduceLeDiff, ↓reduceIte, reduceCtorEq, reduceEqDiff, reduceToNat, Int.reduceLT, reduceLE, reduceEq, zeros_len, eqB_cons, eqB_nil, eqB_int, Bool.and_true, d1, d2, d3, e1]) | ((refine Or.inl ⟨by kernel_rfl, ?_⟩) <;> (try simp only [go_sem, reduceAdd, reduceSub, reduceMul, reduceLT, reduceLeDiff, ↓reduceIte, reduceCtorEq, reduceEqDiff, reduceToNat, Int.reduceLT, reduceLE, reduceEq, zeros_len, eqB_cons, eqB_nil, eqB_int, Bool.and_true, d1, d2, d3, e1])))) <;> (first | done | exact ⟨_, reg_intro rfl rfl (by simp_all [tB])⟩)
  rintro s ⟨b1, g, rfl, -, rfl⟩
  refine awp_cut (fun n s => ∃ (b : Bool) (g : Nat → D), s = ⟨[g 0, g 1, .ptr 0 [], .ptr 1 [], g 4, .lit (.bool (tB y)), .lit (.bool b), g 7, g 8, g 9, g 10, g 11, g 12, g 13, g 14, g 15, g 16, g 17, g 18, g 19, g 20, g 21, g 22, g 23, g 24, g 25, g 26, g 27, g 28, g 29, g 30, g 31, g 32, g 33, g 34, g 35, g 36, g 37, g 38, g 39, g 40, g 41, g 42, g 43, g 44, g 45, g 46, g 47, g 48, g 49, g 50, g 51, g 52, g 53, g 54, g 55, g 56, g 57, g 58, g 59, g 60, g 61, g 62, g 63, g 64, g 65, g 66, g 67, g 68, g 69, g 70, g 71, g 72, g 73, g 74, g 75, g 76, g 77, g 78, g 79, g 80, g 81, g 82, g 83, g 84, g 85, g 86, g 87, g 88, g 89, g 90, g 91, g 92, g 93, g 94, g 95, g 96, g 97, g 98, g 99, g 100, g 101, g 102, g 103, g 104, g 105, g 106, g 107, g 108, g 109, g 110, g 111, g 112, g 113, g 114, g 115, g 116, g 117, g 118, g 119, g 120, g 121, g 122, g 123, g 124, g 125, g 126, g 127, g 128, g 129, g 130, g 131, g 132, g 133, g 134, g 135, g 136, g 137, g 138, g 139, g 140, g 141], ⟨[(msgSh, rawM .no .no x), (msgSh, rawG y)], []⟩⟩ ∧ n = 0 ∧ b = vB x y) 0 ?_ ?_
  · simp only [go_sem, reduceAdd, reduceSub, reduceMul, reduceLT, reduceLeDiff, ↓reduceIte, reduceCtorEq, reduceEqDiff, reduceToNat, Int.reduceLT, reduceLE, reduceEq, zeros_len, eqB_cons, eqB_nil, eqB_int, Bool.and_true, d1, d2, d3, e2, e3]
    (repeat' (first | ((refine guardK_split (fun hg => ?_) (fun hg => ?_)) <;> (try simp only [go_sem, reduceAdd, reduceSub, reduceMul, reduceLT, reduceLeDiff, ↓reduceIte, reduceCtorEq, reduceEqDiff, reduceToNat, Int.reduceLT, reduceLE, reduceEq, hg, zeros_len, eqB_cons, eqB_nil, eqB_int, Bool.and_true, d1, d2, d3, e2, e3])) | ((refine condK_split (fun hg => ?_) (fun hg => ?_)) <;> (try simp only [go_sem, reduceAdd, reduceSub, reduceMul, reduceLT, reduceLeDiff, ↓reduceIte, reduceCtorEq, reduceEqDiff, reduceToNat, Int.reduceLT, reduceLE, reduceEq, hg, zeros_len, eqB_cons, eqB_nil, eqB_int, Bool.and_true, d1, d2, d3, e2, e3])) | ((first | refine callK_pure (equal_ops0 y.tx.ops) ?_ ?_ ?_ | refine callD_pure (equal_ops0 y.tx.ops) ?_ ?_ ?_); (iterate 2 (focus (first | rfl | (simp only [go_sem, zeros_len, eqB_cons, eqB_nil, eqB_int, Bool.and_true, d1, d2, d3, e2, e3]; done)))); try simp only [go_sem, reduceAdd, reduceSub, reduceMul, reduceLT, reduceLeDiff, ↓reduceIte, reduceCtorEq, reduceEqDiff, reduceToNat, Int.reduceLT, reduceLE, reduceEq, zeros_len, eqB_cons, eqB_nil, eqB_int, Bool.and_true, d1, d2, d3, e2, e3]) | ((refine Or.inl ⟨by kernel_rfl, ?_⟩) <;> (try simp only [go_sem, reduceAdd, reduceSub, reduceMul, reduceLT, reduceLeDiff, ↓reduceIte, reduceCtorEq, reduceEqDiff, reduceToNat, Int.reduceLT, reduceLE, reduceEq, zeros_len, eqB_cons, eqB_nil, eqB_int, Bool.and_true, d1, d2, d3, e2, e3])))) <;> (first | done | exact ⟨_, reg_intro rfl rfl (by simp_all [vB])⟩)
  rintro s ⟨b2, g, rfl, -, rfl⟩
  refine awp_cut (fun n s => ∃ (b : Bool) (g : Nat → D), s = ⟨[g 0, g 1, .ptr 0 [], .ptr 1 [], g 4, .lit (.bool (tB y)), .lit (.bool (vB x y)), .lit (.bool b), g 8, g 9, g 10, g 11, g 12, g 13, g 14, g 15, g 16, g 17, g 18, g 19, g 20, g 21, g 22, g 23, g 24, g 25, g 26, g 27, g 28, g 29, g 30, g 31, g 32, g 33, g 34, g 35, g 36, g 37, g 38, g 39, g 40, g 41, g 42, g 43, g 44, g 45, g 46, g 47, g 48, g 49, g 50, g 51, g 52, g 53, g 54, g 55, g 56, g 57, g 58, g 59, g 60, g 61, g 62, g 63, g 64, g 65, g 66, g 67, g 68, g 69, g 70, g 71, g 72, g 73, g 74, g 75, g 76, g 77, g 78, g 79, g 80, g 81, g 82, g 83, g 84, g 85, g 86, g 87, g 88, g 89, g 90, g 91, g 92, g 93, g 94, g 95, g 96, g 97, g 98, g 99, g 100, g 101, g 102, g 103, g 104, g 105, g 106, g 107, g 108, g 109, g 110, g 111, g 112, g 113, g 114, g 115, g 116, g 117, g 118, g 119, g 120, g 121, g 122, g 123, g 124, g 125, g 126, g 127, g 128, g 129, g 130, g 131, g 132, g 133, g 134, g 135, g 136, g 137, g 138, g 139, g 140, g 141], ⟨[(msgSh, rawM .no .no x), (msgSh, rawG y)], []⟩⟩ ∧ n = 0 ∧ b = nB x y) 0 ?_ ?_
  · simp only [go_sem, reduceAdd, reduceSub, reduceMul, reduceLT, reduceLeDiff, ↓reduceIte, reduceCtorEq, reduceEqDiff, reduceToNat, Int.reduceLT, reduceLE, reduceEq, zeros_len, eqB_cons, eqB_nil, eqB_int, Bool.and_true, d1, d2, d3]
    (repeat' (first | ((refine guardK_split (fun hg => ?_) (fun hg => ?_)) <;> (try simp only [go_sem, reduceAdd, reduceSub, reduceMul, reduceLT, reduceLeDiff, ↓reduceIte, reduceCtorEq, reduceEqDiff, reduceToNat, Int.reduceLT, reduceLE, reduceEq, hg, zeros_len, eqB_cons, eqB_nil, eqB_int, Bool.and_true, d1, d2, d3])) | ((refine condK_split (fun hg => ?_) (fun hg => ?_)) <;> (try simp only [go_sem, reduceAdd, reduceSub, reduceMul, reduceLT, reduceLeDiff, ↓reduceIte, reduceCtorEq, reduceEqDiff, reduceToNat, Int.reduceLT, reduceLE, reduceEq, hg, zeros_len, eqB_cons, eqB_nil, eqB_int, Bool.and_true, d1, d2, d3])) | ((first | refine callK_pure (equal_ops0 y.tx.ops) ?_ ?_ ?_ | refine callD_pure (equal_ops0 y.tx.ops) ?_ ?_ ?_); (iterate 2 (focus (first | rfl | (simp only [go_sem, zeros_len, eqB_cons, eqB_nil, eqB_int, Bool.and_true, d1, d2, d3]; done)))); try simp only [go_sem, reduceAdd, reduceSub, reduceMul, reduceLT, reduceLeDiff, ↓reduceIte, reduceCtorEq, reduceEqDiff, reduceToNat, Int.reduceLT, reduceLE, reduceEq, zeros_len, eqB_cons, eqB_nil, eqB_int, Bool.and_true, d1, d2, d3]) | ((refine Or.inl ⟨by kernel_rfl, ?_⟩) <;> (try simp only [go_sem, reduceAdd, reduceSub, reduceMul, reduceLT, reduceLeDiff, ↓reduceIte, reduceCtorEq, reduceEqDiff, reduceToNat, Int.reduceLT, reduceLE, reduceEq, zeros_len, eqB_cons, eqB_nil, eqB_int, Bool.and_true, d1, d2, d3])))) <;> (first | done | exact ⟨_, reg_intro rfl rfl (by simp_all [nB])⟩)
  rintro s ⟨b3, g, rfl, -, rfl⟩
  refine awp_cut (fun n s => ∃ (b : Bool) (g : Nat → D), s = ⟨[g 0, g 1, .ptr 0 [], .ptr 1 [], g 4, .lit (.bool (tB y)), .lit (.bool (vB x y)), .lit (.bool (nB x y)), .lit (.bool b), g 9, g 10, g 11, g 12, g 13, g 14, g 15, g 16, g 17, g 18, g 19, g 20, g 21, g 22, g 23, g 24, g 25, g 26, g 27, g 28, g 29, g 30, g 31, g 32, g 33, g 34, g 35, g 36, g 37, g 38, g 39, g 40, g 41, g 42, g 43, g 44, g 45, g 46, g 47, g 48, g 49, g 50, g 51, g 52, g 53, g 54, g 55, g 56, g 57, g 58, g 59, g 60, g 61, g 62, g 63, g 64, g 65, g 66, g 67, g 68, g 69, g 70, g 71, g 72, g 73, g 74, g 75, g 76, g 77, g 78, g 79, g 80, g 81, g 82, g 83, g 84, g 85, g 86, g 87, g 88, g 89, g 90, g 91, g 92, g 93, g 94, g 95, g 96, g 97, g 98, g 99, g 100, g 101, g 102, g 103, g 104, g 105, g 106, g 107, g 108, g 109, g 110, g 111, g 112, g 113, g 114, g 115, g 116, g 117, g 118, g 119, g 120, g 121, g 122, g 123, g 124, g 125, g 126, g 127, g 128, g 129, g 130, g 131, g 132, g 133, g 134, g 135, g 136, g 137, g 138, g 139, g 140, g 141], ⟨[(msgSh, rawM .no .no x), (msgSh, rawG y)], []⟩⟩ ∧ n = 0 ∧ b = sB y) 0 ?_ ?_
  · simp only [go_sem, reduceAdd, reduceSub, reduceMul, reduceLT, reduceLeDiff, ↓reduceIte, reduceCtorEq, reduceEqDiff, reduceToNat, Int.reduceLT, reduceLE, reduceEq, zeros_len, eqB_cons, eqB_nil, eqB_int, Bool.and_true, d1, d2, d3, nrm_tree]
    refine callK_pure (msg_same0 y.id) (by first | rfl | (simp only [go_sem, erase_tree, pure_tree, nrm_tree]; done)) (by first | (simp only [go_sem, erase_tree, pure_tree, nrm_tree]; done) | (simp [pureL, pureD]; done)) ?_
    simp only [go_sem, reduceAdd, reduceSub, reduceMul, reduceLT, reduceLeDiff, ↓reduceIte, reduceCtorEq, reduceEqDiff, reduceToNat, Int.reduceLT, reduceLE, reduceEq, zeros_len]
    (repeat' (first | ((refine guardK_split (fun hg => ?_) (fun hg => ?_)) <;> (try simp only [go_sem, reduceAdd, reduceSub, reduceMul, reduceLT, reduceLeDiff, ↓reduceIte, reduceCtorEq, reduceEqDiff, reduceToNat, Int.reduceLT, reduceLE, reduceEq, hg, zeros_len, d1, d2, d3, erase_tree, pure_tree, nrm_tree])) | ((refine condK_split (fun hg => ?_) (fun hg => ?_)) <;> (try simp only [go_sem, reduceAdd, reduceSub, reduceMul, reduceLT, reduceLeDiff, ↓reduceIte, reduceCtorEq, reduceEqDiff, reduceToNat, Int.reduceLT, reduceLE, reduceEq, hg, zeros_len, d1, d2, d3, erase_tree, pure_tree, nrm_tree])) | ((first | refine callK_pure (msg_same0 y.ev) ?_ ?_ ?_ | refine callD_pure (msg_same0 y.ev) ?_ ?_ ?_); (iterate 2 (focus (first | rfl | (simp only [go_sem, zeros_len, d1, d2, d3, erase_tree, pure_tree, nrm_tree]; done)))); try simp only [go_sem, reduceAdd, reduceSub, reduceMul, reduceLT, reduceLeDiff, ↓reduceIte, reduceCtorEq, reduceEqDiff, reduceToNat, Int.reduceLT, reduceLE, reduceEq, zeros_len, d1, d2, d3, erase_tree, pure_tree, nrm_tree]) | ((refine Or.inl ⟨by kernel_rfl, ?_⟩) <;> (try simp only [go_sem, reduceAdd, reduceSub, reduceMul, reduceLT, reduceLeDiff, ↓reduceIte, reduceCtorEq, reduceEqDiff, reduceToNat, Int.reduceLT, reduceLE, reduceEq, zeros_len, d1, d2, d3, erase_tree, pure_tree, nrm_tree])))) <;> (first | done | exact ⟨_, reg_intro rfl rfl (by simp_all [sB])⟩)
  rintro s ⟨b4, g, rfl, -, rfl⟩
  simp only [go_sem, reduceAdd, reduceSub, reduceMul, reduceLT, reduceLeDiff, ↓reduceIte, reduceCtorEq, reduceEqDiff, reduceToNat, Int.reduceLT, reduceLE, reduceEq, zeros_len]
  (repeat' (first | ((refine guardK_split (fun hg => ?_) (fun hg => ?_)) <;> (try simp only [go_sem, reduceAdd, reduceSub, reduceMul, reduceLT, reduceLeDiff, ↓reduceIte, reduceCtorEq, reduceEqDiff, reduceToNat, Int.reduceLT, reduceLE, reduceEq, hg, zeros_len, d1, d2, d3])) | ((refine condK_split (fun hg => ?_) (fun hg => ?_)) <;> (try simp only [go_sem, reduceAdd, reduceSub, reduceMul, reduceLT, reduceLeDiff, ↓reduceIte, reduceCtorEq, reduceEqDiff, reduceToNat, Int.reduceLT, reduceLE, reduceEq, hg, zeros_len, d1, d2, d3])) | ((first | refine callK_pure (equal_bytes0 y.data) ?_ ?_ ?_ | refine callD_pure (equal_bytes0 y.data) ?_ ?_ ?_); (iterate 2 (focus (first | rfl | (simp only [go_sem, zeros_len, d1, d2, d3]; done)))); try simp only [go_sem, reduceAdd, reduceSub, reduceMul, reduceLT, reduceLeDiff, ↓reduceIte, reduceCtorEq, reduceEqDiff, reduceToNat, Int.reduceLT, reduceLE, reduceEq, zeros_len, d1, d2, d3]) | ((first | refine callK_pure (equal_ints2 x.peers y.peers hx) ?_ ?_ ?_ | refine callD_pure (equal_ints2 x.peers y.peers hx) ?_ ?_ ?_); (iterate 2 (focus (first | rfl | (simp only [go_sem, zeros_len, d1, d2, d3]; done)))); try simp only [go_sem, reduceAdd, reduceSub, reduceMul, reduceLT, reduceLeDiff, ↓reduceIte, reduceCtorEq, reduceEqDiff, reduceToNat, Int.reduceLT, reduceLE, reduceEq, zeros_len, d1, d2, d3]) | ((refine Or.inl ⟨by kernel_rfl, ?_⟩) <;> (try simp only [go_sem, reduceAdd, reduceSub, reduceMul, reduceLT, reduceLeDiff, ↓reduceIte, reduceCtorEq, reduceEqDiff, reduceToNat, Int.reduceLT, reduceLE, reduceEq, zeros_len, d1, d2, d3])))) <;> (first | done | simp_all [alikeB])
end Go.Ab
