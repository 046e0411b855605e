/- Registers: the document's texts. Conditions: none. -/
import Derived.Test.YtgliaanopmlmfaaReI
set_option linter.unusedSimpArgs false
namespace Go.Ab
open Go.Proofs

def bLt (a b : ByteArray) : Bool := Op.bytesLess a.toList b.toList
def goesB (x : ByteArray) : ByteArray → Bool := fun y => bLt x y
def sameB (x : ByteArray) : ByteArray → Bool := fun y => decide (y = x)
def riseL (l : List ByteArray) (x : ByteArray) : List ByteArray := if l.any (sameB x) then l else insB (goesB x) x l
def encB (x : ByteArray) : D := .lit (.string x)
instance : Inhabited ByteArray := ⟨⟨#[]⟩⟩
theorem get_txt (l : List ByteArray) (k : Nat) (h : (k < l.length) = True) : (l.map fun s => D.lit (.string s))[k]? = some (.lit (.string (l.getD k default))) := get_enc encB l k h
theorem txt_snoc (l : List ByteArray) (x : ByteArray) : (l.map fun s => D.lit (.string s)) ++ [.lit (.string x)] = (l ++ [x]).map fun s => .lit (.string s) := by simp
theorem riseL_len (l : List ByteArray) (x : ByteArray) : (riseL l x).length ≤ l.length + 1 := by
  unfold riseL
  split
  · omega
  · rw [insB_len]; omega

set_option maxRecDepth 8000 in
theorem ref_rise (l : List ByteArray) (x : ByteArray) (hl : l.length < 1000000000) : PSpec Try.prog CT 108 [textsD l .no, .lit (.string x)] (· = textsD (riseL l x) .no) := by
  refine PSpec.of hT Try.func108 rfl (by kernel_rfl) rfl rfl ?_
  simp only [Try.f108, go_sem, Nat.reduceAdd, Nat.reduceSub, Nat.reduceMul, Nat.reduceLT, Nat.reduceLeDiff, ↓reduceIte, reduceCtorEq, Nat.reduceEqDiff, Int.reduceToNat, Int.reduceLT, Int.reduceLE, Int.reduceEq, beq_self_eq_true]
  refine awp_loop (fun m s => ∃ (k : Nat) (o : List ByteArray) (dn : Bool) (u : Tok) (tk : List Bool) (g : Nat → D), s = ⟨[textsD l .no, .lit (.string x), g 2, g 3, g 4, textsD o u, .lit (.bool dn), .lit (.int .i64 k), g 8, g 9, g 10, g 11, g 12, g 13, g 14, g 15, g 16, g 17, g 18, g 19, g 20, g 21, g 22, g 23, g 24, g 25, g 26, g 27, g 28, g 29, g 30, g 31, g 32, g 33, g 34, g 35, g 36, g 37, g 38, g 39, g 40, g 41, g 42, g 43, g 44, g 45, g 46, g 47, g 48], ⟨[], tk⟩⟩ ∧ m = l.length - k ∧ k ≤ l.length ∧ live u tk ∧ (∀ q, q < k → sameB x (l.getD q default) = false) ∧ (dn = true → (∃ y ∈ l.take k, goesB x y = true) ∧ o = insB (goesB x) x (l.take k)) ∧ (dn = false → (∀ y ∈ l.take k, goesB x y = false) ∧ o = l.take k)) l.length ⟨0, [], false, .full, [], reg_intro rfl rfl ⟨by simp, by omega, trivial, by simp, by simp, by simp⟩⟩ ?_
  rintro m st ⟨k, o, dn, u, tk, g, rfl, hn, hk, ht, hp, hd1, hd2⟩
  have hol : o.length ≤ k + 1 := by
    cases dn with
    | true => rw [(hd1 rfl).2, insB_len, List.length_take]; omega
    | false => rw [(hd2 rfl).2, List.length_take]; omega
  simp only [go_sem, Nat.reduceAdd, Nat.reduceSub, Nat.reduceMul, Nat.reduceLT, Nat.reduceLeDiff, ↓reduceIte, reduceCtorEq, Nat.reduceEqDiff, Int.reduceToNat, Int.reduceLT, Int.reduceLE, Int.reduceEq, beq_self_eq_true]
  refine condK_split (fun hc => ?_) (fun hc => ?_)
  · have hk' : k < l.length := by have := of_decide_eq_true hc; omega
    have hts : l.take (k + 1) = l.take k ++ [l.getD k default] := take_snocG l k hk'
    simp only [go_sem, Nat.reduceAdd, Nat.reduceSub, Nat.reduceMul, Nat.reduceLT, Nat.reduceLeDiff, ↓reduceIte, reduceCtorEq, Nat.reduceEqDiff, Int.reduceToNat, Int.reduceLT, Int.reduceLE, Int.reduceEq, beq_self_eq_true, hk', get_txt]
    refine condK_split (fun h1 => ?_) (fun h1 => ?_)
    · have : riseL l x = l := by rw [riseL, if_pos (any_at hk' h1)]
      simp only [go_sem, Nat.reduceAdd, Nat.reduceSub, Nat.reduceMul, Nat.reduceLT, Nat.reduceLeDiff, ↓reduceIte, reduceCtorEq, Nat.reduceEqDiff, Int.reduceToNat, Int.reduceLT, Int.reduceLE, Int.reduceEq, beq_self_eq_true, this]
    simp only [go_sem, Nat.reduceAdd, Nat.reduceSub, Nat.reduceMul, Nat.reduceLT, Nat.reduceLeDiff, ↓reduceIte, reduceCtorEq, Nat.reduceEqDiff, Int.reduceToNat, Int.reduceLT, Int.reduceLE, Int.reduceEq, beq_self_eq_true]
    have hp' := next_bad hp h1
    cases dn with
    | true =>
      obtain ⟨e1, e2⟩ := hd1 rfl
      simp only [go_sem, Nat.reduceAdd, Nat.reduceSub, Nat.reduceMul, Nat.reduceLT, Nat.reduceLeDiff, ↓reduceIte, reduceCtorEq, Nat.reduceEqDiff, Int.reduceToNat, Int.reduceLT, Int.reduceLE, Int.reduceEq, beq_self_eq_true, hk', get_txt, Bool.not_true]
      refine appK_live _ _ _ _ _ _ _ _ _ _ ht (by simp) (by simp only [go_sem, Nat.reduceAdd, Nat.reduceSub, Nat.reduceMul, Nat.reduceLT, Nat.reduceLeDiff, ↓reduceIte, reduceCtorEq, Nat.reduceEqDiff, Int.reduceToNat, Int.reduceLT, Int.reduceLE, Int.reduceEq, beq_self_eq_true]) (by simp only [go_sem, Nat.reduceAdd, Nat.reduceSub, Nat.reduceMul, Nat.reduceLT, Nat.reduceLeDiff, ↓reduceIte, reduceCtorEq, Nat.reduceEqDiff, Int.reduceToNat, Int.reduceLT, Int.reduceLE, Int.reduceEq, beq_self_eq_true]; omega) (fun u tk' hu => ?_)
      simp only [go_sem, Nat.reduceAdd, Nat.reduceSub, Nat.reduceMul, Nat.reduceLT, Nat.reduceLeDiff, ↓reduceIte, reduceCtorEq, Nat.reduceEqDiff, Int.reduceToNat, Int.reduceLT, Int.reduceLE, Int.reduceEq, beq_self_eq_true, txt_snoc, wrapNat k (by omega)]
      refine ⟨l.length - (k + 1), by omega, k + 1, o ++ [l.getD k default], true, u, tk', reg_intro rfl rfl ⟨rfl, by omega, hu, hp', fun _ => ⟨?_, ?_⟩, by simp⟩⟩
      · obtain ⟨y, hy, hny⟩ := e1
        exact ⟨y, by rw [hts]; simp [hy], hny⟩
      · rw [hts, insB_snoc_done e1, e2]
    | false =>
      obtain ⟨e1, e2⟩ := hd2 rfl
      simp only [go_sem, Nat.reduceAdd, Nat.reduceSub, Nat.reduceMul, Nat.reduceLT, Nat.reduceLeDiff, ↓reduceIte, reduceCtorEq, Nat.reduceEqDiff, Int.reduceToNat, Int.reduceLT, Int.reduceLE, Int.reduceEq, beq_self_eq_true, hk', get_txt, Bool.not_false]
      refine condK_split (fun h2 => ?_) (fun h2 => ?_)
      · simp only [go_sem, Nat.reduceAdd, Nat.reduceSub, Nat.reduceMul, Nat.reduceLT, Nat.reduceLeDiff, ↓reduceIte, reduceCtorEq, Nat.reduceEqDiff, Int.reduceToNat, Int.reduceLT, Int.reduceLE, Int.reduceEq, beq_self_eq_true, hk', get_txt]
        refine appK_live _ _ _ _ _ _ _ _ _ _ ht (by simp) (by simp only [go_sem, Nat.reduceAdd, Nat.reduceSub, Nat.reduceMul, Nat.reduceLT, Nat.reduceLeDiff, ↓reduceIte, reduceCtorEq, Nat.reduceEqDiff, Int.reduceToNat, Int.reduceLT, Int.reduceLE, Int.reduceEq, beq_self_eq_true]) (by simp only [go_sem, Nat.reduceAdd, Nat.reduceSub, Nat.reduceMul, Nat.reduceLT, Nat.reduceLeDiff, ↓reduceIte, reduceCtorEq, Nat.reduceEqDiff, Int.reduceToNat, Int.reduceLT, Int.reduceLE, Int.reduceEq, beq_self_eq_true]; omega) (fun u tk' hu => ?_)
        simp only [go_sem, Nat.reduceAdd, Nat.reduceSub, Nat.reduceMul, Nat.reduceLT, Nat.reduceLeDiff, ↓reduceIte, reduceCtorEq, Nat.reduceEqDiff, Int.reduceToNat, Int.reduceLT, Int.reduceLE, Int.reduceEq, beq_self_eq_true, txt_snoc, hk', get_txt]
        refine appK_live _ _ _ _ _ _ _ _ _ _ hu (by simp) (by simp only [go_sem, Nat.reduceAdd, Nat.reduceSub, Nat.reduceMul, Nat.reduceLT, Nat.reduceLeDiff, ↓reduceIte, reduceCtorEq, Nat.reduceEqDiff, Int.reduceToNat, Int.reduceLT, Int.reduceLE, Int.reduceEq, beq_self_eq_true]) (by simp only [go_sem, Nat.reduceAdd, Nat.reduceSub, Nat.reduceMul, Nat.reduceLT, Nat.reduceLeDiff, ↓reduceIte, reduceCtorEq, Nat.reduceEqDiff, Int.reduceToNat, Int.reduceLT, Int.reduceLE, Int.reduceEq, beq_self_eq_true, List.length_append, List.length_singleton]; omega) (fun u tk' hu => ?_)
        simp only [go_sem, Nat.reduceAdd, Nat.reduceSub, Nat.reduceMul, Nat.reduceLT, Nat.reduceLeDiff, ↓reduceIte, reduceCtorEq, Nat.reduceEqDiff, Int.reduceToNat, Int.reduceLT, Int.reduceLE, Int.reduceEq, beq_self_eq_true, txt_snoc, wrapNat k (by omega)]
        refine ⟨l.length - (k + 1), by omega, k + 1, o ++ [x] ++ [l.getD k default], true, u, tk', reg_intro rfl rfl ⟨rfl, by omega, hu, hp', fun _ => ⟨⟨l.getD k default, by rw [hts]; simp, h2⟩, ?_⟩, by simp⟩⟩
        rw [hts, insB_snoc_new (y := l.getD k default) e1 h2, e2]
      · simp only [go_sem, Nat.reduceAdd, Nat.reduceSub, Nat.reduceMul, Nat.reduceLT, Nat.reduceLeDiff, ↓reduceIte, reduceCtorEq, Nat.reduceEqDiff, Int.reduceToNat, Int.reduceLT, Int.reduceLE, Int.reduceEq, beq_self_eq_true, hk', get_txt]
        refine appK_live _ _ _ _ _ _ _ _ _ _ ht (by simp) (by simp only [go_sem, Nat.reduceAdd, Nat.reduceSub, Nat.reduceMul, Nat.reduceLT, Nat.reduceLeDiff, ↓reduceIte, reduceCtorEq, Nat.reduceEqDiff, Int.reduceToNat, Int.reduceLT, Int.reduceLE, Int.reduceEq, beq_self_eq_true]) (by simp only [go_sem, Nat.reduceAdd, Nat.reduceSub, Nat.reduceMul, Nat.reduceLT, Nat.reduceLeDiff, ↓reduceIte, reduceCtorEq, Nat.reduceEqDiff, Int.reduceToNat, Int.reduceLT, Int.reduceLE, Int.reduceEq, beq_self_eq_true]; omega) (fun u tk' hu => ?_)
        simp only [go_sem, Nat.reduceAdd, Nat.reduceSub, Nat.reduceMul, Nat.reduceLT, Nat.reduceLeDiff, ↓reduceIte, reduceCtorEq, Nat.reduceEqDiff, Int.reduceToNat, Int.reduceLT, Int.reduceLE, Int.reduceEq, beq_self_eq_true, txt_snoc, wrapNat k (by omega)]
        refine ⟨l.length - (k + 1), by omega, k + 1, o ++ [l.getD k default], false, u, tk', reg_intro rfl rfl ⟨rfl, by omega, hu, hp', by simp, fun _ => ⟨?_, ?_⟩⟩⟩
        · intro y hy
          rw [hts] at hy
          rcases List.mem_append.1 hy with hy | hy
          · exact e1 y hy
          · rw [List.mem_singleton] at hy; subst hy; exact h2
        · rw [hts, e2]
  have hi := of_decide_eq_false hc
  obtain rfl : k = l.length := by omega
  rw [List.take_length] at hd1 hd2
  have hr : riseL l x = insB (goesB x) x l := by rw [riseL, any_no hp]; simp
  simp only [go_sem, Nat.reduceAdd, Nat.reduceSub, Nat.reduceMul, Nat.reduceLT, Nat.reduceLeDiff, ↓reduceIte, reduceCtorEq, Nat.reduceEqDiff, Int.reduceToNat, Int.reduceLT, Int.reduceLE, Int.reduceEq, beq_self_eq_true]
  cases dn with
  | true =>
    obtain ⟨e1, e2⟩ := hd1 rfl
    simp only [go_sem, Nat.reduceAdd, Nat.reduceSub, Nat.reduceMul, Nat.reduceLT, Nat.reduceLeDiff, ↓reduceIte, reduceCtorEq, Nat.reduceEqDiff, Int.reduceToNat, Int.reduceLT, Int.reduceLE, Int.reduceEq, beq_self_eq_true, Bool.not_true]
    rw [hr, e2]
  | false =>
    obtain ⟨e1, e2⟩ := hd2 rfl
    simp only [go_sem, Nat.reduceAdd, Nat.reduceSub, Nat.reduceMul, Nat.reduceLT, Nat.reduceLeDiff, ↓reduceIte, reduceCtorEq, Nat.reduceEqDiff, Int.reduceToNat, Int.reduceLT, Int.reduceLE, Int.reduceEq, beq_self_eq_true, Bool.not_false]
    refine appK_live _ _ _ _ _ _ _ _ _ _ ht (by simp) (by simp only [go_sem, Nat.reduceAdd, Nat.reduceSub, Nat.reduceMul, Nat.reduceLT, Nat.reduceLeDiff, ↓reduceIte, reduceCtorEq, Nat.reduceEqDiff, Int.reduceToNat, Int.reduceLT, Int.reduceLE, Int.reduceEq, beq_self_eq_true]) (by simp only [go_sem, Nat.reduceAdd, Nat.reduceSub, Nat.reduceMul, Nat.reduceLT, Nat.reduceLeDiff, ↓reduceIte, reduceCtorEq, Nat.reduceEqDiff, Int.reduceToNat, Int.reduceLT, Int.reduceLE, Int.reduceEq, beq_self_eq_true]; omega) (fun u tk' hu => ?_)
    simp only [go_sem, Nat.reduceAdd, Nat.reduceSub, Nat.reduceMul, Nat.reduceLT, Nat.reduceLeDiff, ↓reduceIte, reduceCtorEq, Nat.reduceEqDiff, Int.reduceToNat, Int.reduceLT, Int.reduceLE, Int.reduceEq, beq_self_eq_true, txt_snoc]
    rw [hr, insB_all e1, e2]

/-- The place of the latest write, the last one of such. -/
def bestAt (l : List WriteR) : Nat → Int
  | 0 => -1
  | k + 1 => if bestAt l k < 0 ∨ (l.getD (bestAt l k).toNat default).time ≤ (l.getD k default).time then (k : Int) else bestAt l k
theorem bestAt_lt (l : List WriteR) : ∀ k, bestAt l k < k ∧ -1 ≤ bestAt l k ∧ (0 < k → 0 ≤ bestAt l k)
  | 0 => by simp [bestAt]
  | k + 1 => by
    have := bestAt_lt l k
    unfold bestAt
    split
    · omega
    · rename_i h
      refine ⟨by omega, by omega, fun _ => ?_⟩
      have : ¬ bestAt l k < 0 := fun e => h (.inl e)
      omega
def latestL (l : List WriteR) : List ByteArray := if bestAt l l.length < 0 then [] else [(l.getD (bestAt l l.length).toNat default).text]
def risesL (l : List ByteArray) : List ByteArray := l.foldl riseL []
def wrTexts (l : List WriteR) : List ByteArray := l.map (·.text)
def readR (c : CellR) : ValueR := if checkR c = false then ⟨0, 0, []⟩ else if c.kind = 3 then ⟨c.kind, 0, risesL (wrTexts c.wr)⟩ else ⟨c.kind, 0, latestL c.wr⟩
theorem risesL_len (l : List ByteArray) : (risesL l).length ≤ l.length := by
  have : ∀ (l o : List ByteArray), (l.foldl riseL o).length ≤ o.length + l.length := by
    intro l
    induction l with
    | nil => intro o; simp
    | cons x r ih => intro o; have := ih (riseL o x); have := riseL_len o x; simp only [List.foldl_cons, List.length_cons]; omega
  have h := this l []
  simp only [List.length_nil, Nat.zero_add] at h
  exact h
theorem rises_snoc (c : List WriteR) (k : Nat) (hk : k < c.length) : risesL (wrTexts (c.take (k + 1))) = riseL (risesL (wrTexts (c.take k))) (c.getD k default).text := by
  rw [take_snocG c k hk]
  simp [risesL, wrTexts]
end Go.Ab
set_option linter.unusedSimpArgs false
namespace Go.Ab
open Go.Proofs

set_option maxRecDepth 8000 in
set_option maxHeartbeats 2000000 in
theorem ref09_read (c : CellR) (hw : c.wr.length < 100000000) (ha : c.am.length < 1000000000) (hm : c.me.length < 1000000000) (he : c.el.length < 1000000000) : PSpec Try.prog CT 56 [cellD c] (· = valD (readR c)) := by
  refine PSpec.of hT Try.func56 rfl (by kernel_rfl) rfl rfl ?_
  simp only [Try.f56, go_sem, Nat.reduceAdd, Nat.reduceSub, Nat.reduceMul, Nat.reduceLT, Nat.reduceLeDiff, ↓reduceIte, reduceCtorEq, Nat.reduceEqDiff, Int.reduceToNat, Int.reduceLT, Int.reduceLE, Int.reduceEq, beq_self_eq_true]
  refine callK_pure (args' := [cellD c]) (ref09_check c (by omega) ha hm he) (by first | rfl | (simp only [go_sem, Nat.reduceAdd, Nat.reduceSub, Nat.reduceMul, Nat.reduceLT, Nat.reduceLeDiff, ↓reduceIte, reduceCtorEq, Nat.reduceEqDiff, Int.reduceToNat, Int.reduceLT, Int.reduceLE, Int.reduceEq, beq_self_eq_true]; done)) (by first | (simp only [go_sem, Nat.reduceAdd, Nat.reduceSub, Nat.reduceMul, Nat.reduceLT, Nat.reduceLeDiff, ↓reduceIte, reduceCtorEq, Nat.reduceEqDiff, Int.reduceToNat, Int.reduceLT, Int.reduceLE, Int.reduceEq, beq_self_eq_true]; done) | (simp [pureL, pureD]; done)) ?_
  simp only [go_sem, Nat.reduceAdd, Nat.reduceSub, Nat.reduceMul, Nat.reduceLT, Nat.reduceLeDiff, ↓reduceIte, reduceCtorEq, Nat.reduceEqDiff, Int.reduceToNat, Int.reduceLT, Int.reduceLE, Int.reduceEq, beq_self_eq_true]
  refine condK_split (fun h1 => ?_) (fun h1 => ?_)
  · have hc : checkR c = false := by simpa using h1
    have hr : readR c = ⟨0, 0, []⟩ := by rw [readR, if_pos hc]
    simp only [go_sem, Nat.reduceAdd, Nat.reduceSub, Nat.reduceMul, Nat.reduceLT, Nat.reduceLeDiff, ↓reduceIte, reduceCtorEq, Nat.reduceEqDiff, Int.reduceToNat, Int.reduceLT, Int.reduceLE, Int.reduceEq, beq_self_eq_true, hr, List.map_nil]
    rfl
  have hck : checkR c = true := by simpa using h1
  simp only [go_sem, Nat.reduceAdd, Nat.reduceSub, Nat.reduceMul, Nat.reduceLT, Nat.reduceLeDiff, ↓reduceIte, reduceCtorEq, Nat.reduceEqDiff, Int.reduceToNat, Int.reduceLT, Int.reduceLE, Int.reduceEq, beq_self_eq_true]
  refine condK_split (fun h2 => ?_) (fun h2 => ?_)
  · have hkind : c.kind = 3 := of_decide_eq_true h2
    simp only [go_sem, Nat.reduceAdd, Nat.reduceSub, Nat.reduceMul, Nat.reduceLT, Nat.reduceLeDiff, ↓reduceIte, reduceCtorEq, Nat.reduceEqDiff, Int.reduceToNat, Int.reduceLT, Int.reduceLE, Int.reduceEq, beq_self_eq_true]
    refine awp_loop (fun n s => ∃ (k : Nat) (u : Tok) (g : Nat → D), s = ⟨[g 0, .ptr 0 [], .ptr 1 [], .ptr 2 [], .lit (.int .i64 k), g 5, g 6, g 7, g 8, g 9, g 10, g 11, g 12, g 13, g 14, g 15, g 16, g 17, g 18, g 19, g 20, g 21, g 22, g 23, g 24, g 25, g 26, g 27, g 28, g 29, g 30, g 31, g 32, g 33, g 34, g 35, g 36, g 37, g 38, g 39, g 40, g 41, g 42, g 43, g 44, g 45, g 46, g 47, g 48, g 49, g 50, g 51, g 52, g 53, g 54, g 55, g 56, g 57, g 58, g 59, g 60, g 61, g 62, g 63, g 64, g 65, g 66, g 67, g 68, g 69, g 70], ⟨[((.pair .leaf (.pair .leaf (.pair .leaf (.pair .leaf (.pair .leaf (.pair .leaf .unit)))))), cellD c), ((.pair .leaf (.pair .leaf (.pair .leaf (.pair .leaf .unit)))), CT.zero 69), ((.pair .leaf (.pair .leaf (.pair .leaf (.pair .leaf .unit)))), .agg [.lit (.int .i64 c.kind), .lit (.int .i64 0), textsD (risesL (wrTexts (c.wr.take k))) u, .lst 118 [] .full])], []⟩⟩ ∧ n = c.wr.length - k ∧ k ≤ c.wr.length ∧ (u = .no ∨ u = .full)) c.wr.length ⟨0, .full, reg_intro rfl rfl ⟨by simp, by omega, .inr rfl⟩⟩ ?_
    rintro n st ⟨k, u, g, rfl, hn, hk, hu⟩
    simp only [go_sem, Nat.reduceAdd, Nat.reduceSub, Nat.reduceMul, Nat.reduceLT, Nat.reduceLeDiff, ↓reduceIte, reduceCtorEq, Nat.reduceEqDiff, Int.reduceToNat, Int.reduceLT, Int.reduceLE, Int.reduceEq, beq_self_eq_true]
    refine condK_split (fun hc => ?_) (fun hc => ?_)
    · have hk' : k < c.wr.length := by have := of_decide_eq_true hc; omega
      refine .inl ⟨by kernel_rfl, ?_⟩
      simp only [go_sem, Nat.reduceAdd, Nat.reduceSub, Nat.reduceMul, Nat.reduceLT, Nat.reduceLeDiff, ↓reduceIte, reduceCtorEq, Nat.reduceEqDiff, Int.reduceToNat, Int.reduceLT, Int.reduceLE, Int.reduceEq, beq_self_eq_true, hk', get_wr]
      have hrl := risesL_len (wrTexts (c.wr.take k))
      have hwl : (wrTexts (c.wr.take k)).length ≤ k := by simp [wrTexts]; omega
      have hrs : riseL (risesL (wrTexts (c.wr.take k))) (wrAt c k).text = risesL (wrTexts (c.wr.take (k + 1))) := (rises_snoc c.wr k hk').symm
      refine callD_pure (ref_rise (risesL (wrTexts (c.wr.take k))) (wrAt c k).text (by omega)) (by rcases hu with rfl | rfl <;> simp only [go_sem, Nat.reduceAdd, Nat.reduceSub, Nat.reduceMul, Nat.reduceLT, Nat.reduceLeDiff, ↓reduceIte, reduceCtorEq, Nat.reduceEqDiff, Int.reduceToNat, Int.reduceLT, Int.reduceLE, Int.reduceEq, beq_self_eq_true]) (by simp only [go_sem, Nat.reduceAdd, Nat.reduceSub, Nat.reduceMul, Nat.reduceLT, Nat.reduceLeDiff, ↓reduceIte, reduceCtorEq, Nat.reduceEqDiff, Int.reduceToNat, Int.reduceLT, Int.reduceLE, Int.reduceEq, beq_self_eq_true]) ?_
      simp only [go_sem, Nat.reduceAdd, Nat.reduceSub, Nat.reduceMul, Nat.reduceLT, Nat.reduceLeDiff, ↓reduceIte, reduceCtorEq, Nat.reduceEqDiff, Int.reduceToNat, Int.reduceLT, Int.reduceLE, Int.reduceEq, beq_self_eq_true, hrs, wrapNat k (by omega)]
      refine ⟨c.wr.length - (k + 1), by omega, k + 1, .no, reg_intro rfl rfl ⟨rfl, by omega, .inl rfl⟩⟩
    · have hi := of_decide_eq_false hc
      obtain rfl : k = c.wr.length := by omega
      have hr : readR c = ⟨c.kind, 0, risesL (wrTexts c.wr)⟩ := by rw [readR, if_neg (by rw [hck]; simp), if_pos hkind]
      rw [hr]
      simp only [go_sem, Nat.reduceAdd, Nat.reduceSub, Nat.reduceMul, Nat.reduceLT, Nat.reduceLeDiff, ↓reduceIte, reduceCtorEq, Nat.reduceEqDiff, Int.reduceToNat, Int.reduceLT, Int.reduceLE, Int.reduceEq, beq_self_eq_true, List.take_length]
  · have hkind : c.kind ≠ 3 := of_decide_eq_false h2
    simp only [go_sem, Nat.reduceAdd, Nat.reduceSub, Nat.reduceMul, Nat.reduceLT, Nat.reduceLeDiff, ↓reduceIte, reduceCtorEq, Nat.reduceEqDiff, Int.reduceToNat, Int.reduceLT, Int.reduceLE, Int.reduceEq, beq_self_eq_true]
    refine awp_loop (fun n s => ∃ (k : Nat) (b : Int) (g : Nat → D), s = ⟨[g 0, .ptr 0 [], .ptr 1 [], .ptr 2 [], g 4, .lit (.int .i64 b), .lit (.int .i64 k), g 7, g 8, g 9, g 10, g 11, g 12, g 13, g 14, g 15, g 16, g 17, g 18, g 19, g 20, g 21, g 22, g 23, g 24, g 25, g 26, g 27, g 28, g 29, g 30, g 31, g 32, g 33, g 34, g 35, g 36, g 37, g 38, g 39, g 40, g 41, g 42, g 43, g 44, g 45, g 46, g 47, g 48, g 49, g 50, g 51, g 52, g 53, g 54, g 55, g 56, g 57, g 58, g 59, g 60, g 61, g 62, g 63, g 64, g 65, g 66, g 67, g 68, g 69, g 70], ⟨[((.pair .leaf (.pair .leaf (.pair .leaf (.pair .leaf (.pair .leaf (.pair .leaf .unit)))))), cellD c), ((.pair .leaf (.pair .leaf (.pair .leaf (.pair .leaf .unit)))), CT.zero 69), ((.pair .leaf (.pair .leaf (.pair .leaf (.pair .leaf .unit)))), .agg [.lit (.int .i64 c.kind), .lit (.int .i64 0), textsD [] .full, .lst 118 [] .full])], []⟩⟩ ∧ n = c.wr.length - k ∧ k ≤ c.wr.length ∧ b = bestAt c.wr k) c.wr.length ⟨0, -1, reg_intro rfl rfl ⟨by simp, by omega, rfl⟩⟩ ?_
    rintro n st ⟨k, b, g, rfl, hn, hk, hbb⟩
    have hb := bestAt_lt c.wr k
    rw [← hbb] at hb
    simp only [go_sem, Nat.reduceAdd, Nat.reduceSub, Nat.reduceMul, Nat.reduceLT, Nat.reduceLeDiff, ↓reduceIte, reduceCtorEq, Nat.reduceEqDiff, Int.reduceToNat, Int.reduceLT, Int.reduceLE, Int.reduceEq, beq_self_eq_true]
    refine condK_split (fun hc => ?_) (fun hc => ?_)
    · have hk' : k < c.wr.length := by have := of_decide_eq_true hc; omega
      have hnext : (b < 0 ∨ (c.wr.getD b.toNat default).time ≤ (c.wr.getD k default).time → (k : Int) = bestAt c.wr (k + 1)) ∧ (¬ (b < 0 ∨ (c.wr.getD b.toNat default).time ≤ (c.wr.getD k default).time) → b = bestAt c.wr (k + 1)) := by
        rw [hbb]
        exact ⟨fun h => by simp only [bestAt, if_pos h], fun h => by simp only [bestAt, if_neg h]⟩
      refine .inl ⟨by kernel_rfl, ?_⟩
      simp only [go_sem, Nat.reduceAdd, Nat.reduceSub, Nat.reduceMul, Nat.reduceLT, Nat.reduceLeDiff, ↓reduceIte, reduceCtorEq, Nat.reduceEqDiff, Int.reduceToNat, Int.reduceLT, Int.reduceLE, Int.reduceEq, beq_self_eq_true]
      refine guardK_split (fun hg => ?_) (fun hg => ?_)
      · have hlt := of_decide_eq_true hg
        have e := hnext.1 (.inl hlt)
        simp only [go_sem, Nat.reduceAdd, Nat.reduceSub, Nat.reduceMul, Nat.reduceLT, Nat.reduceLeDiff, ↓reduceIte, reduceCtorEq, Nat.reduceEqDiff, Int.reduceToNat, Int.reduceLT, Int.reduceLE, Int.reduceEq, beq_self_eq_true, hg, hk', get_wr, wrapNat k (by omega)]
        exact ⟨c.wr.length - (k + 1), by omega, k + 1, k, reg_intro rfl rfl ⟨rfl, by omega, e⟩⟩
      · have hlt := of_decide_eq_false hg
        obtain ⟨j, rfl⟩ : ∃ j : Nat, b = j := ⟨b.toNat, by omega⟩
        have hjl : j < c.wr.length := by omega
        simp only [go_sem, Nat.reduceAdd, Nat.reduceSub, Nat.reduceMul, Nat.reduceLT, Nat.reduceLeDiff, ↓reduceIte, reduceCtorEq, Nat.reduceEqDiff, Int.reduceToNat, Int.reduceLT, Int.reduceLE, Int.reduceEq, beq_self_eq_true, hg, hjl, hk', get_wr]
        refine condK_split (fun h3 => ?_) (fun h3 => ?_)
        · have e := hnext.1 (.inr (by simpa [wrAt] using h3))
          simp only [go_sem, Nat.reduceAdd, Nat.reduceSub, Nat.reduceMul, Nat.reduceLT, Nat.reduceLeDiff, ↓reduceIte, reduceCtorEq, Nat.reduceEqDiff, Int.reduceToNat, Int.reduceLT, Int.reduceLE, Int.reduceEq, beq_self_eq_true, wrapNat k (by omega)]
          exact ⟨c.wr.length - (k + 1), by omega, k + 1, k, reg_intro rfl rfl ⟨rfl, by omega, e⟩⟩
        · have e := hnext.2 (by rintro (h | h); exact hlt h; exact absurd (by simpa [wrAt] using h) (of_decide_eq_false h3))
          simp only [go_sem, Nat.reduceAdd, Nat.reduceSub, Nat.reduceMul, Nat.reduceLT, Nat.reduceLeDiff, ↓reduceIte, reduceCtorEq, Nat.reduceEqDiff, Int.reduceToNat, Int.reduceLT, Int.reduceLE, Int.reduceEq, beq_self_eq_true, wrapNat k (by omega)]
          exact ⟨c.wr.length - (k + 1), by omega, k + 1, j, reg_intro rfl rfl ⟨rfl, by omega, e⟩⟩
    · have hi := of_decide_eq_false hc
      obtain rfl : k = c.wr.length := by omega
      subst hbb
      have hr : readR c = ⟨c.kind, 0, latestL c.wr⟩ := by rw [readR, if_neg (by rw [hck]; simp), if_neg hkind]
      simp only [go_sem, Nat.reduceAdd, Nat.reduceSub, Nat.reduceMul, Nat.reduceLT, Nat.reduceLeDiff, ↓reduceIte, reduceCtorEq, Nat.reduceEqDiff, Int.reduceToNat, Int.reduceLT, Int.reduceLE, Int.reduceEq, beq_self_eq_true]
      refine condK_split (fun h3 => ?_) (fun h3 => ?_)
      · have hb0 := of_decide_eq_true h3
        obtain ⟨j, hj⟩ : ∃ j : Nat, bestAt c.wr c.wr.length = j := ⟨(bestAt c.wr c.wr.length).toNat, by omega⟩
        have hjl : j < c.wr.length := by omega
        have hl : latestL c.wr = [(wrAt c j).text] := by rw [latestL, hj, if_neg (by omega)]; rfl
        rw [hr, hl]
        simp only [go_sem, Nat.reduceAdd, Nat.reduceSub, Nat.reduceMul, Nat.reduceLT, Nat.reduceLeDiff, ↓reduceIte, reduceCtorEq, Nat.reduceEqDiff, Int.reduceToNat, Int.reduceLT, Int.reduceLE, Int.reduceEq, beq_self_eq_true, hj, hjl, get_wr]
        rfl
      · have hb0 := of_decide_eq_false h3
        have hl : latestL c.wr = [] := by rw [latestL, if_pos (by omega)]
        rw [hr, hl]
        simp only [go_sem, Nat.reduceAdd, Nat.reduceSub, Nat.reduceMul, Nat.reduceLT, Nat.reduceLeDiff, ↓reduceIte, reduceCtorEq, Nat.reduceEqDiff, Int.reduceToNat, Int.reduceLT, Int.reduceLE, Int.reduceEq, beq_self_eq_true]
        rfl
end Go.Ab
