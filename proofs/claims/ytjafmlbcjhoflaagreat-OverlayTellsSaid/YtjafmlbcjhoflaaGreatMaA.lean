/- Functions that make and read sets of numbers kept as maps. Conditions: none. -/
import Derived.Test.YtjafmlbcjhoflaaGreatSoA
import Derived.Test.YtjafmlbcjhoflaaGreatRoA
import Derived.Test.YtjafmlbcjhoflaaGreatAbHs
set_option linter.unusedSimpArgs false
namespace Go.Ab
open Go.Proofs
end Go.Ab
set_option linter.unusedSimpArgs false
namespace Go.Ab
open Go.Proofs
/-- How many are still to come. -/
def togo (s l : List Int) : Nat := (s.filter fun n => !decide (n ∈ l)).length
theorem togo_nil (s : List Int) : togo s [] = s.length := by simp [togo]


end Go.Ab
set_option linter.unusedSimpArgs false
namespace Go.Ab
open Go.Proofs

/-- Numbers that come one by one into a slice of the call's own. -/
def Out (k : Nat) (d : D) (ex : List (Sh × D)) (l : List Int) : Prop :=
  (d = .lst 3 [] .full ∧ l = [] ∧ ex = []) ∨ ∃ j N L, d = .sl 3 (k + j) 0 l.length N ∧ ex[j]? = some (.arr N .leaf, .agg L) ∧ L.length = N ∧ l.length ≤ N ∧ N ≤ maxLen ∧ L.take l.length = (l.map fun n => .lit (.int .i64 n)) ∧
    ∀ N s L, (Sh.arr N s, D.agg L) ∈ ex → pureL L

theorem sh_int : CT.sh 3 = .leaf := rfl
theorem zero_int : CT.zero 3 = .lit (.int .i64 0) := rfl
theorem pure_reps (n : Nat) : pureL (List.replicate n (D.lit (.int .i64 0))) := by
  induction n with
  | zero => trivial
  | succ n ih => exact ⟨trivial, ih⟩
theorem pureL_app {a b : List D} (h1 : pureL a) (h2 : pureL b) : pureL (a ++ b) := by
  induction a with
  | nil => exact h2
  | cons x r ih => exact ⟨h1.1, ih h1.2⟩
theorem pureL_take {a : List D} (n : Nat) (h : pureL a) : pureL (a.take n) := by
  induction a generalizing n with
  | nil => simpa using h
  | cons x r ih => cases n with
    | zero => trivial
    | succ n => exact ⟨h.1, ih n h.2⟩
theorem pureL_drop {a : List D} (n : Nat) (h : pureL a) : pureL (a.drop n) := by
  induction a generalizing n with
  | nil => simpa using h
  | cons x r ih => cases n with
    | zero => exact h
    | succ n => exact ih n h.2
theorem pure_ints (l : List Int) : pureL (l.map fun n => D.lit (.int .i64 n)) := by
  induction l with
  | nil => trivial
  | cons x r ih => exact ⟨trivial, ih⟩


theorem out_nrm {k : Nat} {d : D} {ex : List (Sh × D)} {l : List Int} (ho : Out k d ex l) (t : TypeId) : nrm CT t d = d := by
  rcases ho with ⟨rfl, _⟩ | ⟨j, N, L, rfl, _⟩
  · simp only [nrm_lst]
  · simp only [nrm_sl]


end Go.Ab
