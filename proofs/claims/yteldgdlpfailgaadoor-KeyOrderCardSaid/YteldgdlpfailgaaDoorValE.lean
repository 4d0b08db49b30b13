
/-
  How many bytes a value has: val.left and the reference's size.
-/
import Derived.Test.YteldgdlpfailgaaDoorValD
set_option linter.unusedSimpArgs false
set_option linter.unusedVariables false
namespace Go.Proofs.YteldgdlpfailgaaDoor
open Go.RowKit

mutual
/-- how many bytes a value has -/
def bsz : Val → Nat
  | .mk k _ _ _ s l => if k = 0 then 1 else if k = 1 then 2 else if k = 4 then 3 + s.length else if k = 5 ∨ k = 6 then 3 + bszL l else 9
def bszL : List Val → Nat
  | [] => 0
  | v :: l => bsz v + bszL l
end
theorem bszL_append (a b : List Val) : bszL (a ++ b) = bszL a + bszL b := by
  induction a with
  | nil => simp [bszL]
  | cons v a ih => simp [bszL, ih]; omega
theorem bszL_take {l : List Val} {i : Nat} {x : Val} (h : l[i]? = some x) : bszL (l.take (i + 1)) = bszL (l.take i) + bsz x := by
  obtain ⟨hi, rfl⟩ := List.getElem?_eq_some_iff.1 h
  rw [List.take_succ_eq_append_getElem hi, bszL_append]
  simp [bszL]
theorem bszL_le (l : List Val) (i : Nat) : bszL (l.take i) ≤ bszL l := by
  have e := bszL_append (l.take i) (l.drop i)
  rw [List.take_append_drop] at e
  omega

def LeftEnds (v : Val) (m : Nat) (w : World) (e : Ending) (w' : World) : Prop := ∃ r : Int, e = .returned (.int .i64 r) ∧ (0 ≤ r → r = m - bsz v) ∧ (r < 0 → m < bsz v) ∧ -140737488351300 ≤ r ∧ r ≤ m ∧ Below w.heap.size w w'
end Go.Proofs.YteldgdlpfailgaaDoor
