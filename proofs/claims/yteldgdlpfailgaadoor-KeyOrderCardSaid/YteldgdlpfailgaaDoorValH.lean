
/-
  Why a value may not be: val.check, Check.
-/
import Derived.Test.YteldgdlpfailgaaDoorValG
set_option linter.unusedSimpArgs false
set_option linter.unusedVariables false
namespace Go.Proofs.YteldgdlpfailgaaDoor
open Go.RowKit

mutual
/-- why a value within so many others may not be -/
def checkV : Val → Nat → Int
  | .mk k b n f s l, d => if 13 < d then 3 else if shape k b n f s l = false then 6 else if 500 < s.length ∨ 1000 < l.length then 3 else if checkVL l (d + 1) ≠ 0 then checkVL l (d + 1) else if k = 6 ∧ risesV l = false then 6 else 0
def checkVL : List Val → Nat → Int
  | [], _ => 0
  | v :: l, d => if checkV v d ≠ 0 then checkV v d else checkVL l d
end
theorem checkVL_step {l : List Val} {i : Nat} {x : Val} (h : l[i]? = some x) (d : Nat) : checkVL (l.drop i) d = if checkV x d ≠ 0 then checkV x d else checkVL (l.drop (i + 1)) d := by
  obtain ⟨h1, rfl⟩ := List.getElem?_eq_some_iff.1 h
  rw [List.drop_eq_getElem_cons h1, checkVL]
theorem shape_lo {k : Int} (h : k < 0) (b : Bool) (n : Int) (f : Nat) (s : List UInt8) (l : List Val) : shape k b n f s l = false := by
  unfold shape
  rw [decide_eq_false (by omega : ¬ 0 ≤ k)]
  simp
theorem shape_hi {k : Int} (h : 8 < k) (b : Bool) (n : Int) (f : Nat) (s : List UInt8) (l : List Val) : shape k b n f s l = false := by
  unfold shape
  rw [decide_eq_false (by omega : ¬ k ≤ 8)]
  simp
theorem shape_range {k : Int} {b : Bool} {n : Int} {f : Nat} {s : List UInt8} {l : List Val} (h : shape k b n f s l = true) : 0 ≤ k ∧ k ≤ 8 := by
  refine ⟨?_, ?_⟩
  · rcases Int.lt_or_le k 0 with h1 | h1
    · rw [shape_lo h1] at h; cases h
    · exact h1
  · rcases Int.lt_or_le 8 k with h1 | h1
    · rw [shape_hi h1] at h; cases h
    · exact h1
/-- why a value may not be -/
def CheckV (v : Val) : Int := if 60000 < bsz v then 3 else checkV v 1
end Go.Proofs.YteldgdlpfailgaaDoor
