
/-
  Which values may be: val.bare and rises, the reference's rises.
-/
import Derived.Test.YteldgdlpfailgaaDoorValE
import Derived.Deep.DeepCutAuto
import Derived.Deep.CutBlock
set_option linter.unusedSimpArgs false
set_option linter.unusedVariables false
namespace Go.Proofs.YteldgdlpfailgaaDoor
open Go.RowKit

/-- has a value nothing that its kind has not? -/
def shape (k : Int) (b : Bool) (n : Int) (f : Nat) (s : List UInt8) (l : List Val) : Bool :=
  decide (0 ≤ k) && decide (k ≤ 8) && (!b || k == 1) && (n == 0 || k == 2 || k == 7 || k == 8) && (!(k == 7 || k == 8) || decide (1 ≤ n)) && (f == 0 || k == 3) && (s.isEmpty || k == 4) && (l.isEmpty || k == 5 || k == 6)
theorem neg_zero_iff {f : Nat} (h : U64 f) (h1 : feq f 0 = true) (h2 : Fl.neg f = false) : f = 0 := by
  have hl := h.lt
  unfold feq at h1
  rw [Bool.and_eq_true, decide_eq_true_eq] at h1
  have h3 := h1.2
  have h4 : Fl.sr 0 = 0 := by decide
  rw [h4] at h3
  unfold Fl.neg at h2
  unfold Fl.sr Fl.neg Fl.rung at h3
  have h5 : f / 9223372036854775808 % 2 = 0 := by simpa using h2
  have h6 : f < 9223372036854775808 := by omega
  simp [h5] at h3
  omega
theorem feq_num {f : Nat} (h1 : feq f 0 = true) : feq f f = true := by
  unfold feq Fl.num2 at h1
  rw [feq_self]
  simp at h1
  simp [h1.1]
theorem feq_zero0 : feq 0 0 = true := by decide
theorem neg_zero0 : Fl.neg 0 = false := by decide
/-- a float's cases: 0; another one that is -0, or not 0 -/
theorem zero_cases (P : Prop) {f : Nat} (h : U64 f) (h1 : (f == 0) = true → feq f 0 = true → Fl.neg f = false → feq f f = true → P) (h2 : (f == 0) = false → feq f 0 = true → Fl.neg f = true → P) (h3 : (f == 0) = false → feq f 0 = false → P) : P := by
  cases e1 : feq f 0
  · exact h3 (by rw [beq_eq_false_iff_ne]; rintro rfl; rw [feq_zero0] at e1; cases e1) e1
  · cases e2 : Fl.neg f
    · exact h1 (by rw [beq_iff_eq]; exact neg_zero_iff h e1 e2) e1 e2 (feq_num e1)
    · exact h2 (by rw [beq_eq_false_iff_ne]; rintro rfl; rw [neg_zero0] at e2; cases e2) e1 e2
end Go.Proofs.YteldgdlpfailgaaDoor
