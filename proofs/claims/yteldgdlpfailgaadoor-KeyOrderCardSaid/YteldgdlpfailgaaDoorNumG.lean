
/-
  The walks of the laws NumParts and NumMixes.
-/
import Derived.Test.YteldgdlpfailgaaDoorNumF
import Derived.Test.YteldgdlpfailgaaDoorNumS
set_option linter.unusedSimpArgs false
set_option linter.unusedVariables false
namespace Go.Proofs.YteldgdlpfailgaaDoor
open Go.RowKit

theorem mix_cases (P : Prop) {n m : Int} {f : Nat} (hn : I64 n) (hm : I64 m) (h1 : mixF n f < 0 → 0 < mixF m f → n < m → P) (h2 : mixF n f < 0 → ¬ 0 < mixF m f → P) (h3 : ¬ mixF n f < 0 → P) : P := by
  by_cases c1 : mixF n f < 0
  · by_cases c2 : 0 < mixF m f
    · exact h1 c1 c2 (mix_between hn hm c1 c2)
    · exact h2 c1 c2
  · exact h3 c1
theorem part_cases (P : Prop) {a b : Int} (ha : I64 a) (hb : I64 b)
    (h1 : decide (a < b) = true → (a == b) = false → decide (cmpF (part a) (part b) < 0) = true → (cmpF (part a) (part b) == 0) = false → P)
    (h2 : decide (a < b) = true → (a == b) = false → decide (cmpF (part a) (part b) < 0) = false → (cmpF (part a) (part b) == 0) = true → decide (over a < over b) = true → (over a == over b) = false → P)
    (h3 : decide (a < b) = false → (a == b) = false → decide (cmpF (part a) (part b) < 0) = false → (cmpF (part a) (part b) == 0) = false → P)
    (h4 : decide (a < b) = false → (a == b) = false → decide (cmpF (part a) (part b) < 0) = false → (cmpF (part a) (part b) == 0) = true → decide (over a < over b) = false → (over a == over b) = false → P)
    (h5 : decide (a < b) = false → (a == b) = true → decide (cmpF (part a) (part b) < 0) = false → (cmpF (part a) (part b) == 0) = true → decide (over a < over b) = false → (over a == over b) = true → P) : P := by
  have l := part_lt ha hb
  have e := part_eq ha hb
  by_cases c : cmpF (part a) (part b) < 0
  · exact h1 (decide_eq_true (by omega)) (beq_eq_false_iff_ne.2 (by omega)) (decide_eq_true c) (beq_eq_false_iff_ne.2 (by omega))
  · by_cases z : cmpF (part a) (part b) = 0
    · by_cases o : over a < over b
      · exact h2 (decide_eq_true (by omega)) (beq_eq_false_iff_ne.2 (by omega)) (decide_eq_false c) (beq_iff_eq.2 z) (decide_eq_true o) (beq_eq_false_iff_ne.2 (by omega))
      · by_cases o2 : over a = over b
        · exact h5 (decide_eq_false (by omega)) (beq_iff_eq.2 (by omega)) (decide_eq_false c) (beq_iff_eq.2 z) (decide_eq_false o) (beq_iff_eq.2 o2)
        · exact h4 (decide_eq_false (by omega)) (beq_eq_false_iff_ne.2 (by omega)) (decide_eq_false c) (beq_iff_eq.2 z) (decide_eq_false o) (beq_eq_false_iff_ne.2 o2)
    · exact h3 (decide_eq_false (by omega)) (beq_eq_false_iff_ne.2 (by omega)) (decide_eq_false c) (beq_eq_false_iff_ne.2 z)
end Go.Proofs.YteldgdlpfailgaaDoor
