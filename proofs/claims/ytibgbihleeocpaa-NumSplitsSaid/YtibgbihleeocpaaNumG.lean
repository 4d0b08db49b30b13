/-
  The walks of the laws NumParts and NumMixes.
-/
import Derived.Test.YtibgbihleeocpaaNumF
import Derived.Test.YtibgbihleeocpaaNumS
set_option linter.unusedSimpArgs false
set_option linter.unusedVariables false
namespace Go.Proofs.Ytibgbihleeocpaa
open Go.RowKit

theorem mix_cases (P : Prop) {n m : Int} {f : Nat} (hn : I64 n) (hm : I64 m) (h1 : mixF n f < 0 → 0 < mixF m f → n < m → P) (h2 : mixF n f < 0 → ¬ 0 < mixF m f → P) (h3 : ¬ mixF n f < 0 → P) : P := by
  by_cases c1 : mixF n f < 0
  · by_cases c2 : 0 < mixF m f
    · exact h1 c1 c2 (mix_between hn hm c1 c2)
    · exact h2 c1 c2
  · exact h3 c1
set_option maxHeartbeats 1000000 in
theorem numMixes_walk (n m : Int) (f : Nat) (w : World) (hn : I64 n) (hm : I64 m) (hf : U64 f) :
    Calls Try.prog 10 #[.int .i64 n, .int .i64 m, .float .f64 f] w (LawEnds w) := by
  have ne := mix_ne n f
  refine mix_cases _ hn hm (f := f) (fun c1 c2 c3 => ?_) (fun c1 c2 => ?_) (fun c1 => ?_)
  all_goals
    go_enter Try.func10, Try.ntmps10
    go_wp2_with fail
    refine (mix_c _ _ _ hn hf).mono ?_
    rintro e w1 ⟨rfl, hb1⟩
    go_wp2_with fail
    refine (mix_c _ _ _ hm hf).mono ?_
    rintro e w2 ⟨rfl, hb2⟩
    go_wp2_with (first | ((with_reducible refine (awake_c _).mono ?_); rintro e w3 ⟨rfl, rfl⟩) | ((with_reducible refine (rmix_c _ _ _ (by assumption) (by assumption)).mono ?_); rintro e w3 ⟨rfl, rfl⟩))
    go_ret
    exact ⟨rfl, hb1.trans (hb2.mono hb1.size)⟩

theorem part_cases (P : Prop) {a b : Int} (ha : I64 a) (hb : I64 b)
    (h1 : decide (a < b) = true → (a == b) = false → decide (cmpF (part a) (part b) < 0) = true → (cmpF (part a) (part b) == 0) = false → P)
    (h2 : decide (a < b) = true → (a == b) = false → decide (cmpF (part a) (part b) < 0) = false → (cmpF (part a) (part b) == 0) = true → decide (over a < over b) = true → (over a == over b) = false → P)
    (h3 : decide (a < b) = false → (a == b) = false → decide (cmpF (part a) (part b) < 0) = false → (cmpF (part a) (part b) == 0) = false → P)
    (h4 : decide (a < b) = false → (a == b) = false → decide (cmpF (part a) (part b) < 0) = false → (cmpF (part a) (part b) == 0) = true → decide (over a < over b) = false → (over a == over b) = false → P)
    (h5 : decide (a < b) = false → (a == b) = true → decide (cmpF (part a) (part b) < 0) = false → (cmpF (part a) (part b) == 0) = true → decide (over a < over b) = false → (over a == over b) = true → P) : P := by
  have l := part_lt ha hb
  have e := part_eq ha hb
  by_cases c : cmpF (part a) (part b) < 0
  · exact h1 (decide_eq_true (by omega)) (beq_eq_false_iff_ne.2 (by omega)) (decide_eq_true c) (beq_eq_false_iff_ne.2 (by omega))
  · by_cases z : cmpF (part a) (part b) = 0
    · by_cases o : over a < over b
      · exact h2 (decide_eq_true (by omega)) (beq_eq_false_iff_ne.2 (by omega)) (decide_eq_false c) (beq_iff_eq.2 z) (decide_eq_true o) (beq_eq_false_iff_ne.2 (by omega))
      · by_cases o2 : over a = over b
        · exact h5 (decide_eq_false (by omega)) (beq_iff_eq.2 (by omega)) (decide_eq_false c) (beq_iff_eq.2 z) (decide_eq_false o) (beq_iff_eq.2 o2)
        · exact h4 (decide_eq_false (by omega)) (beq_eq_false_iff_ne.2 (by omega)) (decide_eq_false c) (beq_iff_eq.2 z) (decide_eq_false o) (beq_eq_false_iff_ne.2 o2)
    · exact h3 (decide_eq_false (by omega)) (beq_eq_false_iff_ne.2 (by omega)) (decide_eq_false c) (beq_eq_false_iff_ne.2 z)
set_option maxHeartbeats 2000000 in
theorem numParts_walk (a b : Int) (w : World) (ha : I64 a) (hb : I64 b) :
    Calls Try.prog 9 #[.int .i64 a, .int .i64 b] w (LawEnds w) := by
  have pa := u64_part ha
  have pb := u64_part hb
  refine part_cases _ ha hb (fun c1 c2 c3 c4 => ?_) (fun c1 c2 c3 c4 c5 c6 => ?_) (fun c1 c2 c3 c4 => ?_) (fun c1 c2 c3 c4 c5 c6 => ?_) (fun c1 c2 c3 c4 c5 c6 => ?_)
  all_goals
    go_enter Try.func9, Try.ntmps9
    go_wp2_with fail
    refine (split_c _ _ ha).mono ?_
    rintro e w1 ⟨rfl, hb1⟩
    go_wp2_with fail
    refine (split_c _ _ hb).mono ?_
    rintro e w2 ⟨rfl, hb2⟩
    go_wp2_with (first | ((with_reducible refine (awake_c _).mono ?_); rintro e w3 ⟨rfl, rfl⟩) | ((with_reducible refine (cmp_c _ _ _ (by assumption) (by assumption)).mono ?_); rintro e w3 ⟨rfl, rfl⟩))
    go_ret
    refine ⟨rfl, ?_⟩
    have hb3 := hb1.trans (hb2.mono hb1.size)
    have hsz := hb3.size
    go_grown <;> first | exact hsz | (simp; omega)
end Go.Proofs.Ytibgbihleeocpaa
