/-
  The reference's Fits; the laws' own awake; the walks of the laws NumAdds, NumBack, NumOrder, NumKeys.
-/
import Derived.Test.YtibgbihleeocpaaNumB
set_option linter.unusedSimpArgs false
set_option linter.unusedVariables false
namespace Go.Proofs.Ytibgbihleeocpaa
open Go.RowKit

theorem fits_add_pos (a b : Int) (ha : I64 a) (hb : I64 b) (h : 0 ≤ b) : decide (a ≤ wrap64 (9223372036854775807 - b)) = fits (a + b) := by
  have := ha.lo; have := ha.hi; have := hb.lo; have := hb.hi
  unfold wrap64 fits
  rw [Bool.eq_iff_iff]; simp; omega
theorem fits_add_neg (a b : Int) (ha : I64 a) (hb : I64 b) (h : ¬ 0 ≤ b) : decide (wrap64 (-9223372036854775808 - b) ≤ a) = fits (a + b) := by
  have := ha.lo; have := ha.hi; have := hb.lo; have := hb.hi
  unfold wrap64 fits
  rw [Bool.eq_iff_iff]; simp; omega
theorem fits_sub_pos (a b : Int) (ha : I64 a) (hb : I64 b) (h : 0 ≤ b) : decide (wrap64 (-9223372036854775808 + b) ≤ a) = fits (a - b) := by
  have := ha.lo; have := ha.hi; have := hb.lo; have := hb.hi
  unfold wrap64 fits
  rw [Bool.eq_iff_iff]; simp; omega
theorem fits_sub_neg (a b : Int) (ha : I64 a) (hb : I64 b) (h : ¬ 0 ≤ b) : decide (a ≤ wrap64 (9223372036854775807 + b)) = fits (a - b) := by
  have := ha.lo; have := ha.hi; have := hb.lo; have := hb.hi
  unfold wrap64 fits
  rw [Bool.eq_iff_iff]; simp; omega
set_option maxHeartbeats 400000 in
theorem fits_add_c (a b : Int) (w : World) (ha : I64 a) (hb : I64 b) :
    Calls Try.prog 19 #[.int .i64 a, .int .i64 b, .bool false] w fun e w' => e = .returned (.bool (fits (a + b))) ∧ w = w' := by
  by_cases h : 0 ≤ b
  · have H := Lib.hid (fits_add_pos a b ha hb h)
    go_enter Try.func19, Try.ntmps19
    go_wp2
    go_ret
    exact ⟨ret_bool H.out, rfl⟩
  · have H := Lib.hid (fits_add_neg a b ha hb h)
    go_enter Try.func19, Try.ntmps19
    go_wp2
    go_ret
    exact ⟨ret_bool H.out, rfl⟩
set_option maxHeartbeats 400000 in
theorem fits_sub_c (a b : Int) (w : World) (ha : I64 a) (hb : I64 b) :
    Calls Try.prog 19 #[.int .i64 a, .int .i64 b, .bool true] w fun e w' => e = .returned (.bool (fits (a - b))) ∧ w = w' := by
  by_cases h : 0 ≤ b
  · have H := Lib.hid (fits_sub_pos a b ha hb h)
    go_enter Try.func19, Try.ntmps19
    go_wp2
    go_ret
    exact ⟨ret_bool H.out, rfl⟩
  · have H := Lib.hid (fits_sub_neg a b ha hb h)
    go_enter Try.func19, Try.ntmps19
    go_wp2
    go_ret
    exact ⟨ret_bool H.out, rfl⟩

theorem i64_2 : I64 2 := ⟨by omega, by omega⟩
theorem i64_3 : I64 3 := ⟨by omega, by omega⟩
theorem i64_1 : I64 1 := ⟨by omega, by omega⟩
theorem i64_top : I64 9223372036854775807 := ⟨by omega, by omega⟩
theorem u64_m1 : U64 13830554455654793216 := ⟨by omega⟩
theorem u64_1 : U64 4607182418800017408 := ⟨by omega⟩
theorem cmp_m1 : cmpF 13830554455654793216 4607182418800017408 = -1 := by decide
theorem key_1 : key 4607182418800017408 = 13830554455654793216 := by decide
set_option maxHeartbeats 400000 in
theorem awake_c (w : World) :
    Calls Try.prog 15 #[] w fun e w' => e = .returned (.bool true) ∧ w = w' := by
  go_enter Try.func15, Try.ntmps15
  go_wp2_with fail
  refine (add_c 2 3 _ i64_2 i64_3).mono ?_
  rintro e w1 ⟨rfl, rfl⟩
  rw [show clip (2 + 3) = 5 from by decide, show fits (2 + 3) = true from by decide]
  go_wp2_with fail
  refine (add_c 9223372036854775807 1 _ i64_top i64_1).mono ?_
  rintro e w1 ⟨rfl, rfl⟩
  rw [show fits (9223372036854775807 + 1) = false from by decide]
  go_wp2_with fail
  refine (cmp_c _ _ _ u64_m1 u64_1).mono ?_
  rintro e w1 ⟨rfl, rfl⟩
  rw [cmp_m1]
  go_wp2_with fail
  refine (key_c _ _ u64_1).mono ?_
  rintro e w1 ⟨rfl, rfl⟩
  rw [key_1]
  go_wp2_with fail
  go_ret
  exact ⟨rfl, rfl⟩
end Go.Proofs.Ytibgbihleeocpaa
