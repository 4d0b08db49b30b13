
/-
  The reference's Fits; the laws' own awake; the walks of the laws NumAdds, NumBack, NumOrder, NumKeys.
-/
import Derived.Test.YtipjelkdbbhcpaaNumB
set_option linter.unusedSimpArgs false
set_option linter.unusedVariables false
namespace Go.Proofs.Ytipjelkdbbhcpaa
open Go.RowKit

theorem fits_add_pos (a b : Int) (ha : I64 a) (hb : I64 b) (h : 0 ≤ b) : decide (a ≤ wrap64 (9223372036854775807 - b)) = fits (a + b) := by
  have := ha.lo; have := ha.hi; have := hb.lo; have := hb.hi
  unfold wrap64 fits
  rw [Bool.eq_iff_iff]; simp; omega
theorem fits_add_neg (a b : Int) (ha : I64 a) (hb : I64 b) (h : ¬ 0 ≤ b) : decide (wrap64 (-9223372036854775808 - b) ≤ a) = fits (a + b) := by
  have := ha.lo; have := ha.hi; have := hb.lo; have := hb.hi
  unfold wrap64 fits
  rw [Bool.eq_iff_iff]; simp; omega
theorem fits_sub_pos (a b : Int) (ha : I64 a) (hb : I64 b) (h : 0 ≤ b) : decide (wrap64 (-9223372036854775808 + b) ≤ a) = fits (a - b) := by
  have := ha.lo; have := ha.hi; have := hb.lo; have := hb.hi
  unfold wrap64 fits
  rw [Bool.eq_iff_iff]; simp; omega
theorem fits_sub_neg (a b : Int) (ha : I64 a) (hb : I64 b) (h : ¬ 0 ≤ b) : decide (a ≤ wrap64 (9223372036854775807 + b)) = fits (a - b) := by
  have := ha.lo; have := ha.hi; have := hb.lo; have := hb.hi
  unfold wrap64 fits
  rw [Bool.eq_iff_iff]; simp; omega
set_option maxHeartbeats 400000 in
theorem fits_add_c (a b : Int) (w : World) (ha : I64 a) (hb : I64 b) :
    Calls Try.prog 47 #[.int .i64 a, .int .i64 b, .bool false] w fun e w' => e = .returned (.bool (fits (a + b))) ∧ w = w' := by
  by_cases h : 0 ≤ b
  · have H := Lib.hid (fits_add_pos a b ha hb h)
    go_enter Try.func47, Try.ntmps47
    go_wp2
    go_ret
    exact ⟨ret_bool H.out, rfl⟩
  · have H := Lib.hid (fits_add_neg a b ha hb h)
    go_enter Try.func47, Try.ntmps47
    go_wp2
    go_ret
    exact ⟨ret_bool H.out, rfl⟩
set_option maxHeartbeats 400000 in
theorem fits_sub_c (a b : Int) (w : World) (ha : I64 a) (hb : I64 b) :
    Calls Try.prog 47 #[.int .i64 a, .int .i64 b, .bool true] w fun e w' => e = .returned (.bool (fits (a - b))) ∧ w = w' := by
  by_cases h : 0 ≤ b
  · have H := Lib.hid (fits_sub_pos a b ha hb h)
    go_enter Try.func47, Try.ntmps47
    go_wp2
    go_ret
    exact ⟨ret_bool H.out, rfl⟩
  · have H := Lib.hid (fits_sub_neg a b ha hb h)
    go_enter Try.func47, Try.ntmps47
    go_wp2
    go_ret
    exact ⟨ret_bool H.out, rfl⟩

theorem i64_2 : I64 2 := ⟨by omega, by omega⟩
theorem i64_3 : I64 3 := ⟨by omega, by omega⟩
theorem i64_1 : I64 1 := ⟨by omega, by omega⟩
theorem i64_top : I64 9223372036854775807 := ⟨by omega, by omega⟩
theorem u64_m1 : U64 13830554455654793216 := ⟨by omega⟩
theorem u64_1 : U64 4607182418800017408 := ⟨by omega⟩
theorem cmp_m1 : cmpF 13830554455654793216 4607182418800017408 = -1 := by decide
theorem key_1 : key 4607182418800017408 = 13830554455654793216 := by decide
end Go.Proofs.Ytipjelkdbbhcpaa
