
/-
  The reference's Wide.
-/
import Derived.Test.YtgcoepljlkahoaaBytesR
set_option linter.unusedSimpArgs false
set_option linter.unusedVariables false
namespace Go.Proofs.Ytgcoepljlkahoaa
open Go.RowKit

theorem plus_byte (l : List UInt8) (k : Nat) (h : k < l.length) (hk : k < 8) : IntKind.u64.wrap (IntKind.u64.wrap (wideN l k * 256) + IntKind.u64.wrap ((st l)[k]'(st_lt h)).toNat) = wideN l (k + 1) := by
  unfold wideN
  rw [st_get l k h, take_snoc l k h, wide_snoc]
  have h1 := wide_lt (l.take k)
  rw [List.length_take, Nat.min_eq_left (by omega)] at h1
  have h2 : 256 ^ k ≤ 256 ^ 7 := Nat.pow_le_pow_right (by decide) (by omega)
  have h3 := l[k].toNat_lt
  rw [wrap_u64', wrap_u64', wrap_u64']
  omega
set_option maxHeartbeats 400000 in
theorem rwide_c (l : List UInt8) (w : World) (h : l.length ≤ maxLen) :
    Calls Try.prog 25 #[.string (st l)] w fun e w' => e = .returned (.int .u64 (wideN l 8)) ∧ w = w' := by
  unfold maxLen at h
  go_enter Try.func25, Try.ntmps25
  go_wp2
  go_loop [3, 4] (fun v i => ∃ k : Nat, k ≤ 8 ∧ k ≤ l.length ∧ i = .int .i64 k ∧ v = .int .u64 (wideN l k)) (fun _ i => 8 - (intOf i).toNat)
  case atStart => exact ⟨0, by omega, by omega, rfl, rfl⟩
  case round =>
    obtain ⟨k, hk, hkl, rfl, rfl⟩ := hrel
    by_cases hl : k < l.length
    · have hl' : (k : Int) < l.length := by omega
      by_cases hlt : k < 8
      · have hlt' : (k : Int) < 8 := by omega
        have hs := plus_byte l k (by omega) (by omega)
        go_wp2
        go_round
        case rel => exact ⟨k + 1, by omega, by omega, by go_num, rfl⟩
        case measure => simp [intOf]; omega
      · have hlt' : ¬ (k : Int) < 8 := by omega
        have hkk : Hid (k = 8) := by unfold RowKit.Hid; omega
        go_wp2
        go_ret
        exact ⟨ret_int (by rw [hkk.out]), rfl⟩
    · have hl' : ¬ (k : Int) < l.length := by omega
      have hkk : Hid (k = l.length) := by unfold RowKit.Hid; omega
      go_wp2
      go_ret
      exact ⟨ret_int (by rw [hkk.out, wideN_short (by omega)]), rfl⟩
end Go.Proofs.Ytgcoepljlkahoaa
