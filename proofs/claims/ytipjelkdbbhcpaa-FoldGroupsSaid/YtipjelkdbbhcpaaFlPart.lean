
/-
  Plain facts: the parts of an int64: a float and a rest; the reference's loop. No program in sight.
-/
import Derived.Test.YtipjelkdbbhcpaaFlWhole
set_option linter.unusedSimpArgs false
set_option linter.unusedVariables false
set_option exponentiation.threshold 3000
namespace Go.Proofs.Ytipjelkdbbhcpaa
namespace Fl

structure LInv (n m : Int) (k : Nat) : Prop where
  kl : k ≤ 10
  me : m = n / 2 ^ k
  b : k = 0 ∨ 4503599627370496 ≤ m ∨ m ≤ -4503599627370497

theorem pow2_pos (k : Nat) : (0 : Int) < 2 ^ k := Int.pow_pos (by decide)
theorem inv_start (n : Int) : LInv n n 0 := ⟨by omega, by simp, .inl rfl⟩
theorem div_bound {n : Int} {k : Nat} (h1 : -9223372036854775808 ≤ n) (h2 : n ≤ 9223372036854775807) (hk : 10 ≤ k) : -9007199254740992 ≤ n / 2 ^ k ∧ n / 2 ^ k ≤ 9007199254740992 := by
  have hp := pow2_pos k
  have hle : (1024 : Int) ≤ 2 ^ k := by
    have h := pow_le hk
    have e : ((2 ^ k : Nat) : Int) = 2 ^ k := by simp
    rw [← e]; omega
  constructor
  · rw [Int.le_ediv_iff_mul_le hp]
    have : (-9007199254740992 : Int) * 2 ^ k ≤ -9007199254740992 * 1024 := Int.mul_le_mul_of_nonpos_left (by omega) hle
    omega
  · have h3 : n / 2 ^ k < 9007199254740993 := by
      rw [Int.ediv_lt_iff_lt_mul hp]
      have : (9007199254740993 : Int) * 1024 ≤ 9007199254740993 * 2 ^ k := Int.mul_le_mul_of_nonneg_left hle (by omega)
      omega
    omega
theorem inv_step {n m : Int} {k : Nat} (h : LInv n m k) (h1 : -9223372036854775808 ≤ n) (h2 : n ≤ 9223372036854775807) (hm : 9007199254740992 < m ∨ m < -9007199254740992) : LInv n (m / 2) (k + 1) := by
  have hk : k < 10 := by
    rcases Nat.lt_or_ge k 10 with h' | h'
    · exact h'
    · have := div_bound h1 h2 h'
      rw [← h.me] at this; omega
  refine ⟨by omega, ?_, .inr (by omega)⟩
  rw [h.me, Int.pow_succ, Int.ediv_ediv_of_nonneg (Int.le_of_lt (pow2_pos k))]
theorem inv_ends {n : Int} (h1 : -9223372036854775808 ≤ n) (h2 : n ≤ 9223372036854775807) : ∃ m k, LInv n m k ∧ m.natAbs ≤ 9007199254740992 := by
  suffices h : ∀ d k m, k + d = 10 → LInv n m k → ∃ m k, LInv n m k ∧ m.natAbs ≤ 9007199254740992 from h 10 0 n rfl (inv_start n)
  intro d
  induction d with
  | zero =>
    intro k m hk hi
    have := div_bound h1 h2 (show 10 ≤ k by omega)
    rw [← hi.me] at this
    exact ⟨m, k, hi, by omega⟩
  | succ d ih =>
    intro k m hk hi
    by_cases hm : 9007199254740992 < m ∨ m < -9007199254740992
    · exact ih (k + 1) (m / 2) (by omega) (inv_step hi h1 h2 hm)
    · exact ⟨m, k, hi, by omega⟩

theorem tz_of_SV {w : Nat} {q : Int} (h : SV (sr w) = q * U) : tz w = q ∧ V (rung w) % U = 0 := by
  have hU := U_pos
  rw [← sv_eq] at h
  unfold tz
  cases hn : neg w <;> rw [hn] at h <;> simp only [Bool.false_eq_true, if_false, if_true] at h ⊢
  · have hq : 0 ≤ q := by
      rcases (show 0 ≤ q ∨ q < 0 by omega) with h' | h'
      · exact h'
      · have := Int.mul_neg_of_neg_of_pos h' (show (0 : Int) < U by omega); omega
    obtain ⟨j, rfl⟩ := Int.eq_ofNat_of_zero_le hq
    have e : V (rung w) = j * U := by exact_mod_cast h
    rw [e, Nat.mul_div_cancel _ hU, Nat.mul_mod_left]
    exact ⟨rfl, rfl⟩
  · have hq : q ≤ 0 := by
      rcases (show q ≤ 0 ∨ 0 < q by omega) with h' | h'
      · exact h'
      · have := Int.mul_pos h' (show (0 : Int) < U by omega); omega
    obtain ⟨j, hj⟩ := Int.eq_ofNat_of_zero_le (show 0 ≤ -q by omega)
    obtain rfl : q = -(j : Int) := by omega
    have e : V (rung w) = j * U := by
      have : (V (rung w) : Int) = (j : Int) * U := by rw [Int.neg_mul] at h; omega
      exact_mod_cast this
    rw [e, Nat.mul_div_cancel _ hU, Nat.mul_mod_left]
    exact ⟨rfl, rfl⟩

/-- what the loop's end gives: the float, and what is over -/
theorem inv_floor {n m : Int} {k : Nat} (h : LInv n m k) (hm : m.natAbs ≤ 9007199254740992) :
    ∃ w : Nat, floatBits .mul .f64 (floatOfInt .f64 m) (floatOfInt .f64 ((2 ^ k : Nat) : Int)) = some w ∧ IsFloor n w ∧ tz w = m * 2 ^ k ∧ V (rung w) % U = 0 ∧ 0 ≤ n - m * 2 ^ k ∧ n - m * 2 ^ k < 2 ^ k := by
  have hk := h.kl
  obtain ⟨r, h1, h2, h3⟩ := mul_pow m k hm (by omega)
  have hp := pow2_pos k
  have e := Int.mul_ediv_add_emod n (2 ^ k)
  have l1 := Int.emod_nonneg n (show (2 : Int) ^ k ≠ 0 by omega)
  have l2 := Int.emod_lt_of_pos n hp
  have e2 : n = m * 2 ^ k + n % 2 ^ k := by rw [h.me, Int.mul_comm]; exact e.symm
  obtain ⟨f1, f2⟩ := ref_floor n m (n % 2 ^ k) k r e2 l1 l2 hm (by omega) h.b h2 h3
  obtain ⟨t1, t2⟩ := tz_of_SV f2
  exact ⟨_, h1, f1, t1, t2, by omega, by omega⟩

/-- the parts of an int64, whichever way -/
theorem split_all {n : Int} (h1 : -9223372036854775808 ≤ n) (h2 : n ≤ 9223372036854775807) :
    IsFloor n (splitW n) ∧ V (rung (splitW n)) % U = 0 ∧ 0 ≤ n - tz (splitW n) ∧ n - tz (splitW n) < 1024 + 1 := by
  obtain ⟨m, k, hi, hm⟩ := inv_ends h1 h2
  obtain ⟨w, _, f, t, v, o1, o2⟩ := inv_floor hi hm
  have hs := splitW_floor n h1 h2
  obtain rfl := f.unique hs
  have hk := hi.kl
  have hle : (2 : Int) ^ k ≤ 1024 := by
    have h := pow_le hk
    have e : ((2 ^ k : Nat) : Int) = 2 ^ k := by simp
    rw [← e]; omega
  rw [t]
  exact ⟨hs, v, o1, by omega⟩
theorem inv_split {n m : Int} {k : Nat} (h1 : -9223372036854775808 ≤ n) (h2 : n ≤ 9223372036854775807) (h : LInv n m k) (hm : m.natAbs ≤ 9007199254740992) :
    floatBits .mul .f64 (floatOfInt .f64 m) (floatOfInt .f64 ((2 ^ k : Nat) : Int)) = some (splitW n) ∧ tz (splitW n) = m * 2 ^ k := by
  obtain ⟨w, hw, f, t, v, o1, o2⟩ := inv_floor h hm
  obtain rfl := f.unique (splitW_floor n h1 h2)
  exact ⟨hw, t⟩

theorem toInt_tz {x : Nat} (h : rung x < 9218868437227405312) (h1 : -9223372036854775808 ≤ tz x) (h2 : tz x ≤ 9223372036854775807) : floatToIntVal .f64 x .i64 = some (tz x) := by
  unfold floatToIntVal
  rw [toInt_zero h]
  show (if IntKind.i64.min ≤ tz x ∧ tz x ≤ IntKind.i64.max then some (tz x) else none) = _
  rw [if_pos ⟨h1, h2⟩]
end Fl
end Go.Proofs.Ytipjelkdbbhcpaa
