
/-
  Plain facts on the floats of the model (words of 64 bits): their order is that of their signed rungs. No program in sight.
-/
import Derived.Laws.Cover2
import Derived.Laws.FloatArith
set_option linter.unusedSimpArgs false
set_option linter.unusedVariables false
namespace Go.Proofs.Ytipjelkdbbhcpaa
namespace Fl

/-- a word's sign, its rung, its signed rung -/
def neg (x : Nat) : Bool := x / 9223372036854775808 % 2 == 1
def rung (x : Nat) : Nat := x % 9223372036854775808
def sr (x : Nat) : Int := if neg x then -(rung x : Int) else (rung x : Int)
def isNaN (x : Nat) : Bool := decide (9218868437227405312 < rung x)
def isFin (x : Nat) : Bool := decide (rung x < 9218868437227405312)

/-- a magnitude, in units of the least place -/
def V (r : Nat) : Nat := if r < 4503599627370496 then r else (4503599627370496 + r % 4503599627370496) * 2 ^ (r / 4503599627370496 - 1)
def SV (r : Int) : Int := if r < 0 then -(V r.natAbs : Int) else (V r.natAbs : Int)

theorem V_succ (r : Nat) : V r < V (r + 1) := by
  unfold V
  by_cases h1 : r + 1 < 4503599627370496
  · rw [if_pos (by omega), if_pos h1]; omega
  · by_cases h2 : r < 4503599627370496
    · obtain rfl : r = 4503599627370495 := by omega
      decide
    · rw [if_neg h2, if_neg h1]
      have hp : 0 < 2 ^ (r / 4503599627370496 - 1) := Nat.two_pow_pos _
      by_cases h3 : r % 4503599627370496 + 1 < 4503599627370496
      · rw [show (r + 1) / 4503599627370496 = r / 4503599627370496 by omega, show (r + 1) % 4503599627370496 = r % 4503599627370496 + 1 by omega]
        exact Nat.mul_lt_mul_of_pos_right (by omega) hp
      · rw [show (r + 1) / 4503599627370496 - 1 = (r / 4503599627370496 - 1) + 1 by omega, show (r + 1) % 4503599627370496 = 0 by omega, Nat.pow_succ]
        have h4 : r % 4503599627370496 = 4503599627370495 := by omega
        rw [h4, Nat.mul_comm (2 ^ _) 2, ← Nat.mul_assoc]
        exact Nat.mul_lt_mul_of_pos_right (by omega) hp

theorem V_lt {r s : Nat} (h : r < s) : V r < V s := by
  obtain ⟨d, rfl⟩ : ∃ d, s = r + 1 + d := ⟨s - (r + 1), by omega⟩
  clear h
  induction d with
  | zero => exact V_succ r
  | succ d ih => exact Nat.lt_trans ih (V_succ _)
theorem V_le {r s : Nat} (h : r ≤ s) : V r ≤ V s := by
  rcases Nat.lt_or_ge r s with h' | h'
  · exact Nat.le_of_lt (V_lt h')
  · rw [show r = s by omega]; exact Nat.le_refl _
theorem V_zero : V 0 = 0 := by decide
theorem V_pos {r : Nat} (h : 0 < r) : 0 < V r := by have := V_lt h; rw [V_zero] at this; exact this
theorem SV_lt {r s : Int} (h : r < s) : SV r < SV s := by
  unfold SV
  by_cases hr : r < 0 <;> by_cases hs : s < 0
  · rw [if_pos hr, if_pos hs]; have := V_lt (show s.natAbs < r.natAbs by omega); omega
  · rw [if_pos hr, if_neg hs]; have := V_pos (show 0 < r.natAbs by omega); omega
  · omega
  · rw [if_neg hr, if_neg hs]; have := V_lt (show r.natAbs < s.natAbs by omega); omega
theorem SV_le {r s : Int} (h : r ≤ s) : SV r ≤ SV s := by
  rcases (show r < s ∨ s ≤ r by omega) with h' | h'
  · exact Int.le_of_lt (SV_lt h')
  · rw [show r = s by omega]; exact Int.le_refl _
theorem SV_lt_iff {r s : Int} : SV r < SV s ↔ r < s := ⟨fun h => by
  rcases (show r < s ∨ s ≤ r by omega) with h' | h'
  · exact h'
  · have := SV_le h'; omega, SV_lt⟩

theorem sw : Ieee.double.signWeight = 9223372036854775808 := by decide
theorem bn : Ieee.double.binade = 4503599627370496 := by decide
theorem ir : Ieee.double.infRung = 9218868437227405312 := by decide
theorem lp : Ieee.double.leastPlace = -1074 := by decide

theorem read_eq (x : Nat) : Ieee.double.read x = if rung x < 4503599627370496 then .number (neg x) (rung x) (-1074) else if rung x < 9218868437227405312 then .number (neg x) (4503599627370496 + rung x % 4503599627370496) (-1074 + (rung x / 4503599627370496 - 1 : Nat)) else if rung x = 9218868437227405312 then .infinity (neg x) else .nan (neg x) (rung x - 9218868437227405312) := by
  unfold Ieee.Format.read
  simp only [sw, bn, ir, lp]
  rfl

theorem read_fin {x : Nat} (h : rung x < 9218868437227405312) : ∃ m e : Nat, Ieee.double.read x = .number (neg x) m (-1074 + (e : Int)) ∧ m * 2 ^ e = V (rung x) := by
  rw [read_eq]
  by_cases h1 : rung x < 4503599627370496
  · exact ⟨rung x, 0, by rw [if_pos h1]; rfl, by unfold V; rw [if_pos h1]; simp⟩
  · exact ⟨_, _, by rw [if_neg h1, if_pos h], by unfold V; rw [if_neg h1]⟩
theorem read_inf {x : Nat} (h : rung x = 9218868437227405312) : Ieee.double.read x = .infinity (neg x) := by
  rw [read_eq, if_neg (by omega), if_neg (by omega), if_pos h]
theorem read_nan {x : Nat} (h : 9218868437227405312 < rung x) : ∃ t, Ieee.double.read x = .nan (neg x) t := by
  rw [read_eq, if_neg (by omega), if_neg (by omega), if_neg (by omega)]; exact ⟨_, rfl⟩

theorem signed_mul (s : Bool) (m up k : Nat) : Ieee.signed s m up * (2 ^ k : Nat) = if s then -((m * 2 ^ (up + k) : Nat) : Int) else ((m * 2 ^ (up + k) : Nat) : Int) := by
  unfold Ieee.signed
  have h : m <<< up * 2 ^ k = m * 2 ^ (up + k) := by rw [Nat.shiftLeft_eq, Nat.mul_assoc, ← Nat.pow_add]
  cases s
  · simp only [Bool.false_eq_true, if_false]; rw [← h]; simp
  · simp only [if_true]; rw [← h, Int.neg_mul]; congr 1

theorem compare_mul (a b : Int) (k : Nat) (hk : 0 < k) : compare a b = compare (a * k) (b * k) := by
  have h1 : a < b ↔ a * k < b * k := ⟨fun h => Int.mul_lt_mul_of_pos_right h (by omega), fun h => Int.lt_of_mul_lt_mul_right h (by omega)⟩
  have h2 : a = b ↔ a * k = b * k := ⟨fun h => by rw [h], fun h => Int.eq_of_mul_eq_mul_right (by omega) h⟩
  simp only [compare, compareOfLessAndEq, ← h1, ← h2]

theorem compare_SV (r s : Int) : compare (SV r) (SV s) = compare r s := by
  have h1 := @SV_lt_iff r s
  have h2 : SV r = SV s ↔ r = s := ⟨fun h => by
    rcases Int.lt_trichotomy r s with h' | h' | h'
    · have := SV_lt h'; omega
    · exact h'
    · have := SV_lt h'; omega, fun h => by rw [h]⟩
  simp only [compare, compareOfLessAndEq, h1, h2]

theorem sv_eq (x : Nat) : (if neg x then -(V (rung x) : Int) else (V (rung x) : Int)) = SV (sr x) := by
  unfold SV sr
  by_cases h : neg x = true
  · simp only [h, if_true]
    by_cases h0 : rung x = 0
    · rw [h0]; simp [V_zero]
    · rw [if_pos (by omega), show (-(rung x : Int)).natAbs = rung x by omega]
  · simp only [h, Bool.false_eq_true, if_false]
    rw [if_neg (by omega), Int.natAbs_natCast]

theorem order_fin {a b : Nat} (ha : rung a < 9218868437227405312) (hb : rung b < 9218868437227405312) : Ieee.double.order a b = some (compare (sr a) (sr b)) := by
  obtain ⟨m, e, h1, h2⟩ := read_fin ha
  obtain ⟨n, f, h3, h4⟩ := read_fin hb
  unfold Ieee.Format.order
  rw [h1, h3]
  simp only [Ieee.Datum.order]
  congr 1
  rw [← compare_SV (sr a) (sr b), ← sv_eq, ← sv_eq, ← h2, ← h4]
  obtain ⟨k, hk⟩ : ∃ k : Nat, k = min e f := ⟨_, rfl⟩
  have e1 : ((-1074 + (e : Int)) - min (-1074 + (e : Int)) (-1074 + (f : Int))).toNat = e - k := by omega
  have e2 : ((-1074 + (f : Int)) - min (-1074 + (e : Int)) (-1074 + (f : Int))).toNat = f - k := by omega
  rw [e1, e2, compare_mul _ _ (2 ^ k) (Nat.two_pow_pos k), signed_mul, signed_mul, Nat.sub_add_cancel (by omega), Nat.sub_add_cancel (by omega)]

theorem cmp_lt {a b : Int} (h : a < b) : compare a b = .lt := by simp [compare, compareOfLessAndEq, h]
theorem cmp_gt {a b : Int} (h : b < a) : compare a b = .gt := by
  simp only [compare, compareOfLessAndEq]; rw [if_neg (by omega), if_neg (by omega)]
theorem cmp_eq {a b : Int} (h : a = b) : compare a b = .eq := by
  simp only [compare, compareOfLessAndEq]; rw [if_neg (by omega), if_pos h]
theorem cmp_is_lt {a b : Int} : (some (compare a b) == some Ordering.lt) = decide (a < b) := by
  rcases Int.lt_trichotomy a b with h | h | h
  · rw [cmp_lt h]; simp [h]
  · rw [cmp_eq h]; simp [show ¬ a < b by omega]
  · rw [cmp_gt h]; simp [show ¬ a < b by omega]
theorem cmp_is_gt {a b : Int} : (some (compare a b) == some Ordering.gt) = decide (b < a) := by
  rcases Int.lt_trichotomy a b with h | h | h
  · rw [cmp_lt h]; simp [show ¬ b < a by omega]
  · rw [cmp_eq h]; simp [show ¬ b < a by omega]
  · rw [cmp_gt h]; simp [h]
theorem cmp_is_eq {a b : Int} : (some (compare a b) == some Ordering.eq) = decide (a = b) := by
  rcases Int.lt_trichotomy a b with h | h | h
  · rw [cmp_lt h]; simp [show ¬ a = b by omega]
  · rw [cmp_eq h]; simp [h]
  · rw [cmp_gt h]; simp [show ¬ a = b by omega]

/-- the order of words that are numbers is that of their signed rungs -/
theorem order_num {a b : Nat} (ha : rung a ≤ 9218868437227405312) (hb : rung b ≤ 9218868437227405312) : Ieee.double.order a b = some (compare (sr a) (sr b)) := by
  rcases Nat.lt_or_ge (rung a) 9218868437227405312 with h1 | h1 <;> rcases Nat.lt_or_ge (rung b) 9218868437227405312 with h2 | h2
  · exact order_fin h1 h2
  · obtain ⟨m, e, h3, _⟩ := read_fin h1
    unfold Ieee.Format.order
    rw [h3, read_inf (show rung b = _ by omega)]
    simp only [Ieee.Datum.order]
    congr 1
    cases hn : neg b
    · have : sr a < sr b := by unfold sr; rw [hn]; simp only [Bool.false_eq_true, if_true, if_false]; split <;> omega
      rw [cmp_lt this]; rfl
    · have : sr b < sr a := by unfold sr; rw [hn]; simp only [Bool.false_eq_true, if_true, if_false]; split <;> omega
      rw [cmp_gt this]; rfl
  · obtain ⟨m, e, h3, _⟩ := read_fin h2
    unfold Ieee.Format.order
    rw [h3, read_inf (show rung a = _ by omega)]
    simp only [Ieee.Datum.order]
    congr 1
    cases hn : neg a
    · have : sr b < sr a := by unfold sr; rw [hn]; simp only [Bool.false_eq_true, if_true, if_false]; split <;> omega
      rw [cmp_gt this]; rfl
    · have : sr a < sr b := by unfold sr; rw [hn]; simp only [Bool.false_eq_true, if_true, if_false]; split <;> omega
      rw [cmp_lt this]; rfl
  · have e1 : rung a = 9218868437227405312 := by omega
    have e2 : rung b = 9218868437227405312 := by omega
    unfold Ieee.Format.order
    rw [read_inf e1, read_inf e2]
    simp only [Ieee.Datum.order]
    unfold sr
    rw [e1, e2]
    cases neg a <;> cases neg b <;> rfl
theorem order_nan_l {a b : Nat} (ha : 9218868437227405312 < rung a) : Ieee.double.order a b = none := by
  obtain ⟨t, h⟩ := read_nan ha
  unfold Ieee.Format.order
  rw [h]; rfl
theorem order_nan_r {a b : Nat} (hb : 9218868437227405312 < rung b) : Ieee.double.order a b = none := by
  obtain ⟨t, h⟩ := read_nan hb
  unfold Ieee.Format.order
  rw [h]
  cases Ieee.double.read a <;> rfl

/-! the comparisons as the walk has them -/
def num2 (a b : Nat) : Bool := !isNaN a && !isNaN b
theorem is_eq (a b : Nat) : (Ieee.double.order a b == some .eq) = (num2 a b && decide (sr a = sr b)) := by
  unfold num2 isNaN
  by_cases ha : 9218868437227405312 < rung a
  · rw [order_nan_l ha]; simp [ha]
  · by_cases hb : 9218868437227405312 < rung b
    · rw [order_nan_r hb]; simp [hb]
    · rw [order_num (by omega) (by omega), cmp_is_eq]; simp [ha, hb]
theorem is_lt (a b : Nat) : (Ieee.double.order a b == some .lt) = (num2 a b && decide (sr a < sr b)) := by
  unfold num2 isNaN
  by_cases ha : 9218868437227405312 < rung a
  · rw [order_nan_l ha]; simp [ha]
  · by_cases hb : 9218868437227405312 < rung b
    · rw [order_nan_r hb]; simp [hb]
    · rw [order_num (by omega) (by omega), cmp_is_lt]; simp [ha, hb]
theorem is_gt (a b : Nat) : (Ieee.double.order a b == some .gt) = (num2 a b && decide (sr b < sr a)) := by
  unfold num2 isNaN
  by_cases ha : 9218868437227405312 < rung a
  · rw [order_nan_l ha]; simp [ha]
  · by_cases hb : 9218868437227405312 < rung b
    · rw [order_nan_r hb]; simp [hb]
    · rw [order_num (by omega) (by omega), cmp_is_gt]; simp [ha, hb]
theorem ne_self (a : Nat) : (Ieee.double.order a a != some .eq) = isNaN a := by
  have h : (Ieee.double.order a a != some .eq) = !(Ieee.double.order a a == some .eq) := rfl
  rw [h, is_eq]
  cases h' : isNaN a <;> simp [num2, h']
attribute [irreducible] V SV
end Fl
end Go.Proofs.Ytipjelkdbbhcpaa
