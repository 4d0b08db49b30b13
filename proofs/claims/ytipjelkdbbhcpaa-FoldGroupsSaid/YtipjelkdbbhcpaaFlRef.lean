
/-
  Plain facts: the reference's way to the greatest float not above a whole number: a product of two exact floats. Which floats are whole. No program in sight.
-/
import Derived.Test.YtipjelkdbbhcpaaFlFloor
set_option linter.unusedSimpArgs false
set_option linter.unusedVariables false
set_option exponentiation.threshold 3000
namespace Go.Proofs.Ytipjelkdbbhcpaa
namespace Fl

theorem read_fin' {x : Nat} (h : rung x < 9218868437227405312) : ∃ m e : Nat, Ieee.double.read x = .number (neg x) m (-1074 + (e : Int)) ∧ m * 2 ^ e = V (rung x) ∧ m < 9007199254740992 := by
  rw [read_eq]
  by_cases h1 : rung x < 4503599627370496
  · exact ⟨rung x, 0, by rw [if_pos h1]; rfl, by unfold V; rw [if_pos h1]; simp, by omega⟩
  · exact ⟨_, _, by rw [if_neg h1, if_pos h], by unfold V; rw [if_neg h1], by omega⟩
theorem exp_ge {m e a : Nat} (h : m * 2 ^ e = a * U) (ha : 0 < a) (hm : m < 9007199254740992) : 1022 ≤ e := by
  rcases Nat.lt_or_ge e 1022 with h' | h'
  · have hp := Nat.two_pow_pos e
    have a1 : m * 2 ^ e < 2 ^ 53 * 2 ^ e := Nat.mul_lt_mul_of_pos_right (by rw [p53]; exact hm) hp
    rw [← Nat.pow_add] at a1
    have a2 := pow_le (show 53 + e ≤ 1074 by omega)
    rw [← U_pow 1074 rfl] at a2
    have a3 := Nat.mul_le_mul_right U ha
    omega
  · exact h'

/-- the float of a whole number of up to 53 digits has just its value -/
theorem ofInt_exact (n : Int) (h : n.natAbs ≤ 9007199254740992) :
    ∃ k : Nat, floatOfInt .f64 n = (if decide (n < 0) then 9223372036854775808 + k else k) ∧ k < 9218868437227405312 ∧ V k = n.natAbs * U := by
  obtain ⟨r, k, e, hk, v1, v2, hkr, hx, hs⟩ := ofInt n (by omega) (by omega)
  refine ⟨k, e, hk, ?_⟩
  by_cases h' : n.natAbs < 9007199254740992
  · exact hs h'
  · have hn : n.natAbs = 9007199254740992 := by omega
    rw [hn] at v1 v2 hx ⊢
    have hv : V 4845873199050653696 = 9007199254740992 * U := by
      have b := V_at 1075 4503599627370496 (by omega) (by omega)
      rw [show 1075 * 4503599627370496 + 4503599627370496 = 4845873199050653696 by omega, show (1075 : Nat) = 1 + 1074 by omega, Nat.pow_add, ← U_pow 1074 rfl, ← Nat.mul_assoc, show 4503599627370496 * 2 ^ 1 = 9007199254740992 by decide] at b
      exact b
    have hr : r = 4845873199050653696 := by
      rw [← hv] at v1 v2
      rcases Nat.lt_trichotomy r 4845873199050653696 with q | q | q
      · have := V_le (show r + 1 ≤ 4845873199050653696 by omega); omega
      · exact q
      · have := V_lt q; omega
    rw [hx (by rw [hr, hv]), hr, hv]
theorem ofInt_pow (k : Nat) (hk : k ≤ 62) : ∃ j : Nat, floatOfInt .f64 ((2 ^ k : Nat) : Int) = j ∧ j < 9218868437227405312 ∧ V j = 2 ^ k * U := by
  have hp := Nat.two_pow_pos k
  have hle : 2 ^ k ≤ 2 ^ 62 := pow_le hk
  obtain ⟨r, j, e, hj, v1, v2, hkr, hx, hs⟩ := ofInt ((2 ^ k : Nat) : Int) (by omega) (by omega)
  rw [Int.natAbs_natCast] at v1 v2 hx
  rw [decide_eq_false (by omega)] at e
  have hv : V ((1022 + k) * 4503599627370496 + 4503599627370496) = 2 ^ k * U := by
    rw [V_at _ _ (by omega) (by omega), U_pow (52 + 1022) rfl, Nat.pow_add, Nat.pow_add, p52, ← Nat.mul_assoc, ← Nat.mul_assoc, Nat.mul_comm (2 ^ k) 4503599627370496, Nat.mul_assoc, Nat.mul_assoc, Nat.mul_comm (2 ^ 1022)]
  have hr : r = (1022 + k) * 4503599627370496 + 4503599627370496 := by
    rw [← hv] at v1 v2
    rcases Nat.lt_trichotomy r ((1022 + k) * 4503599627370496 + 4503599627370496) with q | q | q
    · have := V_le (show r + 1 ≤ _ from q); omega
    · exact q
    · have := V_lt q; omega
  exact ⟨j, by rw [e]; simp, hj, by rw [hx (by rw [hr, hv]), hr, hv]⟩

/-- a product with a power of two -/
theorem mul_pow (m : Int) (k : Nat) (hm : m.natAbs ≤ 9007199254740992) (hk : k ≤ 11) :
    ∃ r : Nat, floatBits .mul .f64 (floatOfInt .f64 m) (floatOfInt .f64 ((2 ^ k : Nat) : Int)) = some (if decide (m < 0) then 9223372036854775808 + r else r) ∧ r < 9218868437227405312 ∧ V r = m.natAbs * 2 ^ k * U := by
  obtain ⟨a, ha, ha1, ha2⟩ := ofInt_exact m hm
  obtain ⟨b, hb, hb1, hb2⟩ := ofInt_pow k (by omega)
  rw [hb, ha]
  have na := neg_word (decide (m < 0)) (show a < 9223372036854775808 by omega)
  have ga := rung_word (decide (m < 0)) (show a < 9223372036854775808 by omega)
  obtain ⟨x, e, q1, q2, q3⟩ := read_fin' (x := if decide (m < 0) then 9223372036854775808 + a else a) (by rw [ga]; exact ha1)
  have nb : neg b = false := neg_word false (show b < 9223372036854775808 by omega)
  have gb : rung b = b := rung_word false (show b < 9223372036854775808 by omega)
  obtain ⟨y, f, t1, t2, t3⟩ := read_fin' (x := b) (by rw [gb]; exact hb1)
  rw [na] at q1
  rw [ga, ha2] at q2
  rw [nb] at t1
  rw [gb, hb2] at t2
  have hf := exp_ge t2 (Nat.two_pow_pos k) t3
  have hd : floatBits .mul .f64 (if decide (m < 0) then 9223372036854775808 + a else a) b = ((Ieee.double.read (if decide (m < 0) then 9223372036854775808 + a else a)).product (Ieee.double.read b)).map Ieee.double.write := rfl
  rw [hd, q1, t1]
  simp only [Ieee.Datum.product, Option.map_some, Bool.xor_false, Ieee.Format.write]
  by_cases h0 : m = 0
  · subst h0
    have hx : x = 0 := by
      have : x * 2 ^ e = 0 := by rw [q2]; simp
      rcases Nat.mul_eq_zero.1 this with h | h
      · exact h
      · have := Nat.two_pow_pos e; omega
    subst hx
    exact ⟨0, by simp [Ieee.Format.nearest, Ieee.Format.word], by omega, by simp [V_zero]⟩
  · have hpos : 0 < m.natAbs := by omega
    have he := exp_ge q2 hpos q3
    -- the rung of the product
    have hab : 4503599627370496 ≤ a := by
      rcases Nat.lt_or_ge a 4503599627370496 with h' | h'
      · have c1 := V_lt h'
        rw [V_low (r := 4503599627370496) (by omega), ha2] at c1
        have c2 : 1 * U ≤ m.natAbs * U := Nat.mul_le_mul_right U hpos
        have c3 : 4503599627370496 ≤ U := by rw [U_pow 1074 rfl, ← p52]; exact pow_le (by omega)
        omega
      · exact h'
    have hat : a ≤ 4845873199050653696 := by
      have b1 := V_at 1075 4503599627370496 (by omega) (by omega)
      rw [show 1075 * 4503599627370496 + 4503599627370496 = 4845873199050653696 by omega, show (1075 : Nat) = 1 + 1074 by omega, Nat.pow_add, ← U_pow 1074 rfl, ← Nat.mul_assoc, show 4503599627370496 * 2 ^ 1 = 9007199254740992 by decide] at b1
      rcases Nat.lt_or_ge 4845873199050653696 a with q | q
      · have c1 := V_lt q
        have c2 := Nat.mul_le_mul_right U hm
        omega
      · exact q
    have hv : V (a + k * 4503599627370496) = m.natAbs * 2 ^ k * U := by
      rw [V_shift _ _ hab, ha2, Nat.mul_assoc, Nat.mul_assoc, Nat.mul_comm U]
    refine ⟨a + k * 4503599627370496, ?_, by omega, hv⟩
    have hxy : 0 < x * y := by
      refine Nat.mul_pos ?_ ?_
      · rcases Nat.eq_zero_or_pos x with h | h
        · subst h; rw [Nat.zero_mul] at q2; have := Nat.mul_pos hpos U_pos; omega
        · exact h
      · rcases Nat.eq_zero_or_pos y with h | h
        · subst h; rw [Nat.zero_mul] at t2; have := Nat.mul_pos (Nat.two_pow_pos k) U_pos; omega
        · exact h
    have hP : V (a + k * 4503599627370496) = x * y * 2 ^ (e + f - 1074) := by
      have c : V (a + k * 4503599627370496) * U = x * y * 2 ^ (e + f - 1074) * U := by
        rw [hv, U_pow 1074 rfl, Nat.mul_assoc (x * y), ← Nat.pow_add, show e + f - 1074 + 1074 = e + f by omega, Nat.pow_add, Nat.mul_mul_mul_comm, q2, t2, ← U_pow 1074 rfl, ← Nat.mul_assoc, Nat.mul_assoc (m.natAbs), Nat.mul_comm (2 ^ k) U, ← Nat.mul_assoc]
      exact Nat.eq_of_mul_eq_mul_right U_pos c
    have hn := nearest_exact (decide (m < 0)) (x * y) (e + f - 1074) (a + k * 4503599627370496) hxy (by omega) hP
    rw [show -1074 + (e : Int) + (-1074 + (f : Int)) = -1074 + ((e + f - 1074 : Nat) : Int) by omega, hn]

theorem next_binade (k a : Nat) (h : a = 9007199254740992) : (1022 + 52 + k) * 4503599627370496 + a + 1 = (1074 + (k + 1)) * 4503599627370496 + 4503599627370497 := by omega
/-- the reference's float is the greatest one not above the number -/
theorem ref_floor (n m over : Int) (k r : Nat) (hn : n = m * 2 ^ k + over) (h0 : 0 ≤ over) (h1 : over < 2 ^ k) (hm : m.natAbs ≤ 9007199254740992) (hk : k ≤ 11)
    (hb : k = 0 ∨ 4503599627370496 ≤ m ∨ m ≤ -4503599627370497) (hr : r < 9218868437227405312) (hv : V r = m.natAbs * 2 ^ k * U) :
    IsFloor n (if decide (m < 0) then 9223372036854775808 + r else r) ∧ SV (sr (if decide (m < 0) then 9223372036854775808 + r else r)) = m * 2 ^ k * U := by
  have hUp := U_pos
  have hp := Nat.two_pow_pos k
  have hr' : r < 9223372036854775808 := by omega
  have s1 := sr_word (decide (m < 0)) hr'
  have hsv : SV (sr (if decide (m < 0) then 9223372036854775808 + r else r)) = m * 2 ^ k * U := by
    rw [s1]
    by_cases h : m < 0
    · rw [decide_eq_true h, if_pos rfl, SV_neg, hv, Int.natCast_mul, Int.natCast_mul, ← Int.neg_mul, ← Int.neg_mul, show -(m.natAbs : Int) = m by omega]; simp
    · rw [decide_eq_false h, if_neg (by simp), SV_nat, hv, Int.natCast_mul, Int.natCast_mul, show (m.natAbs : Int) = m by omega]; simp
  -- the next float
  have hnext : n * U < SV (sr (if decide (m < 0) then 9223372036854775808 + r else r) + 1) := by
    rcases Nat.eq_zero_or_pos k with hk0 | hk0
    · subst hk0
      have : n * U = SV (sr (if decide (m < 0) then 9223372036854775808 + r else r)) := by
        rw [hsv]; congr 1; omega
      rw [this]; exact SV_lt (by omega)
    · have hup : n * (U : Int) < (m + 1) * 2 ^ k * U := by
        refine Int.mul_lt_mul_of_pos_right ?_ (by omega)
        rw [Int.add_mul]; omega
      refine Int.lt_of_lt_of_le hup ?_
      rw [s1]
      by_cases h : m < 0
      · -- a negative one
        rw [decide_eq_true h, if_pos rfl]
        have hmb : 4503599627370497 ≤ m.natAbs := by omega
        have hrp : 0 < r := by
          rcases Nat.eq_zero_or_pos r with q | q
          · subst q; rw [V_zero] at hv
            have := Nat.mul_pos (Nat.mul_pos (show 0 < m.natAbs by omega) hp) hUp; omega
          · exact q
        have hv1 : V ((1022 + 52 + k) * 4503599627370496 + m.natAbs) = V r := by
          rw [hv, V_at _ _ (by omega) hm, Nat.pow_add, ← U_pow (1022 + 52) rfl, Nat.mul_assoc, Nat.mul_comm U]
        have hr1 := V_inj hv1
        have hv2 : V (r - 1) = (m.natAbs - 1) * 2 ^ k * U := by
          rw [← hr1, show (1022 + 52 + k) * 4503599627370496 + m.natAbs - 1 = (1022 + 52 + k) * 4503599627370496 + (m.natAbs - 1) by omega, V_at _ _ (by omega) (by omega), Nat.pow_add, ← U_pow (1022 + 52) rfl, Nat.mul_assoc, Nat.mul_comm U]
        rw [show -(r : Int) + 1 = -((r - 1 : Nat) : Int) by omega, SV_neg, hv2, Int.natCast_mul, Int.natCast_mul, ← Int.neg_mul, ← Int.neg_mul, show -((m.natAbs - 1 : Nat) : Int) = m + 1 by omega]
        simp
      · rw [decide_eq_false h, if_neg (by simp)]
        have hmb : 4503599627370496 ≤ m.natAbs := by omega
        have hv1 : V ((1022 + 52 + k) * 4503599627370496 + m.natAbs) = V r := by
          rw [hv, V_at _ _ (by omega) hm, Nat.pow_add, ← U_pow (1022 + 52) rfl, Nat.mul_assoc, Nat.mul_comm U]
        have hr1 := V_inj hv1
        have hle : (m.natAbs + 1) * 2 ^ k * U ≤ V (r + 1) := by
          rcases Nat.lt_or_ge m.natAbs 9007199254740992 with q | q
          · rw [← hr1, Nat.add_assoc, V_at _ _ (by omega) (by omega), Nat.pow_add, ← U_pow (1022 + 52) rfl, Nat.mul_assoc, Nat.mul_comm U]; exact Nat.le_refl _
          · have q' : m.natAbs = 9007199254740992 := by omega
            have e1 := next_binade k m.natAbs q'
            have e2 : (2 : Nat) ^ (1074 + (k + 1)) = U * (2 * 2 ^ k) := by rw [Nat.pow_add, ← U_pow 1074 rfl, Nat.pow_add 2 k 1, Nat.mul_comm (2 ^ k)]
            rw [← hr1, e1, V_at _ _ (by omega) (by omega), e2, q', Nat.mul_comm U, ← Nat.mul_assoc, ← Nat.mul_assoc]
            exact Nat.mul_le_mul_right _ (Nat.mul_le_mul_right _ (by omega))
        rw [show (r : Int) + 1 = ((r + 1 : Nat) : Int) by omega, SV_nat]
        have : (((m.natAbs + 1) * 2 ^ k * U : Nat) : Int) = (m + 1) * 2 ^ k * U := by
          rw [Int.natCast_mul, Int.natCast_mul, show ((m.natAbs + 1 : Nat) : Int) = m + 1 by omega]; simp
        omega
  refine ⟨⟨word_lt _ hr', by rw [rung_word _ hr']; exact hr, ?_, hnext, ?_⟩, hsv⟩
  · rw [hsv]; refine Int.mul_le_mul_of_nonneg_right (by omega) (by omega)
  · intro hz
    rw [hz, SV_zero] at hsv
    by_cases h : m < 0
    · exfalso
      rw [s1, decide_eq_true h, if_pos rfl] at hz
      obtain rfl : r = 0 := by omega
      rw [V_zero] at hv
      have := Nat.mul_pos (Nat.mul_pos (show 0 < m.natAbs by omega) hp) hUp; omega
    · rw [s1, decide_eq_false h, if_neg (by simp)] at hz
      rw [decide_eq_false h, if_neg (by simp)]; omega
end Fl
end Go.Proofs.Ytipjelkdbbhcpaa
