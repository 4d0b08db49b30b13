
/-
  Plain facts: an exact number is written as the float that it is; the greatest float not above a whole number, by two roads. No program in sight.
-/
import Derived.Test.YtipjelkdbbhcpaaFlInt
set_option linter.unusedSimpArgs false
set_option linter.unusedVariables false
set_option exponentiation.threshold 3000
namespace Go.Proofs.Ytipjelkdbbhcpaa
namespace Fl

theorem V_inj {r s : Nat} (h : V r = V s) : r = s := by
  rcases Nat.lt_trichotomy r s with h' | h' | h'
  · have := V_lt h'; omega
  · exact h'
  · have := V_lt h'; omega
theorem V_low {r : Nat} (h : r ≤ 9007199254740992) : V r = r := by
  rcases Nat.lt_or_ge r 4503599627370496 with h1 | h1
  · unfold V; rw [if_pos h1]
  · have := V_at 0 r h1 h
    rw [Nat.zero_mul, Nat.zero_add] at this
    rw [this]; simp
theorem V_form {r : Nat} (h : 4503599627370496 ≤ r) : ∃ e k, r = e * 4503599627370496 + k ∧ 4503599627370496 ≤ k ∧ k < 9007199254740992 ∧ V r = k * 2 ^ e := by
  refine ⟨r / 4503599627370496 - 1, 4503599627370496 + r % 4503599627370496, by omega, by omega, by omega, ?_⟩
  unfold V; rw [if_neg (by omega)]
theorem V_shift (r k : Nat) (h : 4503599627370496 ≤ r) : V (r + k * 4503599627370496) = V r * 2 ^ k := by
  obtain ⟨e, m, h1, h2, h3, h4⟩ := V_form h
  rw [h4, h1, show e * 4503599627370496 + m + k * 4503599627370496 = (e + k) * 4503599627370496 + m by omega, V_at _ _ h2 (by omega), Nat.pow_add, Nat.mul_assoc]

theorem log2_lo {m : Nat} (h : 0 < m) : 2 ^ m.log2 ≤ m := Nat.log2_self_le (by omega)
theorem log2_hi (m : Nat) : m < 2 ^ (m.log2 + 1) := Nat.lt_log2_self
theorem pow_le {a b : Nat} (h : a ≤ b) : (2 : Nat) ^ a ≤ 2 ^ b := Nat.pow_le_pow_right (by decide) h
theorem pow_lt_pow {a b : Nat} (h : (2 : Nat) ^ a < 2 ^ b) : a < b := by
  rcases Nat.lt_or_ge a b with h' | h'
  · exact h'
  · have := pow_le h'; omega
theorem p52 : (2 : Nat) ^ 52 = 4503599627370496 := by decide
theorem p53 : (2 : Nat) ^ 53 = 9007199254740992 := by decide

/-- what is exactly a float is written as it -/
theorem nearest_exact (s : Bool) (m P r : Nat) (h0 : 0 < m) (hr : r < 9218868437227405312) (hV : V r = m * 2 ^ P) :
    Ieee.double.nearest s m (-1074 + (P : Int)) = (if s then 9223372036854775808 + r else r) := by
  have hl1 := log2_lo h0
  have hl2 := log2_hi m
  have hf : Ieee.double.fractionBits = 52 := rfl
  have hw : ∀ k, Ieee.double.word s k = (if s then 9223372036854775808 + k else k) := fun k => by unfold Ieee.Format.word; rw [sw]
  unfold Ieee.Format.nearest
  rw [if_neg (by omega)]
  simp only [hf, lp, bn, ir, hw]
  obtain ⟨L, hL⟩ : ∃ L, L = m.log2 := ⟨_, rfl⟩
  rw [← hL] at hl1 hl2 ⊢
  -- the exponent kept
  obtain ⟨e, he⟩ : ∃ e : Nat, e = P + L - 52 := ⟨_, rfl⟩
  have hmax : max (-1074 + (P : Int) + (L : Int) - ((52 : Nat) : Int)) (-1074) = -1074 + (e : Int) := by omega
  rw [hmax]
  have e1 : (-1074 + (e : Int) - -1074).toNat = e := by omega
  have e2 : (-1074 + (P : Int) - (-1074 + (e : Int))).toNat = P - e := by omega
  have e3 : (-1074 + (e : Int) - (-1074 + (P : Int))).toNat = e - P := by omega
  rw [e1, e2, e3]
  suffices hk : e * 4503599627370496 + Ieee.Toward.even.cut s (m <<< (P - e)) (e - P) = r by
    rw [hk, Nat.min_eq_left (Nat.le_of_lt hr)]
  clear hw hmax e1 e2 e3 hr
  by_cases h1 : e ≤ P
  · rw [show e - P = 0 by omega, cut_zero, Nat.shiftLeft_eq]
    by_cases h2 : P + L ≤ 52
    · obtain rfl : e = 0 := by omega
      have h3 : m * 2 ^ P < 9007199254740992 := by
        have q := Nat.mul_lt_mul_of_pos_right hl2 (Nat.two_pow_pos P)
        rw [← Nat.pow_add] at q
        have q2 := pow_le (show L + 1 + P ≤ 53 by omega)
        omega
      rw [Nat.sub_zero, Nat.zero_mul, Nat.zero_add, ← V_low (r := m * 2 ^ P) (by omega)] 
      apply V_inj
      rw [V_low (by rw [V_low (by omega)]; omega), V_low (by omega), hV]
    · have k1 : 4503599627370496 ≤ m * 2 ^ (P - e) := by
        have q := Nat.mul_le_mul_right (2 ^ (P - e)) hl1
        rw [← Nat.pow_add, show L + (P - e) = 52 by omega] at q
        omega
      have k2 : m * 2 ^ (P - e) < 9007199254740992 := by
        have q := Nat.mul_lt_mul_of_pos_right hl2 (Nat.two_pow_pos (P - e))
        rw [← Nat.pow_add, show L + 1 + (P - e) = 53 by omega] at q
        omega
      apply V_inj
      rw [V_at _ _ k1 (by omega), hV, Nat.mul_assoc, ← Nat.pow_add, show P - e + e = P by omega]
  · rw [show P - e = 0 by omega, Nat.shiftLeft_zero]
    obtain ⟨b, hb, hb0⟩ := cut_even s m (e - P)
    rw [← hL, Nat.min_eq_left (by omega)] at hb hb0
    -- r's own form
    have hbig : 9007199254740992 ≤ V r := by
      rw [hV]
      have q := Nat.mul_le_mul_right (2 ^ P) hl1
      rw [← Nat.pow_add] at q
      have q2 := pow_le (show 53 ≤ L + P by omega)
      omega
    have hrb : 4503599627370496 ≤ r := by
      rcases Nat.lt_or_ge r 4503599627370496 with h' | h'
      · rw [V_low (by omega)] at hbig; omega
      · exact h'
    obtain ⟨E, K, q1, q2, q3, q4⟩ := V_form hrb
    have hE : E = e := by
      have a1 : 2 ^ (52 + E) ≤ m * 2 ^ P := by rw [← hV, q4, Nat.pow_add, p52]; exact Nat.mul_le_mul_right _ q2
      have a2 : m * 2 ^ P < 2 ^ (53 + E) := by rw [← hV, q4, Nat.pow_add, p53]; exact Nat.mul_lt_mul_of_pos_right q3 (Nat.two_pow_pos _)
      have a3 : 2 ^ (L + P) ≤ m * 2 ^ P := by rw [Nat.pow_add]; exact Nat.mul_le_mul_right _ hl1
      have a4 : m * 2 ^ P < 2 ^ (L + 1 + P) := by rw [Nat.pow_add]; exact Nat.mul_lt_mul_of_pos_right hl2 (Nat.two_pow_pos _)
      have b1 := pow_lt_pow (Nat.lt_of_le_of_lt a1 a4)
      have b2 := pow_lt_pow (Nat.lt_of_le_of_lt a3 a2)
      omega
    subst hE
    have hm : m = K * 2 ^ (E - P) := by
      have : m * 2 ^ P = K * 2 ^ (E - P) * 2 ^ P := by rw [← hV, q4, Nat.mul_assoc, ← Nat.pow_add, show E - P + P = E by omega]
      exact Nat.eq_of_mul_eq_mul_right (Nat.two_pow_pos P) this
    have hp := Nat.two_pow_pos (E - P)
    rw [hb, hb0 (by rw [hm]; exact Nat.mul_mod_left _ _), hm, Nat.mul_div_cancel _ hp, q1]
    simp
end Fl
end Go.Proofs.Ytipjelkdbbhcpaa
