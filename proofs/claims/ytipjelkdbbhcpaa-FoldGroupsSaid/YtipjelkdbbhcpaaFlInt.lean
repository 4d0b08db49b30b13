
/-
  Plain facts: the float nearest to a whole number, the whole part of a float, the greatest float not above a whole number. No program in sight.
-/
import Derived.Test.YtipjelkdbbhcpaaFl
set_option linter.unusedSimpArgs false
set_option linter.unusedVariables false
set_option exponentiation.threshold 3000
namespace Go.Proofs.Ytipjelkdbbhcpaa
namespace Fl

/-- one, in units of the least place -/
@[irreducible] def U : Nat := 2 ^ 1074
theorem U_pow (e : Nat) (h : e = 1074) : U = 2 ^ e := by subst h; with_unfolding_all rfl
theorem U_pos : 0 < U := by rw [U_pow _ rfl]; exact Nat.two_pow_pos _

theorem V_at (e k : Nat) (h1 : 4503599627370496 ≤ k) (h2 : k ≤ 9007199254740992) : V (e * 4503599627370496 + k) = k * 2 ^ e := by
  unfold V
  by_cases h : k = 9007199254740992
  · subst h
    rw [if_neg (by omega), show (e * 4503599627370496 + 9007199254740992) % 4503599627370496 = 0 by omega, show (e * 4503599627370496 + 9007199254740992) / 4503599627370496 - 1 = e + 1 by omega, Nat.pow_succ, Nat.mul_comm (2 ^ e) 2, ← Nat.mul_assoc]
  · rw [if_neg (by omega), show (e * 4503599627370496 + k) % 4503599627370496 = k - 4503599627370496 by omega, show (e * 4503599627370496 + k) / 4503599627370496 - 1 = e by omega, show 4503599627370496 + (k - 4503599627370496) = k by omega]

theorem cut_zero (s : Bool) (n : Nat) (way : Ieee.Toward) : way.cut s n 0 = n := by
  unfold Ieee.Toward.cut
  simp
  cases way <;> simp [Nat.mod_one]
theorem cut_down (s : Bool) (n drop : Nat) : Ieee.Toward.zero.cut s n drop = n / 2 ^ drop := by
  unfold Ieee.Toward.cut
  simp only [Nat.one_shiftLeft, Bool.toNat_false, Nat.add_zero]
  by_cases h : drop ≤ n.log2 + 2
  · rw [Nat.min_eq_left h]
  · have h1 : n < 2 ^ (n.log2 + 1) := Nat.lt_log2_self
    have h2 : 2 ^ (n.log2 + 1) ≤ 2 ^ (n.log2 + 2) := Nat.pow_le_pow_right (by decide) (by omega)
    have h3 : 2 ^ (n.log2 + 2) ≤ 2 ^ drop := Nat.pow_le_pow_right (by decide) (by omega)
    rw [Nat.min_eq_right (by omega), Nat.div_eq_of_lt (by omega), Nat.div_eq_of_lt (by omega)]
theorem cut_even (s : Bool) (n drop : Nat) : ∃ b : Bool, Ieee.Toward.even.cut s n drop = n / 2 ^ (min drop (n.log2 + 2)) + b.toNat ∧ (n % 2 ^ (min drop (n.log2 + 2)) = 0 → b = false) := by
  unfold Ieee.Toward.cut
  simp only [Nat.one_shiftLeft]
  refine ⟨_, rfl, fun h => ?_⟩
  rw [h]
  have : 0 < 2 ^ (min drop (n.log2 + 2)) := Nat.two_pow_pos _
  simp

theorem small_rung (L j : Nat) (h : L ≤ 63) (hj : j ≤ 9007199254740992) : (L + 1022) * 4503599627370496 + j < 9218868437227405312 := by omega
theorem small_min (L j : Nat) (h : L ≤ 63) (hj : j ≤ 9007199254740992) : min ((L + 1022) * 4503599627370496 + j) 9218868437227405312 = (L + 1022) * 4503599627370496 + j := Nat.min_eq_left (Nat.le_of_lt (small_rung L j h hj))
/-- the rung of the float nearest to a magnitude up to 2^63: the one below it or the one above it; the one that it is, if it is one -/
theorem nearest_rung (s : Bool) (m : Nat) (h0 : 0 < m) (hm : m ≤ 9223372036854775808) :
    ∃ r k : Nat, Ieee.double.nearest s m 0 = (if s then 9223372036854775808 + k else k) ∧ k < 9218868437227405312 ∧ V r ≤ m * U ∧ m * U < V (r + 1) ∧ (k = r ∨ k = r + 1) ∧ (V r = m * U → k = r) ∧ (m < 9007199254740992 → V k = m * U) := by
  have hl1 : 2 ^ m.log2 ≤ m := Nat.log2_self_le (by omega)
  have hl2 : m < 2 ^ (m.log2 + 1) := Nat.lt_log2_self
  have hl : m.log2 ≤ 63 := by
    rcases Nat.lt_or_ge 63 m.log2 with h | h
    · have : 2 ^ 64 ≤ 2 ^ m.log2 := Nat.pow_le_pow_right (by decide) (by omega)
      omega
    · exact h
  have hf : Ieee.double.fractionBits = 52 := rfl
  have hw : ∀ k, Ieee.double.word s k = (if s then 9223372036854775808 + k else k) := fun k => by unfold Ieee.Format.word; rw [sw]
  unfold Ieee.Format.nearest
  rw [if_neg (by omega)]
  simp only [hf, lp, bn, ir, hw]
  obtain ⟨L, hL⟩ : ∃ L, L = m.log2 := ⟨_, rfl⟩
  rw [← hL] at hl1 hl2 hl ⊢
  have hmax : max (0 + (L : Int) - ((52 : Nat) : Int)) (-1074) = (L : Int) - 52 := by omega
  rw [hmax]
  have e1 : ((L : Int) - 52 - -1074).toNat = L + 1022 := by omega
  rw [e1]
  by_cases h : L ≤ 52
  · have e2 : (0 - ((L : Int) - 52)).toNat = 52 - L := by omega
    have e3 : ((L : Int) - 52 - 0).toNat = 0 := by omega
    rw [e2, e3, cut_zero, Nat.shiftLeft_eq]
    have p1 : 2 ^ L * 2 ^ (52 - L) = 4503599627370496 := by rw [← Nat.pow_add, show L + (52 - L) = 52 by omega]
    have p2 : 2 ^ (L + 1) * 2 ^ (52 - L) = 9007199254740992 := by rw [← Nat.pow_add, show L + 1 + (52 - L) = 53 by omega]
    have p3 : 4503599627370496 ≤ m * 2 ^ (52 - L) := by rw [← p1]; exact Nat.mul_le_mul_right _ hl1
    have p4 : m * 2 ^ (52 - L) < 9007199254740992 := by rw [← p2]; exact Nat.mul_lt_mul_of_pos_right hl2 (Nat.two_pow_pos _)
    have p5 : V ((L + 1022) * 4503599627370496 + m * 2 ^ (52 - L)) = m * U := by
      rw [V_at _ _ p3 (by omega), Nat.mul_assoc, ← Nat.pow_add, ← U_pow _ (by omega)]
    generalize hj : m * 2 ^ (52 - L) = j at *
    rw [small_min L j hl (Nat.le_of_lt p4)]
    exact ⟨(L + 1022) * 4503599627370496 + j, (L + 1022) * 4503599627370496 + j, rfl, small_rung L j hl (Nat.le_of_lt p4), Nat.le_of_eq p5, p5 ▸ V_succ _, .inl rfl, fun _ => rfl, fun _ => p5⟩
  · obtain ⟨d, rfl⟩ : ∃ d, L = 52 + d := ⟨L - 52, by omega⟩
    have e2 : (0 - (((52 + d : Nat) : Int) - 52)).toNat = 0 := by omega
    have e3 : (((52 + d : Nat) : Int) - 52 - 0).toNat = d := by omega
    rw [e2, e3, Nat.shiftLeft_zero]
    obtain ⟨b, hb, hb0⟩ := cut_even s m d
    rw [← hL, Nat.min_eq_left (by omega)] at hb hb0
    rw [hb]
    have hp : 0 < 2 ^ d := Nat.two_pow_pos d
    have hdm := Nat.div_add_mod m (2 ^ d)
    have hlt := Nat.mod_lt m hp
    have q1 : 4503599627370496 ≤ m / 2 ^ d := by
      rw [Nat.le_div_iff_mul_le hp]
      have : (2 : Nat) ^ (52 + d) = 4503599627370496 * 2 ^ d := by rw [Nat.pow_add]
      omega
    have q2 : m / 2 ^ d < 9007199254740992 := by
      rw [Nat.div_lt_iff_lt_mul hp]
      have : (2 : Nat) ^ (52 + d + 1) = 9007199254740992 * 2 ^ d := by rw [show 52 + d + 1 = 53 + d by omega, Nat.pow_add]
      omega
    generalize m / 2 ^ d = lo at *
    
    have u2 : (2 : Nat) ^ (52 + d + 1022) = 2 ^ d * U := by rw [show 52 + d + 1022 = d + 1074 by omega, Nat.pow_add, ← U_pow _ (Eq.refl _)]
    obtain ⟨R, hR⟩ : ∃ R, R = (52 + d + 1022) * 4503599627370496 := ⟨_, rfl⟩
    have v1 : V (R + lo) = 2 ^ d * lo * U := by
      rw [hR, V_at _ _ q1 (by omega), u2, ← Nat.mul_assoc, Nat.mul_comm lo]
    have v2 : V (R + (lo + 1)) = (2 ^ d * lo + 2 ^ d) * U := by
      rw [hR, V_at _ _ (by omega) (by omega), u2, ← Nat.mul_assoc, Nat.add_mul lo 1, Nat.one_mul, Nat.mul_comm lo]
    have hbn : lo + b.toNat ≤ 9007199254740992 := by cases b <;> simp <;> omega
    have s1 : min (R + (lo + b.toNat)) 9218868437227405312 = R + (lo + b.toNat) := by rw [hR]; exact small_min _ _ hl hbn
    have s2 : R + (lo + b.toNat) < 9218868437227405312 := by rw [hR]; exact small_rung _ _ hl hbn
    rw [← hR, s1]
    clear hR u2 s1 hw hmax e1 e2 e3
    refine ⟨R + lo, R + (lo + b.toNat), rfl, s2, ?_, ?_, ?_, fun he => ?_, fun hh => ?_⟩
    · rw [v1]; exact Nat.mul_le_mul_right _ (by omega)
    · rw [Nat.add_assoc, v2]; exact Nat.mul_lt_mul_of_pos_right (by omega) U_pos
    · cases b
      · exact .inl rfl
      · exact .inr rfl
    · rw [v1] at he
      have := Nat.eq_of_mul_eq_mul_right U_pos he
      rw [hb0 (by omega)]; rfl
    · exfalso
      have : (2 : Nat) ^ 53 ≤ 2 ^ (52 + d) := Nat.pow_le_pow_right (by decide) (by omega)
      omega

/-- a float's whole part -/
theorem toInt_zero {x : Nat} (h : rung x < 9218868437227405312) : (FloatKind.f64.decode x).toInt .zero = some (if neg x then -((V (rung x) / U : Nat) : Int) else ((V (rung x) / U : Nat) : Int)) := by
  obtain ⟨m, e, h1, h2⟩ := read_fin h
  have hd : FloatKind.f64.decode x = Ieee.double.read x := rfl
  rw [hd, h1, ← h2]
  simp only [Ieee.Datum.toInt, Ieee.Datum.integral]
  rw [cut_down]
  have hq : m <<< (-1074 + (e : Int)).toNat / 2 ^ (-(-1074 + (e : Int))).toNat = m * 2 ^ e / U := by
    rw [Nat.shiftLeft_eq]
    by_cases he : 1074 ≤ e
    · rw [show (-1074 + (e : Int)).toNat = e - 1074 by omega, show (-(-1074 + (e : Int))).toNat = 0 by omega]
      have he2 : (2 : Nat) ^ e = 2 ^ (e - 1074) * U := by rw [U_pow (e - (e - 1074)) (by omega), ← Nat.pow_add, show e - 1074 + (e - (e - 1074)) = e by omega]
      rw [he2, ← Nat.mul_assoc, Nat.mul_div_cancel _ U_pos]
      simp
    · rw [show (-1074 + (e : Int)).toNat = 0 by omega, show (-(-1074 + (e : Int))).toNat = 1074 - e by omega]
      rw [U_pow (1074 - e + e) (by omega), Nat.pow_add, Nat.mul_div_mul_right _ _ (Nat.two_pow_pos _)]
      simp
  rw [hq]
  unfold Ieee.signed
  simp
end Fl
end Go.Proofs.Ytipjelkdbbhcpaa
