
/-
  Plain facts: which floats are whole numbers: Trunc and Floor. No program in sight.
-/
import Derived.Test.YtipjelkdbbhcpaaFlRef
set_option linter.unusedSimpArgs false
set_option linter.unusedVariables false
set_option exponentiation.threshold 3000
namespace Go.Proofs.Ytipjelkdbbhcpaa
namespace Fl

theorem parts_quot {m e : Nat} : m <<< (-1074 + (e : Int)).toNat / 2 ^ (-(-1074 + (e : Int))).toNat = m * 2 ^ e / U := by
  rw [Nat.shiftLeft_eq]
  by_cases he : 1074 ≤ e
  · rw [show (-1074 + (e : Int)).toNat = e - 1074 by omega, show (-(-1074 + (e : Int))).toNat = 0 by omega]
    have he2 : (2 : Nat) ^ e = 2 ^ (e - 1074) * U := by rw [U_pow (e - (e - 1074)) (by omega), ← Nat.pow_add, show e - 1074 + (e - (e - 1074)) = e by omega]
    rw [he2, ← Nat.mul_assoc, Nat.mul_div_cancel _ U_pos]
    simp
  · rw [show (-1074 + (e : Int)).toNat = 0 by omega, show (-(-1074 + (e : Int))).toNat = 1074 - e by omega]
    rw [U_pow (1074 - e + e) (by omega), Nat.pow_add, Nat.mul_div_mul_right _ _ (Nat.two_pow_pos _)]
    simp
theorem parts_rest {m e : Nat} : m <<< (-1074 + (e : Int)).toNat % 2 ^ (-(-1074 + (e : Int))).toNat = 0 ↔ m * 2 ^ e % U = 0 := by
  rw [Nat.shiftLeft_eq]
  by_cases he : 1074 ≤ e
  · rw [show (-1074 + (e : Int)).toNat = e - 1074 by omega, show (-(-1074 + (e : Int))).toNat = 0 by omega]
    have he2 : (2 : Nat) ^ e = 2 ^ (e - 1074) * U := by rw [U_pow (e - (e - 1074)) (by omega), ← Nat.pow_add, show e - 1074 + (e - (e - 1074)) = e by omega]
    rw [he2, ← Nat.mul_assoc, Nat.mul_mod_left]
    simp [Nat.mod_one]
  · rw [show (-1074 + (e : Int)).toNat = 0 by omega, show (-(-1074 + (e : Int))).toNat = 1074 - e by omega]
    rw [U_pow (1074 - e + e) (by omega), Nat.pow_add, Nat.mul_mod_mul_right]
    have hp := Nat.two_pow_pos e
    rw [Nat.pow_zero, Nat.mul_one]
    constructor
    · intro h; rw [h, Nat.zero_mul]
    · intro h
      rcases Nat.mul_eq_zero.1 h with h | h
      · exact h
      · omega
theorem integral_zero {x : Nat} (h : rung x < 9218868437227405312) : (FloatKind.f64.decode x).integral .zero = .number (neg x) (V (rung x) / U) 0 := by
  obtain ⟨m, e, h1, h2⟩ := read_fin h
  have hd : FloatKind.f64.decode x = Ieee.double.read x := rfl
  rw [hd, h1, ← h2]
  simp only [Ieee.Datum.integral]
  rw [cut_down, parts_quot]
theorem cut_floor (s : Bool) (n drop : Nat) : Ieee.Toward.down.cut s n drop = n / 2 ^ drop + (s && decide (n % 2 ^ drop ≠ 0)).toNat := by
  unfold Ieee.Toward.cut
  simp only [Nat.one_shiftLeft]
  by_cases h : drop ≤ n.log2 + 2
  · rw [Nat.min_eq_left h]
    congr 3
    rw [Bool.eq_iff_iff]; simp
  · have h1 : n < 2 ^ (n.log2 + 1) := Nat.lt_log2_self
    have h2 : 2 ^ (n.log2 + 1) ≤ 2 ^ (n.log2 + 2) := Nat.pow_le_pow_right (by decide) (by omega)
    have h3 : 2 ^ (n.log2 + 2) ≤ 2 ^ drop := Nat.pow_le_pow_right (by decide) (by omega)
    rw [Nat.min_eq_right (by omega), Nat.div_eq_of_lt (by omega), Nat.div_eq_of_lt (by omega), Nat.mod_eq_of_lt (by omega), Nat.mod_eq_of_lt (by omega)]
    congr 3
    rw [Bool.eq_iff_iff]; simp
theorem integral_down {x : Nat} (h : rung x < 9218868437227405312) : (FloatKind.f64.decode x).integral .down = .number (neg x) (V (rung x) / U + (neg x && decide (V (rung x) % U ≠ 0)).toNat) 0 := by
  obtain ⟨m, e, h1, h2⟩ := read_fin h
  have hd : FloatKind.f64.decode x = Ieee.double.read x := rfl
  rw [hd, h1, ← h2]
  simp only [Ieee.Datum.integral]
  rw [cut_floor, parts_quot]
  congr 5
  exact propext (not_congr parts_rest)

/-- what has a part behind the point has not many digits ahead of it -/
theorem small_of_part {x : Nat} (h : rung x < 9218868437227405312) (hr : V (rung x) % U ≠ 0) : V (rung x) / U < 4503599627370496 := by
  obtain ⟨m, e, _, h2, h3⟩ := read_fin' h
  rcases Nat.lt_or_ge e 1074 with he | he
  · rw [Nat.div_lt_iff_lt_mul U_pos, ← h2]
    have a := Nat.mul_lt_mul_of_pos_right h3 (Nat.two_pow_pos e)
    have b := pow_le (show e + 1 ≤ 1074 by omega)
    rw [← U_pow 1074 rfl, Nat.pow_succ] at b
    have c : 9007199254740992 * 2 ^ e = 4503599627370496 * (2 ^ e * 2) := by rw [Nat.mul_comm (2 ^ e) 2, ← Nat.mul_assoc]
    have d := Nat.mul_le_mul_left 4503599627370496 b
    omega
  · exfalso
    apply hr
    rw [← h2, show e = (e - 1074) + 1074 by omega, Nat.pow_add, ← U_pow 1074 rfl, ← Nat.mul_assoc, Nat.mul_mod_left]

/-- a whole number's float, written: its signed rung, and that it is a number -/
theorem wr_small (s : Bool) (q : Nat) (hq : q < 9007199254740992) : ∃ k, Ieee.double.nearest s q 0 = (if s then 9223372036854775808 + k else k) ∧ k < 9218868437227405312 ∧ V k = q * U := by
  rcases Nat.eq_zero_or_pos q with h | h
  · subst h
    refine ⟨0, ?_, by omega, by simp [V_zero]⟩
    simp [Ieee.Format.nearest, Ieee.Format.word, sw]
  · obtain ⟨r, k, e, hk, _, _, _, _, hs⟩ := nearest_rung s q h (by omega)
    exact ⟨k, e, hk, hs hq⟩
theorem wr_exact (s : Bool) (q r : Nat) (hr : r < 9218868437227405312) (hV : V r = q * U) : Ieee.double.nearest s q 0 = (if s then 9223372036854775808 + r else r) := by
  rcases Nat.eq_zero_or_pos q with h | h
  · subst h
    have : r = 0 := by
      rw [Nat.zero_mul] at hV
      rcases Nat.eq_zero_or_pos r with h | h
      · exact h
      · have := V_pos h; omega
    subst this
    simp [Ieee.Format.nearest, Ieee.Format.word, sw]
  · have := nearest_exact s q 1074 r h hr (by rw [hV, U_pow 1074 rfl])
    simpa using this

/-- what Trunc and Floor give, as words -/
def trunc (x : Nat) : Nat := FloatKind.f64.encode ((FloatKind.f64.decode x).integral .zero)
def floor (x : Nat) : Nat := FloatKind.f64.encode ((FloatKind.f64.decode x).integral .down)
theorem word_of {x : Nat} (h : x < 18446744073709551616) : (if neg x then 9223372036854775808 + rung x else rung x) = x := (word_parts h).symm
theorem trunc_whole {x : Nat} (hx : x < 18446744073709551616) (h : rung x < 9218868437227405312) (hr : V (rung x) % U = 0) : trunc x = x := by
  unfold trunc
  rw [integral_zero h]
  have he : ∀ s q, FloatKind.f64.encode (.number s q 0) = Ieee.double.nearest s q 0 := fun _ _ => rfl
  rw [he, wr_exact _ _ (rung x) h (by rw [Nat.div_mul_cancel (Nat.dvd_of_mod_eq_zero hr)]), word_of hx]
theorem floor_whole {x : Nat} (hx : x < 18446744073709551616) (h : rung x < 9218868437227405312) (hr : V (rung x) % U = 0) : floor x = x := by
  unfold floor
  rw [integral_down h]
  have he : ∀ s q, FloatKind.f64.encode (.number s q 0) = Ieee.double.nearest s q 0 := fun _ _ => rfl
  rw [he, hr]
  simp only [ne_eq, not_true_eq_false, decide_false, Bool.and_false, Bool.toNat_false, Nat.add_zero]
  rw [wr_exact _ _ (rung x) h (by rw [Nat.div_mul_cancel (Nat.dvd_of_mod_eq_zero hr)]), word_of hx]
theorem sr_ne_of_V {x k : Nat} (hk : k < 9218868437227405312) (hV : V k ≠ V (rung x)) (s : Bool) (hs : s = neg x) : sr (if s then 9223372036854775808 + k else k) ≠ sr x := by
  intro e
  rw [sr_word s (by omega)] at e
  apply hV
  have : k = rung x := by
    unfold sr at e
    rw [← hs] at e
    cases s <;> simp at e <;> omega
  rw [this]
theorem isFin_word (s : Bool) {k : Nat} (hk : k < 9218868437227405312) : rung (if s then 9223372036854775808 + k else k) < 9218868437227405312 := by rw [rung_word s (by omega)]; exact hk
theorem trunc_part {x : Nat} (h : rung x < 9218868437227405312) (hr : V (rung x) % U ≠ 0) : rung (trunc x) < 9218868437227405312 ∧ sr (trunc x) ≠ sr x := by
  unfold trunc
  rw [integral_zero h]
  have he : ∀ s q, FloatKind.f64.encode (.number s q 0) = Ieee.double.nearest s q 0 := fun _ _ => rfl
  obtain ⟨k, hk, hk1, hk2⟩ := wr_small (neg x) (V (rung x) / U) (by have := small_of_part h hr; omega)
  rw [he, hk]
  refine ⟨isFin_word _ hk1, sr_ne_of_V hk1 ?_ _ rfl⟩
  intro e
  rw [hk2] at e
  apply hr
  rw [← e, Nat.mul_mod_left]
theorem floor_part {x : Nat} (h : rung x < 9218868437227405312) (hr : V (rung x) % U ≠ 0) : rung (floor x) < 9218868437227405312 ∧ sr (floor x) ≠ sr x := by
  unfold floor
  rw [integral_down h]
  have he : ∀ s q, FloatKind.f64.encode (.number s q 0) = Ieee.double.nearest s q 0 := fun _ _ => rfl
  have hb : (neg x && decide (V (rung x) % U ≠ 0)).toNat ≤ 1 := Bool.toNat_le _
  obtain ⟨k, hk, hk1, hk2⟩ := wr_small (neg x) (V (rung x) / U + (neg x && decide (V (rung x) % U ≠ 0)).toNat) (by have := small_of_part h hr; omega)
  rw [he, hk]
  refine ⟨isFin_word _ hk1, sr_ne_of_V hk1 ?_ _ rfl⟩
  intro e
  rw [hk2] at e
  apply hr
  rw [← e, Nat.mul_mod_left]

/-- the float of a float's whole number -/
theorem ofInt_tz {x : Nat} (hx : x < 18446744073709551616) (h : rung x < 9218868437227405312) (hr : V (rung x) % U = 0) (h1 : -9223372036854775808 ≤ tz x) (h2 : tz x ≤ 9223372036854775807) :
    rung (floatOfInt .f64 (tz x)) < 9218868437227405312 ∧ sr (floatOfInt .f64 (tz x)) = sr x := by
  obtain ⟨r, k, e, hk, v1, v2, hkr, hxx, hs⟩ := ofInt (tz x) h1 h2
  have ha : (tz x).natAbs = V (rung x) / U := by
    unfold tz
    generalize V (rung x) / U = q
    split <;> omega
  have hq : V (rung x) / U * U = V (rung x) := Nat.div_mul_cancel (Nat.dvd_of_mod_eq_zero hr)
  rw [ha, hq] at v1 v2 hxx
  have hr2 : r = rung x := by
    rcases Nat.lt_trichotomy r (rung x) with q | q | q
    · have := V_le (show r + 1 ≤ rung x by omega); omega
    · exact q
    · have := V_lt q; omega
  have hk2 : k = rung x := by rw [hxx (by rw [hr2]), hr2]
  rw [e]
  refine ⟨isFin_word _ hk, ?_⟩
  rw [sr_word _ (by omega), hk2]
  unfold sr
  by_cases h0 : rung x = 0
  · rw [h0]; simp
  · have hV := V_pos (show 0 < rung x by omega)
    have hq0 : 0 < V (rung x) / U := by
      rcases Nat.eq_zero_or_pos (V (rung x) / U) with q | q
      · rw [q] at hq; omega
      · exact q
    have : decide (tz x < 0) = neg x := by
      unfold tz
      generalize V (rung x) / U = q at hq0
      cases neg x
      · simp
      · simp; omega
    rw [this]
/-- a float's size, and its whole part's -/
theorem V_bot_le {x : Nat} (h : -4890909195324358656 ≤ sr x) (h' : sr x < 4890909195324358656) : -9223372036854775808 ≤ tz x ∧ tz x ≤ 9223372036854775807 := by
  have hU := U_pos
  unfold tz
  unfold sr at h h'
  cases hn : neg x <;> simp only [hn, Bool.false_eq_true, if_false, if_true] at h h' ⊢
  · have a := V_lt (show rung x < 4890909195324358656 by omega)
    rw [V_top] at a
    have := (Nat.div_lt_iff_lt_mul hU).2 a
    generalize V (rung x) / U = q at *
    omega
  · have a := V_le (show rung x ≤ 4890909195324358656 by omega)
    rw [V_top] at a
    have := Nat.div_le_of_le_mul (show V (rung x) ≤ U * 9223372036854775808 by rw [Nat.mul_comm]; exact a)
    generalize V (rung x) / U = q at *
    omega
end Fl
end Go.Proofs.Ytipjelkdbbhcpaa
