
/-
  Plain facts: the greatest float not above a whole number (num.Split, the reference's Split), its rest; which floats are whole (num.Whole). No program in sight.
-/
import Derived.Test.YtipjelkdbbhcpaaFlSplit
set_option linter.unusedSimpArgs false
set_option linter.unusedVariables false
set_option exponentiation.threshold 3000
namespace Go.Proofs.Ytipjelkdbbhcpaa
namespace Fl

structure IsFloor (n : Int) (w : Nat) : Prop where
  lt : w < 18446744073709551616
  fin : rung w < 9218868437227405312
  lo : SV (sr w) ≤ n * U
  hi : n * U < SV (sr w + 1)
  z : sr w = 0 → w = 0

theorem rung_lt (w : Nat) : rung w < 9223372036854775808 := Nat.mod_lt _ (by decide)
theorem word_parts {w : Nat} (h : w < 18446744073709551616) : w = (if neg w then 9223372036854775808 + rung w else rung w) := by
  unfold neg rung
  by_cases h1 : w < 9223372036854775808
  · rw [show w / 9223372036854775808 % 2 = 0 by omega]; simp; omega
  · rw [show w / 9223372036854775808 % 2 = 1 by omega]; simp; omega
theorem neg_word (s : Bool) {k : Nat} (h : k < 9223372036854775808) : neg (if s then 9223372036854775808 + k else k) = s := by
  unfold neg
  cases s
  · simp; omega
  · simp; omega
theorem rung_word (s : Bool) {k : Nat} (h : k < 9223372036854775808) : rung (if s then 9223372036854775808 + k else k) = k := by
  unfold rung
  cases s
  · simp; omega
  · simp; omega
theorem sr_word (s : Bool) {k : Nat} (h : k < 9223372036854775808) : sr (if s then 9223372036854775808 + k else k) = if s then -(k : Int) else (k : Int) := by
  unfold sr; rw [neg_word s h, rung_word s h]
theorem word_lt (s : Bool) {k : Nat} (h : k < 9223372036854775808) : (if s then 9223372036854775808 + k else k) < 18446744073709551616 := by cases s <;> simp <;> omega
theorem sr_inj {a b : Nat} (ha : a < 18446744073709551616) (hb : b < 18446744073709551616) (h : sr a = sr b) (hz : sr a = 0 → a = b) : a = b := by
  by_cases h0 : sr a = 0
  · exact hz h0
  · have h1 := word_parts ha
    have h2 := word_parts hb
    unfold sr at h h0
    cases na : neg a <;> cases nb : neg b <;> simp only [na, nb, if_true, if_false, Bool.false_eq_true] at h h0 h1 h2 <;> omega

theorem IsFloor.unique {n : Int} {w w' : Nat} (h : IsFloor n w) (h' : IsFloor n w') : w = w' := by
  have a := SV_lt_iff.1 (Int.lt_of_le_of_lt h.lo h'.hi)
  have b := SV_lt_iff.1 (Int.lt_of_le_of_lt h'.lo h.hi)
  have e : sr w = sr w' := by omega
  exact sr_inj h.lt h'.lt e (fun h0 => by rw [h.z h0, h'.z (by omega)])
theorem IsFloor.mono {n m : Int} {w v : Nat} (h : IsFloor n w) (h' : IsFloor m v) (hnm : n ≤ m) : sr w ≤ sr v := by
  have q : n * (U : Int) ≤ m * U := Int.mul_le_mul_of_nonneg_right hnm (by omega)
  have a := SV_lt_iff.1 (Int.lt_of_le_of_lt (Int.le_trans h.lo q) h'.hi)
  omega

theorem SV_zero : SV 0 = 0 := by unfold SV; rw [if_neg (by omega)]; simp [V_zero]
theorem SV_nat (r : Nat) : SV (r : Int) = V r := by unfold SV; rw [if_neg (by omega), Int.natAbs_natCast]
theorem SV_neg (r : Nat) : SV (-(r : Int)) = -(V r : Int) := by
  unfold SV
  by_cases h : r = 0
  · subst h; simp [V_zero]
  · rw [if_pos (by omega), show (-(r : Int)).natAbs = r by omega]

/-- the float of an int64 -/
theorem ofInt (n : Int) (h1 : -9223372036854775808 ≤ n) (h2 : n ≤ 9223372036854775807) :
    ∃ r k : Nat, floatOfInt .f64 n = (if decide (n < 0) then 9223372036854775808 + k else k) ∧ k < 9218868437227405312 ∧ V r ≤ n.natAbs * U ∧ n.natAbs * U < V (r + 1) ∧ (k = r ∨ k = r + 1) ∧ (V r = n.natAbs * U → k = r) ∧ (n.natAbs < 9007199254740992 → V k = n.natAbs * U) := by
  have hd : floatOfInt .f64 n = Ieee.double.nearest (decide (n < 0)) n.natAbs 0 := rfl
  by_cases h : n = 0
  · subst h
    exact ⟨0, 0, by rw [hd]; rfl, by omega, by rw [V_zero]; omega, by simp; exact V_pos (by omega), .inl rfl, fun _ => rfl, fun _ => by simp [V_zero]⟩
  · obtain ⟨r, k, e, h⟩ := nearest_rung (decide (n < 0)) n.natAbs (by omega) (by omega)
    exact ⟨r, k, by rw [hd, e], h⟩

/-- the whole part of a float -/
def tz (f : Nat) : Int := if neg f then -((V (rung f) / U : Nat) : Int) else ((V (rung f) / U : Nat) : Int)
def down (w : Nat) : Nat := if neg w then w + 1 else w - 1
/-- num.Split's float -/
def splitW (n : Int) : Nat := if 4890909195324358656 ≤ sr (floatOfInt .f64 n) ∨ n < tz (floatOfInt .f64 n) then down (floatOfInt .f64 n) else floatOfInt .f64 n

theorem V_top : V 4890909195324358656 = 9223372036854775808 * U := by
  have := V_at 1085 4503599627370496 (by omega) (by omega)
  rw [show 1085 * 4503599627370496 + 4503599627370496 = 4890909195324358656 by omega] at this
  rw [this, show (1085 : Nat) = 11 + 1074 by omega, Nat.pow_add, ← U_pow 1074 rfl, ← Nat.mul_assoc]
theorem top_le {k m : Nat} (h : m * U < V (k + 1)) (hm : 9223372036854775808 ≤ m) : 4890909195324358656 ≤ k := by
  rcases Nat.lt_or_ge k 4890909195324358656 with h' | h'
  · have a := V_le (show k + 1 ≤ 4890909195324358656 by omega)
    rw [V_top] at a
    have b := Nat.mul_le_mul_right U hm
    omega
  · exact h'
theorem lt_top {r m : Nat} (h : V r ≤ m * U) (hm : m < 9223372036854775808) : r < 4890909195324358656 := by
  rcases Nat.lt_or_ge r 4890909195324358656 with h' | h'
  · exact h'
  · have a := V_le h'
    rw [V_top] at a
    have b : m * U < 9223372036854775808 * U := Nat.mul_lt_mul_of_pos_right hm U_pos
    omega
theorem le_top {r m : Nat} (h : V r ≤ m * U) (hm : m ≤ 9223372036854775808) : r ≤ 4890909195324358656 := by
  rcases Nat.lt_or_ge 4890909195324358656 r with h' | h'
  · have a := V_lt h'
    rw [V_top] at a
    have b : m * U ≤ 9223372036854775808 * U := Nat.mul_le_mul_right _ hm
    omega
  · exact h'
theorem abs_cast {n : Int} (h : 0 ≤ n) : ((n.natAbs * U : Nat) : Int) = n * U := by
  rw [Int.natCast_mul, Int.natAbs_of_nonneg h]
theorem abs_cast_neg {n : Int} (h : n < 0) : ((n.natAbs * U : Nat) : Int) = -(n * U) := by
  rw [Int.natCast_mul, ← Int.neg_mul]; congr 1; omega

/-- beyond 2^53 floats are whole -/
theorem V_whole {r m : Nat} (h2 : m * U < V (r + 1)) (hm : 9007199254740992 ≤ m) : ∃ q, V r = q * U ∧ ∃ q', V (r + 1) = q' * U := by
  have hr : 4845873199050653696 ≤ r := by
    rcases Nat.lt_or_ge r 4845873199050653696 with h' | h'
    · have a := V_le (show r + 1 ≤ 4845873199050653696 by omega)
      have b := V_at 1075 4503599627370496 (by omega) (by omega)
      rw [show 1075 * 4503599627370496 + 4503599627370496 = 4845873199050653696 by omega, show (1075 : Nat) = 1 + 1074 by omega, Nat.pow_add, ← U_pow 1074 rfl, ← Nat.mul_assoc, show 4503599627370496 * 2 ^ 1 = 9007199254740992 by decide] at b
      rw [b] at a
      have d := Nat.mul_le_mul_right U hm
      omega
    · exact h'
  obtain ⟨e, k, q1, q2, q3, q4⟩ := V_form (show 4503599627370496 ≤ r by omega)
  have q5 : V (r + 1) = (k + 1) * 2 ^ e := by rw [q1, Nat.add_assoc, V_at _ _ (by omega) (by omega)]
  obtain ⟨d, rfl⟩ : ∃ d, e = d + 1074 := ⟨e - 1074, by omega⟩
  rw [Nat.pow_add, ← U_pow 1074 rfl, ← Nat.mul_assoc] at q4 q5
  exact ⟨_, q4, _, q5⟩

theorem splitW_floor (n : Int) (h1 : -9223372036854775808 ≤ n) (h2 : n ≤ 9223372036854775807) : IsFloor n (splitW n) := by
  obtain ⟨r, k, e, hk, v1, v2, hkr, hx, hs⟩ := ofInt n h1 h2
  have hUp := U_pos
  have hrt := le_top v1 (by omega)
  have hk63 : k < 9223372036854775808 := by omega
  unfold splitW
  rw [e]
  by_cases hn : n < 0
  · rw [decide_eq_true hn]
    simp only [if_true]
    have s1 := sr_word true hk63
    have n1 := neg_word true hk63
    have g1 := rung_word true hk63
    simp only [if_true] at s1 n1 g1
    have ht : tz (9223372036854775808 + k) = -((V k / U : Nat) : Int) := by unfold tz; rw [n1, g1, if_pos rfl]
    have hc := abs_cast_neg hn
    rw [s1, ht]
    have hdiv : n < -((V k / U : Nat) : Int) ↔ V k < n.natAbs * U := by
      rw [← Nat.div_lt_iff_lt_mul hUp]; omega
    have hcond : (4890909195324358656 ≤ -(k : Int) ∨ n < -((V k / U : Nat) : Int)) ↔ V k < n.natAbs * U := by
      rw [hdiv]
      constructor
      · intro h
        rcases h with h | h
        · omega
        · exact h
      · exact .inr
    simp only [hcond]
    by_cases hlt : V k < n.natAbs * U
    · rw [if_pos hlt]
      obtain rfl : k = r := by
        rcases hkr with h | h
        · exact h
        · subst h; omega
      have hkt : k < 4890909195324358656 := by
        rcases Nat.lt_or_ge k 4890909195324358656 with h' | h'
        · exact h'
        · have := V_le h'; rw [V_top] at this
          have := Nat.mul_le_mul_right U (show n.natAbs ≤ 9223372036854775808 by omega)
          omega
      have hd : down (9223372036854775808 + k) = 9223372036854775808 + (k + 1) := by unfold down; rw [n1, if_pos rfl]; omega
      rw [hd]
      have s2 := sr_word true (show k + 1 < 9223372036854775808 by omega)
      have g2 := rung_word true (show k + 1 < 9223372036854775808 by omega)
      simp only [if_true] at s2 g2
      refine ⟨by omega, by rw [g2]; omega, ?_, ?_, by rw [s2]; omega⟩
      · rw [s2, SV_neg]; omega
      · rw [s2, show -((k + 1 : Nat) : Int) + 1 = -(k : Int) by omega, SV_neg]; omega
    · rw [if_neg hlt]
      have hkk : 0 < k := by
        rcases Nat.eq_zero_or_pos k with h | h
        · subst h; rw [V_zero] at hlt; have := Nat.mul_pos (show 0 < n.natAbs by omega) hUp; omega
        · exact h
      have hb : V (k - 1) < n.natAbs * U := by
        rcases hkr with h | h
        · have a := V_lt (show k - 1 < k by omega)
          have b : V k = n.natAbs * U := by subst h; omega
          omega
        · have b : V r ≠ n.natAbs * U := fun hh => by have := hx hh; omega
          rw [show k - 1 = r by omega]; omega
      refine ⟨by omega, by rw [g1]; omega, ?_, ?_, by rw [s1]; omega⟩
      · rw [s1, SV_neg]; omega
      · rw [s1, show -(k : Int) + 1 = -((k - 1 : Nat) : Int) by omega, SV_neg]; omega
  · rw [decide_eq_false hn]
    simp only [Bool.false_eq_true, if_false]
    have s1 := sr_word false hk63
    have n1 := neg_word false hk63
    have g1 := rung_word false hk63
    simp only [Bool.false_eq_true, if_false] at s1 n1 g1
    have ht : tz k = ((V k / U : Nat) : Int) := by unfold tz; rw [n1, g1]; simp
    have hc := abs_cast (show 0 ≤ n by omega)
    rw [s1, ht]
    have hdiv : n < ((V k / U : Nat) : Int) ↔ (n.natAbs + 1) * U ≤ V k := by
      rw [← Nat.le_div_iff_mul_le hUp]; omega
    rcases hkr with h | h
    · subst h
      have hrt' := lt_top v1 (by omega)
      rw [if_neg (by rw [hdiv, Nat.add_mul]; omega)]
      exact ⟨by omega, by rw [g1]; omega, by rw [s1, SV_nat]; omega, by rw [s1, show (k : Int) + 1 = ((k + 1 : Nat) : Int) by omega, SV_nat]; omega, by rw [s1]; omega⟩
    · subst h
      have hgt : n.natAbs * U < V (r + 1) := v2
      have hbig : 9007199254740992 ≤ n.natAbs := by
        rcases Nat.lt_or_ge n.natAbs 9007199254740992 with h' | h'
        · have := hs h'; omega
        · exact h'
      obtain ⟨q, hq, q', hq'⟩ := V_whole v2 hbig
      have hqq : n.natAbs < q' := by
        rw [hq'] at hgt; exact Nat.lt_of_mul_lt_mul_right hgt
      have hc2 : (n.natAbs + 1) * U ≤ V (r + 1) := by rw [hq']; exact Nat.mul_le_mul_right _ hqq
      rw [if_pos (.inr (hdiv.2 hc2))]
      have hd : down (r + 1) = r := by unfold down; rw [n1]; simp
      have g2 : rung r = r := rung_word false (show r < 9223372036854775808 by omega)
      have s2 : sr r = r := sr_word false (show r < 9223372036854775808 by omega)
      rw [hd]
      exact ⟨by omega, by rw [g2]; omega, by rw [s2, SV_nat]; omega, by rw [s2, show (r : Int) + 1 = ((r + 1 : Nat) : Int) by omega, SV_nat]; omega, by rw [s2]; omega⟩
end Fl
end Go.Proofs.Ytipjelkdbbhcpaa
