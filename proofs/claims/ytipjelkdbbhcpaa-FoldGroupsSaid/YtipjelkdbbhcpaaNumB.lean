
/-
  The walks of num.Float and of the reference's Canon, Key, Less, Cmp, Fits, each by its contract.
-/
import Derived.Test.YtipjelkdbbhcpaaNumA
set_option linter.unusedSimpArgs false
set_option linter.unusedVariables false
namespace Go.Proofs.Ytipjelkdbbhcpaa
open Go.RowKit

/-! comparisons of floats, each by a name -/
def feq (a b : Nat) : Bool := Fl.num2 a b && decide (Fl.sr a = Fl.sr b)
def flt (a b : Nat) : Bool := Fl.num2 a b && decide (Fl.sr a < Fl.sr b)
@[go_sem] theorem fmt64 : FloatKind.f64.format = Ieee.double := rfl
@[go_sem] theorem is_eq (a b : Nat) : (Ieee.double.order a b == some .eq) = feq a b := Fl.is_eq a b
@[go_sem] theorem is_ne (a b : Nat) : (Ieee.double.order a b != some .eq) = !feq a b := by rw [← is_eq]; rfl
@[go_sem] theorem is_lt (a b : Nat) : (Ieee.double.order a b == some .lt) = flt a b := Fl.is_lt a b
@[go_sem] theorem is_gt (a b : Nat) : (Ieee.double.order a b == some .gt) = flt b a := by
  rw [Fl.is_gt]; unfold flt Fl.num2; rw [Bool.and_comm (!Fl.isNaN a)]
theorem feq_self (a : Nat) : feq a a = !Fl.isNaN a := by unfold feq Fl.num2; cases Fl.isNaN a <;> simp

/-! num.Float -/
def ofKey (k : Nat) : Nat := if 9223372036854775808 ≤ k then k - 9223372036854775808 else 18446744073709551615 - k
theorem xor_top (k : Nat) (h : 9223372036854775808 ≤ k) (hk : U64 k) : bits .xor .u64 (fb k) 9223372036854775808 = ((k - 9223372036854775808 : Nat) : Int) := by
  have hl := hk.lt
  have e : bits .xor .u64 (fb k) 9223372036854775808 = IntKind.u64.wrap ((BitVec.ofInt 64 (k : Int) ^^^ BitVec.ofInt 64 ((9223372036854775808 : Nat) : Int)).toNat : Int) := rfl
  rw [e, BitVec.toNat_xor, bv_u64 k hk, bv_u64 9223372036854775808 ⟨by omega⟩, wrap_u64]
  have h1 := Nat.two_pow_add_eq_or_of_lt (b := k - 9223372036854775808) (i := 63) (by omega) 1
  have h2 : k ^^^ 9223372036854775808 = k - 9223372036854775808 := by
    apply Nat.eq_of_testBit_eq
    intro i
    have hk2 : k = 2 ^ 63 * 1 + (k - 9223372036854775808) := by omega
    rw [Nat.testBit_xor]
    conv => lhs; rw [hk2]
    rw [Nat.testBit_two_pow_mul_add 1 (by omega : k - 9223372036854775808 < 2 ^ 63), show (9223372036854775808 : Nat) = 2 ^ 63 by decide, Nat.testBit_two_pow]
    by_cases hi : i < 63
    · rw [if_pos hi, decide_eq_false (show ¬ 63 = i by omega)]; simp
    · rw [if_neg hi, Nat.testBit_lt_two_pow (x := k - 2 ^ 63) (by have := Nat.pow_le_pow_right (show 0 < 2 by decide) (show 63 ≤ i by omega); omega)]
      by_cases h63 : i = 63
      · subst h63; decide
      · have h64 : 64 ≤ i := by omega
        have : (1 : Nat).testBit (i - 63) = false := Nat.testBit_lt_two_pow (by have := Nat.pow_le_pow_right (show 0 < 2 by decide) (show 1 ≤ i - 63 by omega); omega)
        rw [this]; simp; omega
  rw [h2]; omega
@[go_sem] theorem fb_eq (a b : Nat) : (fb a == fb b) = (a == b) := by unfold fb; rw [Bool.eq_iff_iff]; simp; omega
theorem fb_nat (k : Nat) : (fb k).toNat = k := by unfold fb; omega
theorem fbi (k : Nat) : fb k = (k : Int) := rfl

/-! the reference's keys -/
set_option maxHeartbeats 400000 in
theorem rcanon_c (x : Nat) (w : World) :
    Calls Try.prog 38 #[.float .f64 x] w fun e w' => e = .returned (.int .u64 (fb (canon x))) ∧ w = w' := by
  have h := feq_self x
  unfold canon
  cases hn : Fl.isNaN x <;> rw [hn] at h <;> clear hn
  · go_enter Try.func38, Try.ntmps38
    go_wp2
    go_ret
    exact ⟨rfl, rfl⟩
  · go_enter Try.func38, Try.ntmps38
    go_wp2
    go_ret
    exact ⟨rfl, rfl⟩
/-! the reference's order -/
def less (a b : Nat) : Bool := decide (key a < key b)
theorem sign_neg (x : Nat) (h : U64 x) : decide (wrap64 (fb x) < 0) = Fl.neg x := by
  have hl := h.lt
  unfold wrap64 fb Fl.neg
  rw [Bool.eq_iff_iff]
  simp
  omega
set_option maxHeartbeats 400000 in
theorem signbit_c (x : Nat) (w : World) (h : U64 x) :
    Calls Try.prog 82 #[.float .f64 x] w fun e w' => e = .returned (.bool (Fl.neg x)) ∧ w = w' := by
  have H := Lib.hid (sign_neg x h)
  clear h
  go_enter Try.func82, Try.ntmps82
  go_wp2
  go_ret
  exact ⟨ret_bool H.out, rfl⟩

theorem key_nan {x : Nat} (h : Fl.isNaN x = true) : key x = 18444492273895866369 := by unfold key canon; simp only [h, if_true]; decide
theorem key_num {x : Nat} (hx : U64 x) (h : Fl.isNaN x = false) : key x = if Fl.neg x then 9223372036854775807 - Fl.rung x else 9223372036854775808 + Fl.rung x := by
  have hw := Fl.word_parts hx.lt
  have hr := Fl.rung_lt x
  unfold key canon
  rw [h]
  simp only [Bool.false_eq_true, if_false]
  cases hn : Fl.neg x <;> rw [hn] at hw <;> simp only [Bool.false_eq_true, if_false, if_true] at hw ⊢
  · rw [if_neg (by omega)]; omega
  · rw [if_pos (by omega)]; omega
theorem rung_num {x : Nat} (h : Fl.isNaN x = false) : Fl.rung x ≤ 9218868437227405312 := by
  have := of_decide_eq_false h; omega
theorem less_nan_l {a b : Nat} (ha : Fl.isNaN a = true) (hb : U64 b) : less a b = false := by
  unfold less
  rw [key_nan ha]
  cases h : Fl.isNaN b
  · rw [key_num hb h]; have := rung_num h; simp; split <;> omega
  · rw [key_nan h]; simp
theorem less_nan_r {a b : Nat} (hb : Fl.isNaN b = true) (ha : U64 a) (h : Fl.isNaN a = false) : less a b = true := by
  unfold less
  rw [key_nan hb, key_num ha h]; have := rung_num h; simp; split <;> omega
theorem feq_zero (x : Nat) (hx : U64 x) (h : Fl.isNaN x = false) : feq x 0 = decide (Fl.rung x = 0) := by
  have h0 : Fl.isNaN 0 = false := by decide
  have h1 : Fl.sr 0 = 0 := by decide
  unfold feq Fl.num2
  rw [h, h0, h1, Bool.eq_iff_iff]
  unfold Fl.sr
  simp
  split <;> omega
theorem less_zero {a b : Nat} (ha : U64 a) (hb : U64 b) (h1 : Fl.isNaN a = false) (h2 : Fl.isNaN b = false) (h3 : Fl.rung a = 0) (h4 : Fl.rung b = 0) : less a b = (Fl.neg a && !Fl.neg b) := by
  unfold less
  rw [key_num ha h1, key_num hb h2, h3, h4]
  cases Fl.neg a <;> cases Fl.neg b <;> decide
theorem less_num {a b : Nat} (ha : U64 a) (hb : U64 b) (h1 : Fl.isNaN a = false) (h2 : Fl.isNaN b = false) (h : ¬ (Fl.rung a = 0 ∧ Fl.rung b = 0)) : less a b = flt a b := by
  have r1 := rung_num h1
  have r2 := rung_num h2
  unfold less flt Fl.num2 Fl.sr
  rw [key_num ha h1, key_num hb h2, h1, h2, Bool.eq_iff_iff]
  cases Fl.neg a <;> cases Fl.neg b <;> simp <;> omega

set_option maxHeartbeats 1000000 in
theorem rless_c (a b : Nat) (w : World) (ha : U64 a) (hb : U64 b) :
    Calls Try.prog 64 #[.float .f64 a, .float .f64 b] w fun e w' => e = .returned (.bool (less a b)) ∧ w = w' := by
  have sa := feq_self a
  have sb := feq_self b
  cases na : Fl.isNaN a
  · cases nb : Fl.isNaN b
    · have za := feq_zero a ha na
      have zb := feq_zero b hb nb
      rw [na] at sa
      rw [nb] at sb
      by_cases hz : Fl.rung a = 0 ∧ Fl.rung b = 0
      · have H := Lib.hid (less_zero ha hb na nb hz.1 hz.2)
        rw [hz.1] at za
        rw [hz.2] at zb
        simp only [Bool.not_false, decide_true] at sa sb za zb
        clear na nb hz
        cases n1 : Fl.neg a <;>
        · go_enter Try.func64, Try.ntmps64
          go_wp2_with ((with_reducible refine (signbit_c _ _ (by assumption)).mono ?_); rintro e w1 ⟨rfl, rfl⟩)
          go_ret
          exact ⟨ret_bool (by rw [H.out, n1]; rfl), rfl⟩
      · have H := Lib.hid (less_num ha hb na nb hz)
        cases d1 : decide (Fl.rung a = 0)
        · rw [d1] at za
          simp only [Bool.not_false] at sa sb
          clear na nb hz zb d1
          go_enter Try.func64, Try.ntmps64
          go_wp2
          go_ret
          exact ⟨ret_bool H.out.symm, rfl⟩
        · have d2 : decide (Fl.rung b = 0) = false := decide_eq_false (fun h => hz ⟨of_decide_eq_true d1, h⟩)
          rw [d1] at za
          rw [d2] at zb
          simp only [Bool.not_false] at sa sb
          clear na nb hz d1 d2
          go_enter Try.func64, Try.ntmps64
          go_wp2
          go_ret
          exact ⟨ret_bool H.out.symm, rfl⟩
    · have H := Lib.hid (less_nan_r nb ha na)
      rw [na] at sa
      rw [nb] at sb
      simp only [Bool.not_false, Bool.not_true] at sa sb
      clear na nb
      go_enter Try.func64, Try.ntmps64
      go_wp2
      go_ret
      exact ⟨ret_bool H.out.symm, rfl⟩
  · have H := Lib.hid (less_nan_l na hb)
    rw [na] at sa
    simp only [Bool.not_false, Bool.not_true] at sa
    clear na sb
    go_enter Try.func64, Try.ntmps64
    go_wp2
    go_ret
    exact ⟨ret_bool H.out.symm, rfl⟩

set_option maxHeartbeats 400000 in
theorem rcmp_c (a b : Nat) (w : World) (ha : U64 a) (hb : U64 b) :
    Calls Try.prog 37 #[.float .f64 a, .float .f64 b] w fun e w' => e = .returned (.int .i64 (cmpF a b)) ∧ w = w' := by
  cases h : less a b
  · cases h2 : less b a
    · have H : Hid (cmpF a b = 0) := Lib.hid (by unfold cmpF; unfold less at h h2; rw [if_neg (of_decide_eq_false h), if_neg (of_decide_eq_false h2)])
      go_enter Try.func37, Try.ntmps37
      go_wp2_with ((with_reducible refine (rless_c _ _ _ (by assumption) (by assumption)).mono ?_); rintro e w1 ⟨rfl, rfl⟩)
      go_ret
      exact ⟨ret_int H.out.symm, rfl⟩
    · have H : Hid (cmpF a b = 1) := Lib.hid (by unfold cmpF; unfold less at h h2; rw [if_neg (of_decide_eq_false h), if_pos (of_decide_eq_true h2)])
      go_enter Try.func37, Try.ntmps37
      go_wp2_with ((with_reducible refine (rless_c _ _ _ (by assumption) (by assumption)).mono ?_); rintro e w1 ⟨rfl, rfl⟩)
      go_ret
      exact ⟨ret_int H.out.symm, rfl⟩
  · have H : Hid (cmpF a b = -1) := Lib.hid (by unfold cmpF; unfold less at h; rw [if_pos (of_decide_eq_true h)])
    go_enter Try.func37, Try.ntmps37
    go_wp2_with ((with_reducible refine (rless_c _ _ _ (by assumption) (by assumption)).mono ?_); rintro e w1 ⟨rfl, rfl⟩)
    go_ret
    exact ⟨ret_int H.out.symm, rfl⟩
end Go.Proofs.Ytipjelkdbbhcpaa
