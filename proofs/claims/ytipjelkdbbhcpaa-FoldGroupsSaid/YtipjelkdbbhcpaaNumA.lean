
/-
  The walks of num's functions and of the reference's, each by its contract: what it gives, the world as it was.
-/
import Derived.Test.YtipjelkdbbhcpaaRet
import Derived.Test.YtipjelkdbbhcpaaFlWhole
import Derived.WalkKit
import Derived.WalkSpells
import Derived.WalkLawsBesides
import Derived.Lib.Hide
import Derived.Laws.BitsLemmas
set_option linter.unusedSimpArgs false
set_option linter.unusedVariables false
namespace Go.Proofs.Ytipjelkdbbhcpaa
open Go.RowKit

def fits (x : Int) : Bool := decide (-9223372036854775808 ≤ x) && decide (x ≤ 9223372036854775807)
structure I64 (x : Int) : Prop where
  lo : -9223372036854775808 ≤ x
  hi : x ≤ 9223372036854775807

theorem wrap_i64 (n : Int) : IntKind.i64.wrap n = (n + 9223372036854775808) % 18446744073709551616 - 9223372036854775808 := IntKind.wrap_i64 n

theorem bv_neg (r : BitVec 64) : decide (IntKind.i64.wrap (r.toNat : Int) < 0) = r.msb := by
  rw [wrap_i64, BitVec.msb_eq_decide]
  have := r.isLt
  simp only [decide_eq_decide]
  omega
theorem bv_of (x : Int) (h : I64 x) : (BitVec.ofInt 64 x).msb = decide (x < 0) := by
  have := h.lo
  have := h.hi
  rw [BitVec.msb_eq_decide, BitVec.toNat_ofInt]
  simp only [decide_eq_decide]
  omega
theorem xor_neg (x y : Int) (hx : I64 x) (hy : I64 y) : decide (bits .xor .i64 x y < 0) = (decide (x < 0) != decide (y < 0)) := by
  have h : bits .xor .i64 x y = IntKind.i64.wrap ((BitVec.ofInt 64 x ^^^ BitVec.ofInt 64 y).toNat : Int) := rfl
  rw [h, bv_neg, BitVec.msb_xor, bv_of x hx, bv_of y hy]
theorem and_neg (x y : Int) (hx : I64 x) (hy : I64 y) : decide (bits .and .i64 x y < 0) = (decide (x < 0) && decide (y < 0)) := by
  have h : bits .and .i64 x y = IntKind.i64.wrap ((BitVec.ofInt 64 x &&& BitVec.ofInt 64 y).toNat : Int) := rfl
  rw [h, bv_neg, BitVec.msb_and, bv_of x hx, bv_of y hy]
theorem bits_i64 (op : BinOp) (x y : Int) (h : op = .and ∨ op = .xor) : I64 (bits op .i64 x y) := by
  rcases h with rfl | rfl
  · have h : bits .and .i64 x y = IntKind.i64.wrap ((BitVec.ofInt 64 x &&& BitVec.ofInt 64 y).toNat : Int) := rfl
    rw [h, wrap_i64]; constructor <;> omega
  · have h : bits .xor .i64 x y = IntKind.i64.wrap ((BitVec.ofInt 64 x ^^^ BitVec.ofInt 64 y).toNat : Int) := rfl
    rw [h, wrap_i64]; constructor <;> omega
theorem wrap_i64_range (n : Int) : I64 (wrap64 n) := by unfold wrap64; constructor <;> omega

theorem add_sign (a b : Int) (ha : I64 a) (hb : I64 b) : decide (0 ≤ bits .and .i64 (bits .xor .i64 a (wrap64 (a + b))) (bits .xor .i64 b (wrap64 (a + b)))) = fits (a + b) := by
  have h := and_neg _ _ (bits_i64 .xor a (wrap64 (a + b)) (.inr rfl)) (bits_i64 .xor b (wrap64 (a + b)) (.inr rfl))
  rw [xor_neg _ _ ha (wrap_i64_range _), xor_neg _ _ hb (wrap_i64_range _)] at h
  have e : decide (0 ≤ bits .and .i64 (bits .xor .i64 a (wrap64 (a + b))) (bits .xor .i64 b (wrap64 (a + b)))) = !decide (bits .and .i64 (bits .xor .i64 a (wrap64 (a + b))) (bits .xor .i64 b (wrap64 (a + b))) < 0) := by
    rw [Bool.eq_iff_iff]; simp
  rw [e, h]
  have := ha.lo; have := ha.hi; have := hb.lo; have := hb.hi
  unfold fits wrap64
  rw [Bool.eq_iff_iff]
  simp
  omega
theorem sub_sign (a b : Int) (ha : I64 a) (hb : I64 b) : decide (0 ≤ bits .and .i64 (bits .xor .i64 a b) (bits .xor .i64 a (wrap64 (a - b)))) = fits (a - b) := by
  have h := and_neg _ _ (bits_i64 .xor a b (.inr rfl)) (bits_i64 .xor a (wrap64 (a - b)) (.inr rfl))
  rw [xor_neg _ _ ha hb, xor_neg _ _ ha (wrap_i64_range _)] at h
  have e : decide (0 ≤ bits .and .i64 (bits .xor .i64 a b) (bits .xor .i64 a (wrap64 (a - b)))) = !decide (bits .and .i64 (bits .xor .i64 a b) (bits .xor .i64 a (wrap64 (a - b))) < 0) := by
    rw [Bool.eq_iff_iff]; simp
  rw [e, h]
  have := ha.lo; have := ha.hi; have := hb.lo; have := hb.hi
  unfold fits wrap64
  rw [Bool.eq_iff_iff]
  simp
  omega
theorem wrap_fits {x : Int} (h : fits x = true) : wrap64 x = x := by
  unfold fits at h
  simp at h
  unfold wrap64
  omega

set_option maxHeartbeats 400000 in
theorem whole_c (n : Int) (ok : Bool) (w : World) :
    Calls Try.prog 67 #[.int .i64 n, .bool ok] w fun e w' => e = .returned (.tuple #[.int .i64 (if ok then n else 0), .bool ok]) ∧ w = w' := by
  cases ok <;>
  · go_enter Try.func67, Try.ntmps67
    go_wp2
    go_ret2
    exact ⟨rfl, rfl⟩

/-- a number, or 0, if it is no int64 -/
def clip (x : Int) : Int := if fits x then x else 0
theorem wrap_pair {x : Int} : (if fits x = true then wrap64 x else 0) = clip x := by
  unfold clip
  split
  · exact wrap_fits ‹_›
  · rfl
set_option maxHeartbeats 400000 in
theorem add_c (a b : Int) (w : World) (ha : I64 a) (hb : I64 b) :
    Calls Try.prog 46 #[.int .i64 a, .int .i64 b] w fun e w' => e = .returned (.tuple #[.int .i64 (clip (a + b)), .bool (fits (a + b))]) ∧ w = w' := by
  have H := Lib.hid (add_sign a b ha hb)
  clear ha hb
  go_enter Try.func46, Try.ntmps46
  go_wp2_with fail
  rw [H.out]
  refine (whole_c _ _ _).mono ?_
  rintro e w1 ⟨rfl, rfl⟩
  rw [wrap_pair]
  go_wp2
  go_ret2
  exact ⟨rfl, rfl⟩
/-! floats: keys -/
/-- a word as a number: behind a name, so that the walk leaves it alone -/
def fb (x : Nat) : Int := x
@[go_sem] theorem bits_of (x : Nat) (w : World) : (callFunc 65 #[.float .f64 x]).run Try.prog w = .ok (.value (.int .u64 (fb x))) w := by kernel_rfl
@[go_sem] theorem of_bits (x : Int) (w : World) : (callFunc 83 #[.int .u64 x]).run Try.prog w = .ok (.value (.float .f64 x.toNat)) w := by kernel_rfl

def canon (x : Nat) : Nat := if Fl.isNaN x then 9221120237041090561 else x
def key (x : Nat) : Nat := if 9223372036854775808 ≤ canon x then 18446744073709551615 - canon x else canon x + 9223372036854775808
theorem canon_lt {x : Nat} (h : x < 18446744073709551616) : canon x < 18446744073709551616 := by unfold canon; split <;> omega
theorem key_lt {x : Nat} (h : x < 18446744073709551616) : key x < 18446744073709551616 := by have := canon_lt h; unfold key; split <;> omega

set_option maxHeartbeats 400000 in
theorem canon_c (x : Nat) (w : World) :
    Calls Try.prog 66 #[.float .f64 x] w fun e w' => e = .returned (.float .f64 (canon x)) ∧ w = w' := by
  have h := Fl.ne_self x
  have hf : FloatKind.f64.format = Ieee.double := rfl
  unfold canon
  cases hn : Fl.isNaN x <;> rw [hn] at h <;> clear hn
  · go_enter Try.func66, Try.ntmps66
    go_wp2
    go_ret
    exact ⟨rfl, rfl⟩
  · go_enter Try.func66, Try.ntmps66
    go_wp2
    go_ret
    exact ⟨rfl, rfl⟩

structure U64 (x : Nat) : Prop where
  lt : x < 18446744073709551616
theorem bv_u64 (x : Nat) (h : U64 x) : (BitVec.ofInt 64 (x : Int)).toNat = x := by
  have := h.lt
  rw [BitVec.toNat_ofInt]; omega
theorem wrap_u64 (n : Int) : IntKind.u64.wrap n = n % 18446744073709551616 := by
  simp [IntKind.wrap, IntKind.bits, IntKind.signed]
theorem not_u64 (x : Nat) (h : U64 x) : bits .xor .u64 IntKind.u64.max (fb x) = ((18446744073709551615 - x : Nat) : Int) := by
  have hl := h.lt
  have e : bits .xor .u64 IntKind.u64.max (fb x) = IntKind.u64.wrap ((BitVec.ofInt 64 IntKind.u64.max ^^^ BitVec.ofInt 64 (x : Int)).toNat : Int) := rfl
  have e2 : BitVec.ofInt 64 IntKind.u64.max = BitVec.allOnes 64 := by decide
  rw [e, e2, BitVec.allOnes_xor, BitVec.toNat_not, bv_u64 x h, wrap_u64]
  omega
theorem or_top (x : Nat) (h : x < 9223372036854775808) : bits .or .u64 (fb x) 9223372036854775808 = ((x + 9223372036854775808 : Nat) : Int) := by
  have e : bits .or .u64 (fb x) 9223372036854775808 = IntKind.u64.wrap ((BitVec.ofInt 64 (x : Int) ||| BitVec.ofInt 64 ((9223372036854775808 : Nat) : Int)).toNat : Int) := rfl
  rw [e, BitVec.toNat_or, bv_u64 x ⟨by omega⟩, bv_u64 9223372036854775808 ⟨by omega⟩, wrap_u64, Nat.or_comm]
  have := Nat.two_pow_add_eq_or_of_lt (b := x) (i := 63) (by omega) 1
  rw [show 2 ^ 63 * 1 = 9223372036854775808 by decide] at this
  rw [← this]
  omega
def high (n : Int) : Bool := decide (9223372036854775808 ≤ n)
@[go_sem] theorem high_of (n : Int) : decide (9223372036854775808 ≤ n) = high n := rfl
theorem key_high {x : Nat} (h : high (fb (canon x)) = true) : key x = 18446744073709551615 - canon x := by
  have : (9223372036854775808 : Int) ≤ (canon x : Int) := of_decide_eq_true h
  unfold key; rw [if_pos (by omega)]
theorem key_low {x : Nat} (h : high (fb (canon x)) = false) : canon x < 9223372036854775808 ∧ key x = canon x + 9223372036854775808 := by
  have : ¬ (9223372036854775808 : Int) ≤ (canon x : Int) := of_decide_eq_false h
  refine ⟨by omega, ?_⟩
  unfold key; rw [if_neg (by omega)]
set_option maxHeartbeats 400000 in
theorem key_c (x : Nat) (w : World) (hx : U64 x) :
    Calls Try.prog 88 #[.float .f64 x] w fun e w' => e = .returned (.int .u64 (fb (key x))) ∧ w = w' := by
  have hc : U64 (canon x) := ⟨canon_lt hx.lt⟩
  cases h : high (fb (canon x))
  · have hk := key_low h
    have H := Lib.hid ((or_top _ hk.1).trans (congrArg Nat.cast hk.2.symm))
    clear hk
    go_enter Try.func88, Try.ntmps88
    go_wp2_with ((refine (canon_c x _).mono ?_); rintro e w1 ⟨rfl, rfl⟩)
    go_ret
    exact ⟨ret_int H.out, rfl⟩
  · have hk := key_high h
    have H := Lib.hid ((not_u64 _ hc).trans (congrArg Nat.cast hk.symm))
    clear hk
    go_enter Try.func88, Try.ntmps88
    go_wp2_with ((refine (canon_c x _).mono ?_); rintro e w1 ⟨rfl, rfl⟩)
    go_ret
    exact ⟨ret_int H.out, rfl⟩

/-- num.Cmp -/
def cmpF (a b : Nat) : Int := if key a < key b then -1 else if key b < key a then 1 else 0
def kl (a b : Nat) : Bool := decide (key a < key b)
@[go_sem] theorem kl_of (a b : Nat) : decide (fb (key a) < fb (key b)) = kl a b := by unfold fb kl; rw [Bool.eq_iff_iff]; simp
set_option maxHeartbeats 400000 in
theorem cmp_c (a b : Nat) (w : World) (ha : U64 a) (hb : U64 b) :
    Calls Try.prog 79 #[.float .f64 a, .float .f64 b] w fun e w' => e = .returned (.int .i64 (cmpF a b)) ∧ w = w' := by
  cases h : kl a b
  · cases h2 : kl b a
    · have H : Hid (cmpF a b = 0) := Lib.hid (by unfold cmpF; unfold kl at h h2; rw [if_neg (of_decide_eq_false h), if_neg (of_decide_eq_false h2)])
      go_enter Try.func79, Try.ntmps79
      go_wp2_with ((with_reducible refine (key_c _ _ (by assumption)).mono ?_); rintro e w1 ⟨rfl, rfl⟩)
      go_ret
      exact ⟨ret_int H.out.symm, rfl⟩
    · have H : Hid (cmpF a b = 1) := Lib.hid (by unfold cmpF; unfold kl at h h2; rw [if_neg (of_decide_eq_false h), if_pos (of_decide_eq_true h2)])
      go_enter Try.func79, Try.ntmps79
      go_wp2_with ((with_reducible refine (key_c _ _ (by assumption)).mono ?_); rintro e w1 ⟨rfl, rfl⟩)
      go_ret
      exact ⟨ret_int H.out.symm, rfl⟩
  · have H : Hid (cmpF a b = -1) := Lib.hid (by unfold cmpF; unfold kl at h; rw [if_pos (of_decide_eq_true h)])
    go_enter Try.func79, Try.ntmps79
    go_wp2_with ((with_reducible refine (key_c _ _ (by assumption)).mono ?_); rintro e w1 ⟨rfl, rfl⟩)
    go_ret
    exact ⟨ret_int H.out.symm, rfl⟩
theorem I64.ofWf {a : Int} (h : (Lit.int .i64 a).wf = true) : I64 a := by
  simp [Lit.wf, IntKind.min, IntKind.max, IntKind.signed, IntKind.bits] at h
  exact ⟨h.1, h.2⟩
theorem U64.ofWf {a : Int} (h : (Lit.int .u64 a).wf = true) : ∃ k, a = fb k ∧ U64 k := by
  simp [Lit.wf, IntKind.min, IntKind.max, IntKind.signed, IntKind.bits] at h
  exact ⟨a.toNat, by unfold fb; omega, ⟨by omega⟩⟩
theorem U64.ofFloat {x : Nat} (h : (Lit.float .f64 x).wf = true) : U64 x := by
  simp [Lit.wf] at h
  exact ⟨h⟩
end Go.Proofs.Ytipjelkdbbhcpaa
