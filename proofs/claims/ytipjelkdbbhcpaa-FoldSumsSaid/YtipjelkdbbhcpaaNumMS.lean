
/-
  num.Mul, the reference's Mul, the law NumMuls.
-/
import Derived.Test.YtipjelkdbbhcpaaNumC
import Derived.Test.YtipjelkdbbhcpaaNumS
import Derived.Test.YtipjelkdbbhcpaaMulS
import Derived.Deep.LoopGhost
set_option linter.unusedSimpArgs false
set_option linter.unusedVariables false
namespace Go.Proofs.Ytipjelkdbbhcpaa
open Go.RowKit

theorem size_neg (n : Int) (h : I64 n) (hn : n < 0) : IntKind.u64.wrap (-IntKind.u64.wrap n) = (n.natAbs : Int) := by
  have := h.lo
  rw [wrap_u64, wrap_u64]; omega
theorem size_pos (n : Int) (h : I64 n) (hn : ¬ n < 0) : IntKind.u64.wrap n = (n.natAbs : Int) := by
  have := h.hi
  rw [wrap_u64]; omega
set_option maxHeartbeats 400000 in
theorem size_c (n : Int) (w : World) (h : I64 n) :
    Calls Try.prog 69 #[.int .i64 n] w fun e w' => e = .returned (.int .u64 (n.natAbs : Int)) ∧ w = w' := by
  by_cases hn : n < 0
  · have H := Lib.hid (size_neg n h hn)
    go_enter Try.func69, Try.ntmps69
    go_wp2
    go_ret
    exact ⟨ret_int H.out, rfl⟩
  · have H := Lib.hid (size_pos n h hn)
    go_enter Try.func69, Try.ntmps69
    go_wp2
    go_ret
    exact ⟨ret_int H.out, rfl⟩

def hiP (a b : Int) : Nat := a.natAbs * b.natAbs / 18446744073709551616
def loP (a b : Int) : Nat := a.natAbs * b.natAbs % 18446744073709551616
def ltTop (n : Nat) : Bool := decide (n < 9223372036854775808)
def leTop (n : Nat) : Bool := decide (n ≤ 9223372036854775808)
@[go_sem] theorem fb_ltTop (n : Nat) : decide (fb n < 9223372036854775808) = ltTop n := by unfold fb ltTop; rw [Bool.eq_iff_iff]; simp; omega
@[go_sem] theorem fb_leTop (n : Nat) : decide (fb n ≤ 9223372036854775808) = leTop n := by unfold fb leTop; rw [Bool.eq_iff_iff]; simp; omega
@[go_sem] theorem fb_zero (n : Nat) : (fb n == 0) = (n == 0) := by unfold fb; rw [Bool.eq_iff_iff]; simp
theorem mul64_c (a b : Int) (w : World) (ha : I64 a) (hb : I64 b) :
    Calls Try.prog 68 #[.int .u64 (a.natAbs : Int), .int .u64 (b.natAbs : Int)] w fun e w' => e = .returned (.tuple #[.int .u64 (fb (hiP a b)), .int .u64 (fb (loP a b))]) ∧ w = w' :=
  (Try.bits_Mul64 a.natAbs b.natAbs (by have := ha.lo; have := ha.hi; omega) (by have := hb.lo; have := hb.hi; omega) w).mono fun e w' ⟨h1, h2⟩ => ⟨h1, h2.symm⟩

theorem abs_mul_same {a b : Int} (h : decide (a < 0) = decide (b < 0)) : a * b = ((a.natAbs * b.natAbs : Nat) : Int) := by
  rw [← Int.natAbs_mul]
  rw [Int.natAbs_of_nonneg]
  by_cases ha : a < 0
  · have hb : b < 0 := by rw [decide_eq_true ha] at h; exact of_decide_eq_true h.symm
    exact Int.mul_nonneg_of_nonpos_of_nonpos (by omega) (by omega)
  · have hb : ¬ b < 0 := by rw [decide_eq_false ha] at h; exact of_decide_eq_false h.symm
    exact Int.mul_nonneg (by omega) (by omega)
theorem abs_mul_diff {a b : Int} (h : decide (a < 0) ≠ decide (b < 0)) : a * b = -((a.natAbs * b.natAbs : Nat) : Int) := by
  rw [← Int.natAbs_mul]
  have : a * b ≤ 0 := by
    by_cases ha : a < 0
    · have hb : ¬ b < 0 := fun hb => h (by rw [decide_eq_true ha, decide_eq_true hb])
      exact Int.mul_nonpos_of_nonpos_of_nonneg (by omega) (by omega)
    · have hb : b < 0 := Classical.byContradiction fun hb => h (by rw [decide_eq_false ha, decide_eq_false hb])
      exact Int.mul_nonpos_of_nonneg_of_nonpos (by omega) (by omega)
  omega
theorem mul_cases (P : Prop) {a b : Int}
    (h1 : decide (a < 0) = decide (b < 0) → fits (a * b) = true → (hiP a b == 0) = true → ltTop (loP a b) = true → wrap64 (fb (loP a b)) = clip (a * b) → P)
    (h2 : decide (a < 0) = decide (b < 0) → fits (a * b) = false → (hiP a b == 0) = false → clip (a * b) = 0 → P)
    (h3 : decide (a < 0) = decide (b < 0) → fits (a * b) = false → (hiP a b == 0) = true → ltTop (loP a b) = false → clip (a * b) = 0 → P)
    (h4 : decide (a < 0) ≠ decide (b < 0) → fits (a * b) = true → (hiP a b == 0) = true → leTop (loP a b) = true → wrap64 (IntKind.u64.wrap (-fb (loP a b))) = clip (a * b) → P)
    (h5 : decide (a < 0) ≠ decide (b < 0) → fits (a * b) = false → (hiP a b == 0) = false → clip (a * b) = 0 → P)
    (h6 : decide (a < 0) ≠ decide (b < 0) → fits (a * b) = false → (hiP a b == 0) = true → leTop (loP a b) = false → clip (a * b) = 0 → P) : P := by
  have hp : ∃ p, p = a.natAbs * b.natAbs := ⟨_, rfl⟩
  obtain ⟨p, hp⟩ := hp
  have e1 : hiP a b = p / 18446744073709551616 := by unfold hiP; rw [hp]
  have e2 : loP a b = p % 18446744073709551616 := by unfold loP; rw [hp]
  have c0 : fits (a * b) = false → clip (a * b) = 0 := fun h => by unfold clip; rw [h]; rfl
  have c1 : fits (a * b) = true → clip (a * b) = a * b := fun h => by unfold clip; rw [h]; rfl
  have f0 : fits (a * b) = decide (-9223372036854775808 ≤ a * b ∧ a * b ≤ 9223372036854775807) := by unfold fits; rw [Bool.eq_iff_iff]; simp
  rw [e1] at h1 h2 h3 h4 h5 h6
  rw [e2] at h1 h3 h4 h6
  by_cases hs : decide (a < 0) = decide (b < 0)
  · have ep := abs_mul_same hs
    rw [← hp] at ep
    cases hf : fits (a * b)
    · rw [f0, ep] at hf
      have hf' := of_decide_eq_false hf
      by_cases hh : p / 18446744073709551616 = 0
      · exact h3 hs (by rw [f0, ep, hf]) (by simp [hh]) (decide_eq_false (by omega)) (c0 (by rw [f0, ep, hf]))
      · exact h2 hs (by rw [f0, ep, hf]) (by simpa using hh) (c0 (by rw [f0, ep, hf]))
    · have hc := c1 hf
      rw [f0, ep] at hf
      have hf' := of_decide_eq_true hf
      exact h1 hs (by rw [f0, ep, hf]) (by simp; omega) (decide_eq_true (by omega)) (by rw [hc, ep]; unfold wrap64 fb; omega)
  · have ep := abs_mul_diff hs
    rw [← hp] at ep
    cases hf : fits (a * b)
    · rw [f0, ep] at hf
      have hf' := of_decide_eq_false hf
      by_cases hh : p / 18446744073709551616 = 0
      · exact h6 hs (by rw [f0, ep, hf]) (by simp [hh]) (decide_eq_false (by omega)) (c0 (by rw [f0, ep, hf]))
      · exact h5 hs (by rw [f0, ep, hf]) (by simpa using hh) (c0 (by rw [f0, ep, hf]))
    · have hc := c1 hf
      rw [f0, ep] at hf
      have hf' := of_decide_eq_true hf
      exact h4 hs (by rw [f0, ep, hf]) (by simp; omega) (decide_eq_true (by omega)) (by rw [hc, ep, wrap_u64]; unfold wrap64 fb; omega)

def MulEnds (a b : Int) (w : World) (e : Ending) (w' : World) : Prop := e = .returned (.tuple #[.int .i64 (clip (a * b)), .bool (fits (a * b))]) ∧ w = w'
theorem mul_ends {a b : Int} {w : World} (n : Int) (x : Bool) (h1 : fits (a * b) = x) (h2 : n = clip (a * b)) : MulEnds a b w (.returned (.tuple #[.int .i64 n, .bool x])) w := by
  subst h1 h2; exact ⟨rfl, rfl⟩
set_option maxHeartbeats 1000000 in
theorem mul_c (a b : Int) (w : World) (ha : I64 a) (hb : I64 b) :
    Calls Try.prog 48 #[.int .i64 a, .int .i64 b] w (MulEnds a b w) := by
  refine mul_cases _ (a := a) (b := b) (fun c f h l v => ?_) (fun c f h v => ?_) (fun c f h l v => ?_) (fun c f h l v => ?_) (fun c f h v => ?_) (fun c f h l v => ?_)
  · have E := mul_ends (w := w) _ true f v
    have C : (decide (a < 0) == decide (b < 0)) = true := by rw [c]; simp
    clear f v c
    go_enter Try.func48, Try.ntmps48
    go_wp2_with (first | ((with_reducible refine (size_c _ _ (by assumption)).mono ?_); rintro e w1 ⟨rfl, rfl⟩) | ((with_reducible refine (mul64_c _ _ _ (by assumption) (by assumption)).mono ?_); rintro e w1 ⟨rfl, rfl⟩) | ((with_reducible refine (whole_c _ _ _).mono ?_); rintro e w1 ⟨rfl, rfl⟩))
    go_ret2
    exact E
  · have E := mul_ends (w := w) 0 false f v.symm
    have C : (decide (a < 0) == decide (b < 0)) = true := by rw [c]; simp
    clear f v c
    go_enter Try.func48, Try.ntmps48
    go_wp2_with (first | ((with_reducible refine (size_c _ _ (by assumption)).mono ?_); rintro e w1 ⟨rfl, rfl⟩) | ((with_reducible refine (mul64_c _ _ _ (by assumption) (by assumption)).mono ?_); rintro e w1 ⟨rfl, rfl⟩) | ((with_reducible refine (whole_c _ _ _).mono ?_); rintro e w1 ⟨rfl, rfl⟩))
    go_ret2
    exact E
  · have E := mul_ends (w := w) 0 false f v.symm
    have C : (decide (a < 0) == decide (b < 0)) = true := by rw [c]; simp
    clear f v c
    go_enter Try.func48, Try.ntmps48
    go_wp2_with (first | ((with_reducible refine (size_c _ _ (by assumption)).mono ?_); rintro e w1 ⟨rfl, rfl⟩) | ((with_reducible refine (mul64_c _ _ _ (by assumption) (by assumption)).mono ?_); rintro e w1 ⟨rfl, rfl⟩) | ((with_reducible refine (whole_c _ _ _).mono ?_); rintro e w1 ⟨rfl, rfl⟩))
    go_ret2
    exact E
  · have E := mul_ends (w := w) _ true f v
    have C : (decide (a < 0) == decide (b < 0)) = false := beq_eq_false_iff_ne.2 c
    clear f v c
    go_enter Try.func48, Try.ntmps48
    go_wp2_with (first | ((with_reducible refine (size_c _ _ (by assumption)).mono ?_); rintro e w1 ⟨rfl, rfl⟩) | ((with_reducible refine (mul64_c _ _ _ (by assumption) (by assumption)).mono ?_); rintro e w1 ⟨rfl, rfl⟩) | ((with_reducible refine (whole_c _ _ _).mono ?_); rintro e w1 ⟨rfl, rfl⟩))
    go_ret2
    exact E
  · have E := mul_ends (w := w) 0 false f v.symm
    have C : (decide (a < 0) == decide (b < 0)) = false := beq_eq_false_iff_ne.2 c
    clear f v c
    go_enter Try.func48, Try.ntmps48
    go_wp2_with (first | ((with_reducible refine (size_c _ _ (by assumption)).mono ?_); rintro e w1 ⟨rfl, rfl⟩) | ((with_reducible refine (mul64_c _ _ _ (by assumption) (by assumption)).mono ?_); rintro e w1 ⟨rfl, rfl⟩) | ((with_reducible refine (whole_c _ _ _).mono ?_); rintro e w1 ⟨rfl, rfl⟩))
    go_ret2
    exact E
  · have E := mul_ends (w := w) 0 false f v.symm
    have C : (decide (a < 0) == decide (b < 0)) = false := beq_eq_false_iff_ne.2 c
    clear f v c
    go_enter Try.func48, Try.ntmps48
    go_wp2_with (first | ((with_reducible refine (size_c _ _ (by assumption)).mono ?_); rintro e w1 ⟨rfl, rfl⟩) | ((with_reducible refine (mul64_c _ _ _ (by assumption) (by assumption)).mono ?_); rintro e w1 ⟨rfl, rfl⟩) | ((with_reducible refine (whole_c _ _ _).mono ?_); rintro e w1 ⟨rfl, rfl⟩))
    go_ret2
    exact E

/-! the reference's product -/
structure MInv (A B x y z : Int) (o : Bool) (k : Nat) : Prop where
  kl : k ≤ 63
  y0 : 0 ≤ y
  y1 : y < 2 ^ (63 - k)
  ix : I64 x
  iz : I64 z
  yes : o = true → z + x * y = A * B ∧ (0 ≤ A → 0 ≤ z ∧ 0 ≤ x) ∧ (A ≤ 0 → z ≤ 0 ∧ x ≤ 0)
  no : o = false → fits (A * B) = false
theorem fits_iff (x : Int) : fits x = true ↔ -9223372036854775808 ≤ x ∧ x ≤ 9223372036854775807 := by unfold fits; simp
theorem fits_no {x : Int} (h : fits x = false) : x < -9223372036854775808 ∨ 9223372036854775807 < x := by
  rcases (show (x < -9223372036854775808 ∨ 9223372036854775807 < x) ∨ (-9223372036854775808 ≤ x ∧ x ≤ 9223372036854775807) by omega) with h' | h'
  · exact h'
  · rw [(fits_iff x).2 h'] at h; cases h
theorem fits_far {x y : Int} (h : fits x = false) (h1 : 0 ≤ x → x ≤ y) (h2 : x ≤ 0 → y ≤ x) : fits y = false := by
  have := fits_no h
  cases hy : fits y
  · rfl
  · have := (fits_iff y).1 hy
    omega
theorem mul_ge {x y : Int} (hx : 0 ≤ x) (hy : 1 ≤ y) : x ≤ x * y := by
  have := Int.mul_le_mul_of_nonneg_left hy hx
  omega
theorem mul_le_neg {x y : Int} (hx : x ≤ 0) (hy : 1 ≤ y) : x * y ≤ x := by
  have := Int.mul_le_mul_of_nonpos_left hx hy
  omega
theorem half_lt {y : Int} {k : Nat} (h0 : 0 < y) (h : y < 2 ^ (63 - k)) (hk : k ≤ 63) : k ≤ 62 ∧ y / 2 < 2 ^ (63 - (k + 1)) := by
  have hk2 : k ≠ 63 := by
    intro e; subst e
    simp at h; omega
  refine ⟨by omega, ?_⟩
  rw [show 63 - k = 63 - (k + 1) + 1 by omega, Int.pow_succ] at h
  omega
/-- a term is added that does not fit -/
theorem minv_add_no {A B x y z : Int} {k : Nat} (h : MInv A B x y z true k) (hy : 0 < y) (hf : fits (z + x) = false) : MInv A B x (y / 2) (wrap64 (z + x)) false (k + 1) := by
  obtain ⟨e, p, n⟩ := h.yes rfl
  have hh := half_lt hy h.y1 h.kl
  refine ⟨by omega, by omega, hh.2, h.ix, wrap_i64_range _, fun h => (by cases h), fun _ => ?_⟩
  rw [← e]
  rcases (show 0 ≤ A ∨ A ≤ 0 by omega) with q | q
  · obtain ⟨a, b⟩ := p q
    have := mul_ge b (show 1 ≤ y by omega)
    exact fits_far hf (fun _ => by omega) (fun _ => by have := fits_no hf; omega)
  · obtain ⟨a, b⟩ := n q
    have := mul_le_neg b (show 1 ≤ y by omega)
    exact fits_far hf (fun _ => by have := fits_no hf; omega) (fun _ => by omega)
theorem half_odd {y : Int} (h : y % 2 = 1) : y = y / 2 + y / 2 + 1 := by omega
theorem half_even {y : Int} (h : y % 2 ≠ 1) : y = y / 2 + y / 2 := by omega
theorem mul_odd {x y : Int} (h : y % 2 = 1) : x * y = x + (x + x) * (y / 2) := by
  rw [Int.add_mul, ← Int.mul_add]
  conv => lhs; rw [half_odd h]
  rw [Int.mul_add x _ 1]; omega
theorem mul_even {x y : Int} (h : y % 2 ≠ 1) : x * y = (x + x) * (y / 2) := by
  rw [Int.add_mul, ← Int.mul_add]
  conv => lhs; rw [half_even h]
/-- the doubled factor does not fit, or does; the number of what is over, z' -/
theorem minv_dbl {A B x y z z' : Int} {k : Nat} (h : MInv A B x y z true k) (hy : 1 < y) (iz : I64 z') (e : z' + (x + x) * (y / 2) = A * B) (p : 0 ≤ A → 0 ≤ z') (n : A ≤ 0 → z' ≤ 0) :
    (fits (x + x) = false → MInv A B (wrap64 (x + x)) (y / 2) z' false (k + 1)) ∧ (fits (x + x) = true → MInv A B (x + x) (y / 2) z' true (k + 1)) := by
  obtain ⟨_, p0, n0⟩ := h.yes rfl
  have hh := half_lt (by omega) h.y1 h.kl
  constructor
  · intro hf
    refine ⟨by omega, by omega, hh.2, wrap_i64_range _, iz, fun h => (by cases h), fun _ => ?_⟩
    rw [← e]
    rcases (show 0 ≤ A ∨ A ≤ 0 by omega) with q | q
    · have a := p q
      have b := (p0 q).2
      have := mul_ge (show 0 ≤ x + x by omega) (show 1 ≤ y / 2 by omega)
      exact fits_far hf (fun _ => by omega) (fun _ => by have := fits_no hf; omega)
    · have a := n q
      have b := (n0 q).2
      have := mul_le_neg (show x + x ≤ 0 by omega) (show 1 ≤ y / 2 by omega)
      exact fits_far hf (fun _ => by have := fits_no hf; omega) (fun _ => by omega)
  · intro hf
    have := (fits_iff _).1 hf
    exact ⟨by omega, by omega, hh.2, ⟨this.1, this.2⟩, iz, fun _ => ⟨e, fun q => ⟨p q, by have := (p0 q).2; omega⟩, fun q => ⟨n q, by have := (n0 q).2; omega⟩⟩, fun h => by cases h⟩
/-- the last term -/
theorem minv_last {A B x y z : Int} {k : Nat} (h : MInv A B x y z true k) (hy : y = 1) (hf : fits (z + x) = true) : MInv A B x (y / 2) (z + x) true (k + 1) := by
  obtain ⟨e, p, n⟩ := h.yes rfl
  have hh := half_lt (by omega) h.y1 h.kl
  have := (fits_iff _).1 hf
  subst hy
  exact ⟨by omega, by omega, hh.2, h.ix, ⟨this.1, this.2⟩, fun _ => ⟨by rw [← e]; simp, fun q => ⟨by have := p q; omega, (p q).2⟩, fun q => ⟨by have := n q; omega, (n q).2⟩⟩, fun h => by cases h⟩
theorem minv_odd {A B x y z : Int} {k : Nat} (h : MInv A B x y z true k) (ho : y % 2 = 1) (hy : 1 < y) (hf : fits (z + x) = true) :
    (fits (x + x) = false → MInv A B (wrap64 (x + x)) (y / 2) (z + x) false (k + 1)) ∧ (fits (x + x) = true → MInv A B (x + x) (y / 2) (z + x) true (k + 1)) := by
  obtain ⟨e, p, n⟩ := h.yes rfl
  have := (fits_iff _).1 hf
  refine minv_dbl h hy ⟨this.1, this.2⟩ ?_ (fun q => by have := p q; omega) (fun q => by have := n q; omega)
  rw [← e, mul_odd ho]; omega
theorem minv_even {A B x y z : Int} {k : Nat} (h : MInv A B x y z true k) (ho : y % 2 ≠ 1) (hy : 1 < y) :
    (fits (x + x) = false → MInv A B (wrap64 (x + x)) (y / 2) z false (k + 1)) ∧ (fits (x + x) = true → MInv A B (x + x) (y / 2) z true (k + 1)) := by
  obtain ⟨e, p, n⟩ := h.yes rfl
  refine minv_dbl h hy h.iz ?_ (fun q => (p q).1) (fun q => (n q).1)
  rw [← e, mul_even ho]

theorem minv_y {A B x y z : Int} {o : Bool} {k : Nat} (h : MInv A B x y z o k) : y ≤ 9223372036854775807 := by
  have h1 := h.y1
  have h2 : (2 : Int) ^ (63 - k) ≤ 2 ^ 63 := by
    have h := Fl.pow_le (show 63 - k ≤ 63 by omega)
    have e : ((2 ^ (63 - k) : Nat) : Int) = 2 ^ (63 - k) := by simp
    rw [← e]; omega
  omega
set_option maxHeartbeats 2000000 in
theorem rmul_c (a b : Int) (w : World) (ha : I64 a) (hb : I64 b) (h1 : (b == -9223372036854775808) = false) (h2 : (a == -9223372036854775808) = false) (h3 : ¬ b < 0) :
    Calls Try.prog 49 #[.int .i64 a, .int .i64 b] w (MulEnds a b w) := by
  go_enter Try.func49, Try.ntmps49
  go_wp2
  go_loop [0, 1, 6, 7, 8] (fun u1 u2 u3 u4 u5 => ∃ (x y z : Int) (o : Bool) (k : Nat), u1 = .int .i64 x ∧ u2 = .int .i64 y ∧ u3 = .int .i64 z ∧ u4 = .bool o ∧ u5 = .int .i64 k ∧ MInv a b x y z o k) (fun _ _ _ _ u5 => 64 - (intOf u5).toNat)
  case atStart =>
    refine ⟨a, b, 0, true, 0, rfl, rfl, rfl, rfl, rfl, by omega, by omega, ?_, ha, ⟨by omega, by omega⟩, fun _ => ⟨by simp, fun q => ⟨by omega, q⟩, fun q => ⟨by omega, q⟩⟩, fun h => by cases h⟩
    have := hb.hi; simp; omega
  case round =>
    obtain ⟨x, y, z, o, k, rfl, rfl, rfl, rfl, rfl, hi⟩ := hrel
    have hk := hi.kl
    have hy0 := hi.y0
    have hix := hi.ix
    have hiz := hi.iz
    cases o
    · have E := mul_ends (w := w) 0 false (hi.no rfl) (by unfold clip; rw [hi.no rfl]; rfl)
      by_cases hy : 0 < y
      · go_wp2
        go_ret2
        exact E
      · go_wp2
        go_ret2
        exact E
    · have hyM := minv_y hi
      by_cases hy : 0 < y
      · by_cases ho : y % 2 = 1
        · have hob : (y % 2 == 1) = true := beq_iff_eq.2 ho
          cases hf : fits (z + x)
          · have H := Lib.hid (minv_add_no hi hy hf)
            clear ho
            by_cases hh : 1 < y
            · go_wp2_with ((with_reducible refine (fits_add_c _ _ _ (by assumption) (by assumption)).mono ?_); rintro e w1 ⟨rfl, rfl⟩)
              all_goals
                go_round
                case rel => exact ⟨_, _, _, _, k + 1, rfl, rfl, rfl, rfl, by go_num, H.out⟩
                case measure => simp [intOf]; omega
            · go_wp2_with ((with_reducible refine (fits_add_c _ _ _ (by assumption) (by assumption)).mono ?_); rintro e w1 ⟨rfl, rfl⟩)
              all_goals
                go_round
                case rel => exact ⟨_, _, _, _, k + 1, rfl, rfl, rfl, rfl, by go_num, H.out⟩
                case measure => simp [intOf]; omega
          · have hw : wrap64 (z + x) = z + x := wrap_fits hf
            by_cases hh : 1 < y
            · have H := minv_odd hi ho hh hf
              have hiz' : I64 (z + x) := by have := (fits_iff _).1 hf; exact ⟨this.1, this.2⟩
              clear ho
              cases hg : fits (x + x)
              · have H' := Lib.hid (H.1 hg)
                clear H
                go_wp2_with ((with_reducible refine (fits_add_c _ _ _ (by assumption) (by assumption)).mono ?_); rintro e w1 ⟨rfl, rfl⟩)
                all_goals
                  go_round
                  case rel => exact ⟨_, _, _, _, k + 1, rfl, rfl, rfl, rfl, by go_num, H'.out⟩
                  case measure => simp [intOf]; omega
              · have H' := Lib.hid (H.2 hg)
                have hw2 : Hid (wrap64 (x + x) = x + x) := wrap_fits hg
                clear H
                go_wp2_with ((with_reducible refine (fits_add_c _ _ _ (by assumption) (by assumption)).mono ?_); rintro e w1 ⟨rfl, rfl⟩)
                all_goals
                  go_round
                  case rel => exact ⟨_, _, _, _, k + 1, rfl, rfl, rfl, rfl, by go_num, by rw [hw2.out]; exact H'.out⟩
                  case measure => simp [intOf]; omega
            · have H := Lib.hid (minv_last hi (by omega) hf)
              clear ho
              go_wp2_with ((with_reducible refine (fits_add_c _ _ _ (by assumption) (by assumption)).mono ?_); rintro e w1 ⟨rfl, rfl⟩)
              all_goals
                go_round
                case rel => exact ⟨_, _, _, _, k + 1, rfl, rfl, rfl, rfl, by go_num, H.out⟩
                case measure => simp [intOf]; omega
        · have hob : (y % 2 == 1) = false := beq_eq_false_iff_ne.2 ho
          have hh : 1 < y := by omega
          have H := minv_even hi ho hh
          clear ho
          cases hg : fits (x + x)
          · have H' := Lib.hid (H.1 hg)
            clear H
            go_wp2_with ((with_reducible refine (fits_add_c _ _ _ (by assumption) (by assumption)).mono ?_); rintro e w1 ⟨rfl, rfl⟩)
            all_goals
              go_round
              case rel => exact ⟨_, _, _, _, k + 1, rfl, rfl, rfl, rfl, by go_num, H'.out⟩
              case measure => simp [intOf]; omega
          · have H' := Lib.hid (H.2 hg)
            have hw2 : Hid (wrap64 (x + x) = x + x) := wrap_fits hg
            clear H
            go_wp2_with ((with_reducible refine (fits_add_c _ _ _ (by assumption) (by assumption)).mono ?_); rintro e w1 ⟨rfl, rfl⟩)
            all_goals
              go_round
              case rel => exact ⟨_, _, _, _, k + 1, rfl, rfl, rfl, rfl, by go_num, by rw [hw2.out]; exact H'.out⟩
              case measure => simp [intOf]; omega
      · have hz : y = 0 := by omega
        have E : MulEnds a b w (.returned (.tuple #[.int .i64 z, .bool true])) w := by
          have e := (hi.yes rfl).1
          rw [hz, Int.mul_zero, Int.add_zero] at e
          have f : fits (a * b) = true := by rw [← e]; exact (fits_iff _).2 ⟨hiz.lo, hiz.hi⟩
          exact mul_ends z true f (by unfold clip; rw [f, ← e]; rfl)
        clear hz
        go_wp2
        go_ret2
        exact E

set_option maxHeartbeats 2000000 in
theorem rmul_neg (a b : Int) (w : World) (ha : I64 a) (hb : I64 b) (h1 : (b == -9223372036854775808) = false) (h2 : (a == -9223372036854775808) = false) (h3 : b < 0) :
    Calls Try.prog 49 #[.int .i64 a, .int .i64 b] w (MulEnds a b w) := by
  have hA : -9223372036854775808 < a := by have := ha.lo; have := beq_eq_false_iff_ne.1 h2; omega
  have hB : -9223372036854775808 < b := by have := hb.lo; have := beq_eq_false_iff_ne.1 h1; omega
  have hab : Hid (-a * -b = a * b) := by rw [Int.neg_mul_neg]; exact rfl
  have ha' : I64 (-a) := ⟨by have := ha.hi; omega, by omega⟩
  have hb' : I64 (-b) := ⟨by have := hb.hi; omega, by omega⟩
  have Hw1 : Hid (wrap64 (-a) = -a) := by unfold RowKit.Hid wrap64; have := ha.hi; omega
  have Hw2 : Hid (wrap64 (-b) = -b) := by unfold RowKit.Hid wrap64; have := hb.hi; omega
  clear hA hB
  go_enter Try.func49, Try.ntmps49
  go_wp2
  go_loop [0, 1, 6, 7, 8] (fun u1 u2 u3 u4 u5 => ∃ (x y z : Int) (o : Bool) (k : Nat), u1 = .int .i64 x ∧ u2 = .int .i64 y ∧ u3 = .int .i64 z ∧ u4 = .bool o ∧ u5 = .int .i64 k ∧ MInv (-a) (-b) x y z o k) (fun _ _ _ _ u5 => 64 - (intOf u5).toNat)
  case atStart =>
    refine ⟨-a, -b, 0, true, 0, by rw [Hw1.out], by rw [Hw2.out], rfl, rfl, rfl, by omega, by omega, ?_, ha', ⟨by omega, by omega⟩, fun _ => ⟨by simp, fun q => ⟨by omega, q⟩, fun q => ⟨by omega, q⟩⟩, fun h => by cases h⟩
    have := hb'.hi; simp; omega
  case round =>
    obtain ⟨x, y, z, o, k, rfl, rfl, rfl, rfl, rfl, hi⟩ := hrel
    have hk := hi.kl
    have hy0 := hi.y0
    have hix := hi.ix
    have hiz := hi.iz
    cases o
    · have hn : fits (a * b) = false := by rw [← hab.out]; exact hi.no rfl
      have E := mul_ends (w := w) 0 false hn (by unfold clip; rw [hn]; rfl)
      clear hn
      by_cases hy : 0 < y
      · go_wp2
        go_ret2
        exact E
      · go_wp2
        go_ret2
        exact E
    · have hyM := minv_y hi
      by_cases hy : 0 < y
      · by_cases ho : y % 2 = 1
        · have hob : (y % 2 == 1) = true := beq_iff_eq.2 ho
          cases hf : fits (z + x)
          · have H := Lib.hid (minv_add_no hi hy hf)
            clear ho
            by_cases hh : 1 < y
            · go_wp2_with ((with_reducible refine (fits_add_c _ _ _ (by assumption) (by assumption)).mono ?_); rintro e w1 ⟨rfl, rfl⟩)
              all_goals
                go_round
                case rel => exact ⟨_, _, _, _, k + 1, rfl, rfl, rfl, rfl, by go_num, H.out⟩
                case measure => simp [intOf]; omega
            · go_wp2_with ((with_reducible refine (fits_add_c _ _ _ (by assumption) (by assumption)).mono ?_); rintro e w1 ⟨rfl, rfl⟩)
              all_goals
                go_round
                case rel => exact ⟨_, _, _, _, k + 1, rfl, rfl, rfl, rfl, by go_num, H.out⟩
                case measure => simp [intOf]; omega
          · have hw : wrap64 (z + x) = z + x := wrap_fits hf
            by_cases hh : 1 < y
            · have H := minv_odd hi ho hh hf
              have hiz' : I64 (z + x) := by have := (fits_iff _).1 hf; exact ⟨this.1, this.2⟩
              clear ho
              cases hg : fits (x + x)
              · have H' := Lib.hid (H.1 hg)
                clear H
                go_wp2_with ((with_reducible refine (fits_add_c _ _ _ (by assumption) (by assumption)).mono ?_); rintro e w1 ⟨rfl, rfl⟩)
                all_goals
                  go_round
                  case rel => exact ⟨_, _, _, _, k + 1, rfl, rfl, rfl, rfl, by go_num, H'.out⟩
                  case measure => simp [intOf]; omega
              · have H' := Lib.hid (H.2 hg)
                have hw2 : Hid (wrap64 (x + x) = x + x) := wrap_fits hg
                clear H
                go_wp2_with ((with_reducible refine (fits_add_c _ _ _ (by assumption) (by assumption)).mono ?_); rintro e w1 ⟨rfl, rfl⟩)
                all_goals
                  go_round
                  case rel => exact ⟨_, _, _, _, k + 1, rfl, rfl, rfl, rfl, by go_num, by rw [hw2.out]; exact H'.out⟩
                  case measure => simp [intOf]; omega
            · have H := Lib.hid (minv_last hi (by omega) hf)
              clear ho
              go_wp2_with ((with_reducible refine (fits_add_c _ _ _ (by assumption) (by assumption)).mono ?_); rintro e w1 ⟨rfl, rfl⟩)
              all_goals
                go_round
                case rel => exact ⟨_, _, _, _, k + 1, rfl, rfl, rfl, rfl, by go_num, H.out⟩
                case measure => simp [intOf]; omega
        · have hob : (y % 2 == 1) = false := beq_eq_false_iff_ne.2 ho
          have hh : 1 < y := by omega
          have H := minv_even hi ho hh
          clear ho
          cases hg : fits (x + x)
          · have H' := Lib.hid (H.1 hg)
            clear H
            go_wp2_with ((with_reducible refine (fits_add_c _ _ _ (by assumption) (by assumption)).mono ?_); rintro e w1 ⟨rfl, rfl⟩)
            all_goals
              go_round
              case rel => exact ⟨_, _, _, _, k + 1, rfl, rfl, rfl, rfl, by go_num, H'.out⟩
              case measure => simp [intOf]; omega
          · have H' := Lib.hid (H.2 hg)
            have hw2 : Hid (wrap64 (x + x) = x + x) := wrap_fits hg
            clear H
            go_wp2_with ((with_reducible refine (fits_add_c _ _ _ (by assumption) (by assumption)).mono ?_); rintro e w1 ⟨rfl, rfl⟩)
            all_goals
              go_round
              case rel => exact ⟨_, _, _, _, k + 1, rfl, rfl, rfl, rfl, by go_num, by rw [hw2.out]; exact H'.out⟩
              case measure => simp [intOf]; omega
      · have hz : y = 0 := by omega
        have E : MulEnds a b w (.returned (.tuple #[.int .i64 z, .bool true])) w := by
          have e := (hi.yes rfl).1
          rw [hz, Int.mul_zero, Int.add_zero, hab.out] at e
          have f : fits (a * b) = true := by rw [← e]; exact (fits_iff _).2 ⟨hiz.lo, hiz.hi⟩
          exact mul_ends z true f (by unfold clip; rw [f, ← e]; rfl)
        clear hz
        go_wp2
        go_ret2
        exact E

/-! the reference's other ways, by cases on the least int64 -/
theorem clip_fits {x : Int} (h : fits x = true) : clip x = x := by unfold clip; rw [h]; rfl
theorem clip_nofits {x : Int} (h : fits x = false) : clip x = 0 := by unfold clip; rw [h]; rfl
def least : Int := -9223372036854775808
theorem least_mul {b : Int} (hb : I64 b) : fits (-9223372036854775808 * b) = (b == 0 || b == 1) := by
  have := hb.lo; have := hb.hi
  unfold fits
  rw [Bool.eq_iff_iff]; simp; omega
set_option maxHeartbeats 2000000 in
/-- the first factor is the least int64, the second one is not -/
theorem rmul_least (b : Int) (w : World) (hb : I64 b) (h1 : (b == -9223372036854775808) = false) :
    Calls Try.prog 49 #[.int .i64 (-9223372036854775808), .int .i64 b] w (MulEnds (-9223372036854775808) b w) := by
  have hf := least_mul hb
  by_cases b0 : b = 0
  · subst b0
    have E := mul_ends (a := -9223372036854775808) (b := 0) (w := w) 0 true (by decide) (by decide)
    go_enter Try.func49, Try.ntmps49
    go_wp2
    go_ret2
    exact E
  · by_cases b1 : b = 1
    · subst b1
      have E := mul_ends (a := -9223372036854775808) (b := 1) (w := w) (-9223372036854775808) true (by decide) (by decide)
      go_enter Try.func49, Try.ntmps49
      go_wp2
      go_ret2
      exact E
    · have z0 : (b == 0) = false := beq_eq_false_iff_ne.2 b0
      have z1 : (b == 1) = false := beq_eq_false_iff_ne.2 b1
      have f : fits (-9223372036854775808 * b) = false := by rw [hf, z0, z1]; rfl
      have E := mul_ends (a := -9223372036854775808) (b := b) (w := w) 0 false f (clip_nofits f).symm
      clear hf f b0 b1
      go_enter Try.func49, Try.ntmps49
      go_wp2
      go_ret2
      exact E

set_option maxHeartbeats 2000000 in
/-- the second factor is the least int64 -/
theorem rmul_swap (a : Int) (w : World) (ha : I64 a) :
    Calls Try.prog 49 #[.int .i64 a, .int .i64 (-9223372036854775808)] w (MulEnds a (-9223372036854775808) w) := by
  have hf : fits (a * -9223372036854775808) = (a == 0 || a == 1) := by rw [Int.mul_comm]; exact least_mul ha
  by_cases b0 : a = 0
  · subst b0
    have E := mul_ends (a := 0) (b := -9223372036854775808) (w := w) 0 true (by decide) (by decide)
    go_enter Try.func49, Try.ntmps49
    go_wp2
    go_ret2
    exact E
  · by_cases b1 : a = 1
    · subst b1
      have E := mul_ends (a := 1) (b := -9223372036854775808) (w := w) (-9223372036854775808) true (by decide) (by decide)
      go_enter Try.func49, Try.ntmps49
      go_wp2
      go_ret2
      exact E
    · have z0 : (a == 0) = false := beq_eq_false_iff_ne.2 b0
      have z1 : (a == 1) = false := beq_eq_false_iff_ne.2 b1
      have f : fits (a * -9223372036854775808) = false := by rw [hf, z0, z1]; rfl
      have E := mul_ends (a := a) (b := -9223372036854775808) (w := w) 0 false f (clip_nofits f).symm
      clear hf f b0 b1
      go_enter Try.func49, Try.ntmps49
      go_wp2
      go_ret2
      exact E
theorem rmul_all (a b : Int) (w : World) (ha : I64 a) (hb : I64 b) :
    Calls Try.prog 49 #[.int .i64 a, .int .i64 b] w (MulEnds a b w) := by
  by_cases h1 : b = -9223372036854775808
  · subst h1; exact rmul_swap a w ha
  · by_cases h2 : a = -9223372036854775808
    · subst h2; exact rmul_least b w hb (beq_eq_false_iff_ne.2 h1)
    · by_cases h3 : b < 0
      · exact rmul_neg a b w ha hb (beq_eq_false_iff_ne.2 h1) (beq_eq_false_iff_ne.2 h2) h3
      · exact rmul_c a b w ha hb (beq_eq_false_iff_ne.2 h1) (beq_eq_false_iff_ne.2 h2) h3

end Go.Proofs.Ytipjelkdbbhcpaa
