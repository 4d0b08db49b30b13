
/-
  FoldAdds: the plain laws, the walk.
-/
import Derived.Test.YtipjelkdbbhcpaaFdN
import Derived.Test.YtipjelkdbbhcpaaFdW
set_option linter.unusedSimpArgs false
set_option linter.unusedVariables false
namespace Go.Proofs.Ytipjelkdbbhcpaa
open Go.RowKit Go.Deep

theorem sum_comm (d e : Ieee.Datum) : d.sum e = e.sum d := by
  cases d with
  | nan => cases e <;> rfl
  | infinity s =>
    cases e with
    | nan => rfl
    | infinity t =>
      simp only [Ieee.Datum.sum]
      by_cases h : s = t
      · subst h; rfl
      · rw [if_neg h, if_neg (Ne.symm h)]
    | number => rfl
  | number s m i =>
    cases e with
    | nan => rfl
    | infinity => rfl
    | number t n j =>
      simp only [Ieee.Datum.sum]
      rw [Int.min_comm j i, Int.add_comm (Ieee.signed t n _), Bool.and_comm]
theorem product_comm (d e : Ieee.Datum) : d.product e = e.product d := by
  cases d with
  | nan => cases e <;> rfl
  | infinity s =>
    cases e with
    | nan => rfl
    | infinity t =>
      simp only [Ieee.Datum.product]
      rw [Bool.xor_comm]
    | number => rfl
  | number s m i =>
    cases e with
    | nan => rfl
    | infinity => rfl
    | number t n j =>
      simp only [Ieee.Datum.product]
      rw [Bool.xor_comm, Nat.mul_comm, Int.add_comm]
theorem opC_add_comm (x y : Nat) : opC .add x y = opC .add y x := by
  unfold opC floatBits
  simp only [Ieee.Format.add]
  rw [sum_comm]
theorem opC_mul_comm (x y : Nat) : opC .mul x y = opC .mul y x := by
  unfold opC floatBits
  simp only [Ieee.Format.mul]
  rw [product_comm]
theorem add_turn (a b : Val) : arV .add (· + ·) b a = arV .add (· + ·) a b := by
  unfold arV
  rw [opC_add_comm, Bool.and_comm, Bool.or_comm]
  simp only [Int.add_comm b.n a.n]
theorem mul_turn (a b : Val) : arV .mul (· * ·) b a = arV .mul (· * ·) a b := by
  unfold arV
  rw [opC_mul_comm, Bool.and_comm, Bool.or_comm]
  simp only [Int.mul_comm b.n a.n]
theorem flat_same {x y : Val} (hx : Flat x) (hy : Flat y) (h : sameV y x = true) : sameV x y = true := by
  obtain ⟨k, b, n, f, s, l⟩ := x
  obtain ⟨k', b', n', f', s', l'⟩ := y
  obtain ⟨h1, _, _, _, h2⟩ := hx
  obtain ⟨h3, _, _, _, h4⟩ := hy
  cases h1; cases h2; cases h3; cases h4
  simp only [sameV, sameVL, Bool.and_true, Bool.and_eq_true, beq_iff_eq] at h ⊢
  obtain ⟨⟨⟨⟨h1, h2⟩, h3⟩, h4⟩, h5⟩ := h
  exact ⟨⟨⟨⟨h1.symm, h2.symm⟩, h3.symm⟩, h4.symm⟩, trivial⟩
/-- a value laid into a block of its own -/
theorem box_step (w : World) (v : Val) (A : Option Addr) (len c : Nat) : ∃ w', w.alloc (.cells #[.int .i64 v.k, .bool v.b, .int .i64 v.n, .float .f64 v.f, .string (st v.s), .slice A len c] 27) = w' ∧ Below w.heap.size w w' ∧ Box w' w.heap.size v.k v.b v.n v.f v.s A len c ∧ w'.heap.size = w.heap.size + 1 :=
  ⟨_, rfl, below_alloc w _, Box.new w _ _ _ _ _ _ _ _ _, alloc_grows _ _ rfl⟩

set_option maxRecDepth 8000 in
set_option maxHeartbeats 2000000 in
theorem foldAdds_walk (u : Value) (a : Val) (v : Value) (b : Val) (w : World) (hu : Has w u a) (hv : Has w v b) :
    Calls Try.prog 6 #[u, v] w fun e w' => e = .returned (.bool true) ∧ Below w.heap.size w w' := by
  obtain ⟨A, ca, rfl, _, hna, _⟩ := hu.open
  obtain ⟨B, cb, rfl, _, hnb, _⟩ := hv.open
  have cA := fun wx => fadd_c a b A B a.l.length ca b.l.length cb wx hna hnb
  have rA := fun wx => radd_c a b A B a.l.length ca b.l.length cb wx hna hnb
  have cM := fun wx => fmul_c a b A B a.l.length ca b.l.length cb wx hna hnb
  have rM := fun wx => rfmul_c a b A B a.l.length ca b.l.length cb wx hna hnb
  have fX := arV_flat .add (· + ·) a b
  have fY := arV_flat .mul (· * ·) a b
  clear hu hv hna hnb
  generalize arV .add (· + ·) a b = X at *
  generalize arV .mul (· * ·) a b = Y at *
  obtain ⟨x, e1⟩ := X
  obtain ⟨y, e2⟩ := Y
  unfold ArEnds at cA cM
  unfold RArEnds at rA rM
  dsimp only at cA cM rA rM fX fY
  generalize a.l.length = la at *
  generalize b.l.length = lb at *
  go_enter Try.func6, Try.ntmps6
  obtain ⟨w1, hw1, k1, xa1, s1⟩ := box_step w a A la ca
  obtain ⟨w2, hw2, k2, xb2, s2⟩ := box_step w1 b B lb cb
  rw [s1] at xb2
  have xa2 := xa1.keep k2
  have B2 := k1.trans (k2.mono k1.size)
  generalize w.heap.size + 1 = g at *
  have xaH := Lib.hid xa2
  have xbH := Lib.hid xb2
  obtain ⟨p6, p0, p1, p2, p3, p4, p5⟩ := xa2
  obtain ⟨q6, q0, q1, q2, q3, q4, q5⟩ := xb2
  go_upto_region 2 with ((with_reducible refine (cA _).mono ?_); rintro e w3 ⟨rfl, hb3⟩)
  obtain ⟨w4, hw4, k4, x4, -⟩ := box_step w3 x none 0 0
  have j4 := hb3.trans (k4.mono hb3.size)
  have B4 := B2.trans (j4.mono B2.size)
  have xaH := Lib.hid (xaH.out.keep j4)
  have xbH := Lib.hid (xbH.out.keep j4)
  clear p0 p1 p2 p3 p4 p5 p6 q0 q1 q2 q3 q4 q5 q6
  obtain ⟨p6, p0, p1, p2, p3, p4, p5⟩ := xaH.out
  obtain ⟨q6, q0, q1, q2, q3, q4, q5⟩ := xbH.out
  rw [hw4]
  clear hw4 hb3 k4 j4
  go_upto_region 3 with ((with_reducible refine (rA _).mono ?_); rintro e w5 ⟨y1, rfl, fy1, hs1, hb5⟩)
  obtain ⟨w6, hw6, k6, x6, -⟩ := box_step w5 y1 none 0 0
  have j6 := hb5.trans (k6.mono hb5.size)
  have B6 := B4.trans (j6.mono B4.size)
  have xaH := Lib.hid (xaH.out.keep j6)
  have xbH := Lib.hid (xbH.out.keep j6)
  have x4 := x4.keep j6
  clear p0 p1 p2 p3 p4 p5 p6 q0 q1 q2 q3 q4 q5 q6
  obtain ⟨p6, p0, p1, p2, p3, p4, p5⟩ := xaH.out
  obtain ⟨q6, q0, q1, q2, q3, q4, q5⟩ := xbH.out
  rw [hw6]
  clear hw6 hb5 k6 j6
  go_upto_region 4 with ((with_reducible refine (cM _).mono ?_); rintro e w7 ⟨rfl, hb7⟩)
  obtain ⟨w8, hw8, k8, x8, -⟩ := box_step w7 y none 0 0
  have j8 := hb7.trans (k8.mono hb7.size)
  have B8 := B6.trans (j8.mono B6.size)
  have xaH := Lib.hid (xaH.out.keep j8)
  have xbH := Lib.hid (xbH.out.keep j8)
  have x4 := x4.keep j8
  have x6 := x6.keep j8
  clear p0 p1 p2 p3 p4 p5 p6 q0 q1 q2 q3 q4 q5 q6
  obtain ⟨p6, p0, p1, p2, p3, p4, p5⟩ := xaH.out
  obtain ⟨q6, q0, q1, q2, q3, q4, q5⟩ := xbH.out
  rw [hw8]
  clear hw8 hb7 k8 j8
  go_upto_region 5 with ((with_reducible refine (rM _).mono ?_); rintro e w9 ⟨y2, rfl, fy2, hs2, hb9⟩)
  obtain ⟨w10, hw10, k10, x10, -⟩ := box_step w9 y2 none 0 0
  have j10 := hb9.trans (k10.mono hb9.size)
  have B10 := B8.trans (j10.mono B8.size)
  have xaH := Lib.hid (xaH.out.keep j10)
  have xbH := Lib.hid (xbH.out.keep j10)
  have x4 := x4.keep j10
  have x6 := x6.keep j10
  have x8 := x8.keep j10
  clear p0 p1 p2 p3 p4 p5 p6 q0 q1 q2 q3 q4 q5 q6
  obtain ⟨p6, p0, p1, p2, p3, p4, p5⟩ := xaH.out
  obtain ⟨q6, q0, q1, q2, q3, q4, q5⟩ := xbH.out
  rw [hw10]
  clear hw10 hb9 k10 j10
  have aw := fun w => awake_c w
  have cs1 : ∀ p : In w10, Calls Try.prog 15 #[valV x.k x.b x.n x.f x.s none 0 0, valV y1.k y1.b y1.n y1.f y1.s none 0 0] p.w fun e w' => e = .returned (.bool true) ∧ Below p.w.heap.size p.w w' := fun p => by
    have := rsame_c x y1 _ _ p.w (fX.has p.w) (fy1.has p.w)
    rwa [flat_same fX fy1 hs1] at this
  have cs2 : ∀ p : In w10, Calls Try.prog 15 #[valV y.k y.b y.n y.f y.s none 0 0, valV y2.k y2.b y2.n y2.f y2.s none 0 0] p.w fun e w' => e = .returned (.bool true) ∧ Below p.w.heap.size p.w w' := fun p => by
    have := rsame_c y y2 _ _ p.w (fY.has p.w) (fy2.has p.w)
    rwa [flat_same fY fy2 hs2] at this
  clear p0 p1 p2 p3 p4 p5 p6 q0 q1 q2 q3 q4 q5 q6 cA rA cM rM fX fY fy1 fy2 hs1 hs2 xa1
  obtain ⟨p6, p0, p1, p2, p3, p4, p5⟩ := x4
  obtain ⟨q6, q0, q1, q2, q3, q4, q5⟩ := x6
  obtain ⟨r6, r0, r1, r2, r3, r4, r5⟩ := x8
  obtain ⟨s6, s0, s1, s2, s3, s4, s5⟩ := x10
  go_wp2_with (first | ((with_reducible refine (aw _).mono ?_); rintro e w11 ⟨rfl, hb11⟩; (first | ((with_reducible obtain ⟨p, hw''⟩ := In.of2 p hb11); subst hw'') | (obtain ⟨p, hw''⟩ := In.of hb11; subst hw''))) | ((with_reducible refine (cs1 _).mono ?_); rintro e w12 ⟨rfl, hb12⟩; (first | ((with_reducible obtain ⟨p, hw''⟩ := In.of2 p hb12); subst hw'') | (obtain ⟨p, hw''⟩ := In.of hb12; subst hw''))) | ((with_reducible refine (cs2 _).mono ?_); rintro e w13 ⟨rfl, hb13⟩; (first | ((with_reducible obtain ⟨p, hw''⟩ := In.of2 p hb13); subst hw'') | (obtain ⟨p, hw''⟩ := In.of hb13; subst hw''))))
  go_ret
  exact ⟨rfl, p.back B10⟩
end Go.Proofs.Ytipjelkdbbhcpaa
