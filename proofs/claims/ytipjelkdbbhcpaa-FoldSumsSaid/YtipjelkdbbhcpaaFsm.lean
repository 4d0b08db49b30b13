
/-
  FoldSums: the walk.
-/
import Derived.Test.YtipjelkdbbhcpaaFdU
set_option linter.unusedSimpArgs false
set_option linter.unusedVariables false
namespace Go.Proofs.Ytipjelkdbbhcpaa
open Go.RowKit Go.Deep

theorem sumF_flat : ∀ (l : List Val) (acc : Val), Flat acc → Flat (sumF l acc).1
  | [], acc, h => h
  | x :: l, acc, h => by
    unfold sumF
    split
    · exact noV_flat
    · exact sumF_flat l _ (arV_flat _ _ _ _)
set_option maxRecDepth 8000 in
set_option maxHeartbeats 2000000 in
theorem foldSums_walk (A : Option Addr) (cap : Nat) (l : List Val) (w : World) (hx : Parts w A l) (hl : l.length ≤ cap) (hcap : cap ≤ maxLen) :
    Calls Try.prog 5 #[.slice A l.length cap] w fun e w' => e = .returned (.bool true) ∧ Below w.heap.size w w' := by
  have c1 := cut_c A cap l w hx hl hcap
  clear hx hl hcap
  go_enter Try.func5, Try.ntmps5
  go_upto_region 2 with ((with_reducible refine c1.mono ?_); rintro e w1 ⟨A1, cap1, ys, rfl, hp1, hyc, hcm, h20, hsm, hb1⟩)
  have cA := fsum_c A1 cap1 ys w1 hp1 (by omega)
  have cB : ∀ wx, Below w1.heap.size w1 wx → Calls Try.prog 17 #[.slice A1 ys.length cap1] wx (RArEnds (sumF ys (intV 0)) wx) := fun wx h => rsum_c A1 cap1 ys wx (hp1.keep h) (by omega)
  have cC : ∀ wx, Below w1.heap.size w1 wx → Calls Try.prog 18 #[.slice A1 ys.length cap1] wx (MeanEnds (meanV ys) wx) := fun wx h => fmean_c A1 cap1 ys wx (hp1.keep h) (by omega)
  have cD : ∀ wx, Below w1.heap.size w1 wx → Calls Try.prog 19 #[.slice A1 ys.length cap1] wx (RMeanEnds (meanV ys) wx) := fun wx h => rmean_c A1 cap1 ys wx (hp1.keep h) (by omega)
  have fX := sumF_flat ys (intV 0) (intV_flat ⟨by omega, by omega⟩)
  have fY := meanV_flat ys
  clear c1 hp1 hsm
  generalize sumF ys (intV 0) = X at *
  generalize meanV ys = Y at *
  generalize ys.length = L at *
  obtain ⟨x, e1⟩ := X
  obtain ⟨y, is, e2⟩ := Y
  unfold ArEnds at cA
  unfold RArEnds at cB
  unfold MeanEnds at cC
  unfold RMeanEnds at cD
  dsimp only at cA cB cC cD fX fY
  go_upto_region 3 with ((with_reducible refine cA.mono ?_); rintro e w2 ⟨rfl, hb2⟩)
  obtain ⟨w3, hw3, k3, x3, -⟩ := box_step w2 x none 0 0
  have j3 := hb2.trans (k3.mono hb2.size)
  have B3 := hb1.trans (j3.mono hb1.size)
  have cB := cB w3 j3
  rw [hw3]
  clear hw3 hb2 k3 cA
  go_upto_region 4 with ((with_reducible refine cB.mono ?_); rintro e w4 ⟨x', rfl, fx', hsx, hb4⟩)
  obtain ⟨w5, hw5, k5, x5, -⟩ := box_step w4 x' none 0 0
  have j5 := hb4.trans (k5.mono hb4.size)
  have B5 := B3.trans (j5.mono B3.size)
  have x3 := x3.keep j5
  have j5 := j3.trans (j5.mono j3.size)
  have cC := cC w5 j5
  rw [hw5]
  clear hw5 hb4 k5 cB j3
  go_upto_region 5 with ((with_reducible refine cC.mono ?_); rintro e w6 ⟨rfl, hb6⟩)
  obtain ⟨w7, hw7, k7, x7, -⟩ := box_step w6 y none 0 0
  have j7 := hb6.trans (k7.mono hb6.size)
  have B7 := B5.trans (j7.mono B5.size)
  have x3 := x3.keep j7
  have x5 := x5.keep j7
  have j7 := j5.trans (j7.mono j5.size)
  have cD := cD w7 j7
  rw [hw7]
  clear hw7 hb6 k7 cC j5
  go_upto_region 6 with ((with_reducible refine cD.mono ?_); rintro e w8 ⟨y', rfl, fy', hsy, hb8⟩)
  obtain ⟨w9, hw9, k9, x9, -⟩ := box_step w8 y' none 0 0
  have j9 := hb8.trans (k9.mono hb8.size)
  have B9 := B7.trans (j9.mono B7.size)
  have x3 := x3.keep j9
  have x5 := x5.keep j9
  have x7 := x7.keep j9
  rw [hw9]
  clear hw9 hb8 k9 cD j7 j9
  have aw := fun w => awake_c w
  have cs1 : ∀ p : In w9, Calls Try.prog 15 #[valV x.k x.b x.n x.f x.s none 0 0, valV x'.k x'.b x'.n x'.f x'.s none 0 0] p.w fun e w' => e = .returned (.bool true) ∧ Below p.w.heap.size p.w w' := fun p => by
    have := rsame_c x x' _ _ p.w (fX.has p.w) (fx'.has p.w)
    rwa [flat_same fX fx' hsx] at this
  have cs2 : ∀ p : In w9, Calls Try.prog 15 #[valV y.k y.b y.n y.f y.s none 0 0, valV y'.k y'.b y'.n y'.f y'.s none 0 0] p.w fun e w' => e = .returned (.bool true) ∧ Below p.w.heap.size p.w w' := fun p => by
    have := rsame_c y y' _ _ p.w (fY.has p.w) (fy'.has p.w)
    rwa [flat_same fY fy' hsy] at this
  obtain ⟨p6, p0, p1, p2, p3, p4, p5⟩ := x3
  obtain ⟨q6, q0, q1, q2, q3, q4, q5⟩ := x5
  obtain ⟨r6, r0, r1, r2, r3, r4, r5⟩ := x7
  obtain ⟨s6, s0, s1, s2, s3, s4, s5⟩ := x9
  clear hsx hsy fX fx' fY fy'
  go_wp2_with (first | ((with_reducible refine (aw _).mono ?_); rintro e w11 ⟨rfl, hb11⟩; (first | ((with_reducible obtain ⟨p, hw''⟩ := In.of2 p hb11); subst hw'') | (obtain ⟨p, hw''⟩ := In.of hb11; subst hw''))) | ((with_reducible refine (cs1 _).mono ?_); rintro e w12 ⟨rfl, hb12⟩; (first | ((with_reducible obtain ⟨p, hw''⟩ := In.of2 p hb12); subst hw'') | (obtain ⟨p, hw''⟩ := In.of hb12; subst hw''))) | ((with_reducible refine (cs2 _).mono ?_); rintro e w13 ⟨rfl, hb13⟩; (first | ((with_reducible obtain ⟨p, hw''⟩ := In.of2 p hb13); subst hw'') | (obtain ⟨p, hw''⟩ := In.of hb13; subst hw''))))
  go_ret
  exact ⟨rfl, p.back B9⟩
end Go.Proofs.Ytipjelkdbbhcpaa
