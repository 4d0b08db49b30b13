
/-
  val's getter: value, a float, a string.
-/
import Derived.Test.YtkbacjlnfmibaaaGetD
set_option linter.unusedSimpArgs false
set_option linter.unusedVariables false
namespace Go.Proofs.Ytkbacjlnfmibaaa
open Go.RowKit Go.Deep

set_option maxRecDepth 8000 in
set_option maxHeartbeats 1000000 in
theorem value_3 (g m : Nat) (d : Int) (hd0 : 0 ≤ d) (hd : d ≤ 13) (c : UInt8) (r : List UInt8) (w : World) (hc : c.toNat = 3) (hg : GSt w g (c :: r) 0) (hs : r.length < 140737488351232) : Calls Try.prog 45 #[.pointer (some ⟨g, 0, none⟩), .int .i64 d] w (ValueEnds g (getF (m + 1) (c :: r)) w) := by
  obtain ⟨RES, hR⟩ : ∃ R, R = getF (m + 1) (c :: r) := ⟨_, rfl⟩
  rw [← hR]
  have hR' := Lib.hid (show RES = (.mk 3 false 0 (wide (tkS r 0 8)) [] [], tkR r 0 8, if canon (wide (tkS r 0 8)) ≠ wide (tkS r 0 8) then flE (tkE r 0 8) 6 else tkE r 0 8) by
    rw [hR, getF]
    simp [hc]
  )
  clear hR
  have hglt := hg.lt
  have hsc : (c :: r).length ≤ 140737488351232 := by simp; omega
  go_enter Try.func45, Try.ntmps45
  go_upto_region 1 with fail
  obtain ⟨w1, hw1⟩ : ∃ w1, w1 = w.alloc (.cells #[.int .i64 0, .bool false, .int .i64 0, .float .f64 0, .string (st []), .slice none 0 0] 25) := ⟨_, rfl⟩
  have hb4 : Bx w1 w.heap.size 0 false 0 0 [] none 0 0 := hw1 ▸ Bx.new w 0 false 0 0 [] none 0 0
  have hg1 : GSt w1 g (c :: r) 0 := hw1 ▸ hg.alloc _
  have hbw : w.grownBy w1 (some g) := hw1 ▸ World.grownBy_alloc _ _ _
  rw [← hw1]
  clear hw1 hg
  have hne : w.heap.size ≠ g := by omega
  have ct : Calls Try.prog 66 #[.pointer (some ⟨g, 0, none⟩), .int .i64 1] w1 fun e w' => e = .returned (.string (st [c])) ∧ GSt w' g r 0 ∧ w1.grownBy w' (some g) := by
    have h := take_c g (c :: r) 0 1 w1 hg1 (by omega) hsc
    have e1 : tkE (c :: r) 0 1 = 0 := by simp [tkE]
    have e2 : tkS (c :: r) 0 1 = [c] := by unfold tkS; rw [e1]; rfl
    have e3 : tkR (c :: r) 0 1 = r := by unfold tkR; rw [e1]; rfl
    unfold TakeEnds at h
    rwa [e1, e2, e3] at h
  have c0 := hg1.c0
  have c1 := hg1.c1
  have l1 := hg1.lt
  go_upto_region 4 with ((with_reducible refine ct.mono ?_); rintro e w3 ⟨rfl, hg3, hs3⟩)
  have hb5 := hb4.step hs3 hne
  have hbw3 := g_trans hbw hs3
  clear ct hs3 hbw hg1 c0 c1 l1 hb4
  have c1 := hg3.c1
  have l1 := hg3.lt
  have hsz3 := hbw3.size
  have hch : wrap64 (((st [c])[0]'(st_lt (by simp)) : UInt8).toNat : Int) = (c.toNat : Int) := by
    rw [st_get [c] 0 (by simp)]
    have := c.toNat_lt
    simp [wrap64]; omega
  go_upto_region 7 with fail
  obtain ⟨wb, hwb⟩ : ∃ wb, wb = w3.alloc (.cells #[.int .i64 3, .bool false, .int .i64 0, .float .f64 0, .string (st []), .slice none 0 0] 25) := ⟨_, rfl⟩
  have hb6 : Bx wb w3.heap.size 3 false 0 0 [] none 0 0 := hwb ▸ Bx.new w3 3 false 0 0 [] none 0 0
  have hgb : GSt wb g r 0 := hwb ▸ hg3.alloc _
  have hb4 : Bx wb w.heap.size 0 false 0 0 [] none 0 0 := by rw [hwb]; exact hb5.step (g := g) (World.grownBy_alloc _ _ _) hne
  have hbwb : w.grownBy wb (some g) := by rw [hwb]; exact Lib.grownBy_allocR hbw3 _
  have hne6 : w3.heap.size ≠ g := by omega
  have hlt46 := hb5.lt
  have hbsz : wb.heap.size = w3.heap.size + 1 := by rw [hwb]; simp
  rw [← hwb]
  clear hch hwb hg3 hb5 hbw3 c1 l1
  generalize w3.heap.size = b6 at *
  have hk256 : I64 c.toNat := ⟨by omega, by have := c.toNat_lt; omega⟩
  have e0 : ((c.toNat : Int) == 0) = false := by simp [hc]
  have e1 : ((c.toNat : Int) == 1) = false := by simp [hc]
  have e2 : ((c.toNat : Int) == 2) = false := by simp [hc]
  have e3 : ((c.toNat : Int) == 3) = true := by simp [hc]
  have e4 : ((c.toNat : Int) == 4) = false := by simp [hc]
  have e5 : ((c.toNat : Int) == 5) = false := by simp [hc]
  have e6 : ((c.toNat : Int) == 6) = false := by simp [hc]
  have e7 : ((c.toNat : Int) == 7) = false := by simp [hc]
  have e8 : ((c.toNat : Int) == 8) = false := by simp [hc]
  have ct : Calls Try.prog 66 #[.pointer (some ⟨g, 0, none⟩), .int .i64 8] wb (TakeEnds g r 0 8 wb) := take_c g r 0 8 wb hgb (by omega) (by omega)
  have hlen := tkS_len r 0 8
  have hU : wide (tkS r 0 8) < 18446744073709551616 := Nat.lt_of_lt_of_le (wide_lt (tkS r 0 8)) (Nat.le_trans (Nat.pow_le_pow_right (by decide) hlen) (by decide))
  have hUU : U64 (wide (tkS r 0 8)) := ⟨hU⟩
  clear hU
  have c2 : ∀ w', Calls Try.prog 22 #[.string (st (tkS r 0 8))] w' fun e w'' => e = .returned (.int .u64 (fb (wide (tkS r 0 8)))) ∧ w' = w'' := fun w' => by
    have := wide_c (tkS r 0 8) w' (by unfold maxLen; omega)
    rwa [wideN_all (by omega)] at this
  clear hlen
  generalize wide (tkS r 0 8) = N at *
  have hfn := fb_nat N
  have p0 := hb6.cell 0
  simp at p0
  have l6 := hb6.lt
  go_upto_region 24 with (first | ((with_reducible refine ct.mono ?_); rintro e wc ⟨rfl, hgc, hsc2⟩; have hb6c := hb6.step hsc2 hne6; have l6c := hb6c.lt; have f6 := hb6c.fz 3; have g6 := hb6c.cell 3; simp at g6; have g0 := hb6c.cell 0; simp at g0) | ((with_reducible refine (c2 _).mono ?_); rintro e w2 ⟨rfl, rfl⟩))
  have hb4c := hb4.step hsc2 hne
  have hbwc := g_trans hbwb hsc2
  have hwc := hsc2.size
  clear ct c2 p0 l6 hb4 hb6 hgb hbwb hsc2
  clear e0 e1 e2 hfn
  generalize tkR r 0 8 = s1 at *
  generalize tkE r 0 8 = e2 at *
  have hb6d := hb6c.set3 N
  have hb4d := hb4c.other (show w.heap.size ≠ b6 by omega) 3 (.float .f64 N)
  have hgd := hgc.other (Ne.symm hne6) 3 (.float .f64 N)
  have hbwd := g_new hbwc (show w.heap.size ≤ b6 by omega) (j := 3) (.float .f64 N)
  generalize wc.setCell ⟨b6, 3, none⟩ (.float .f64 N) = wd at *
  clear hb4c hb6c hgc hbwc f6 g6 g0 l6c
  have d3 := hb6d.cell 3
  have l6 := hb6d.lt
  simp at d3
  have cc := fun w => canon_c N w
  by_cases h1 : canon N = N
  · have h1' : (fb (canon N) != fb N) = false := by unfold fb; simp [h1]
    have h1n : ¬ (canon N ≠ N) := fun h => h h1
    have h2 := Lib.hid h1
    clear h1
    go_upto_region 36 with ((with_reducible refine (cc _).mono ?_); rintro e w2 ⟨rfl, rfl⟩)
    clear d3 l6 cc h1'
    have z0 := hb4d.cell 0
    have z1 := hb4d.cell 1
    have z2 := hb4d.cell 2
    have z3 := hb4d.cell 3
    have z4 := hb4d.cell 4
    have z5 := hb4d.cell 5
    simp at z0 z1 z2 z3 z4 z5
    have q0 := hb6d.cell 0
    have q1 := hb6d.cell 1
    have q2 := hb6d.cell 2
    have q3 := hb6d.cell 3
    have q4 := hb6d.cell 4
    have q5 := hb6d.cell 5
    simp at q0 q1 q2 q3 q4 q5
    have fz0 := hb4d.fz 0
    have fz1 := hb4d.fz 1
    have fz2 := hb4d.fz 2
    have fz3 := hb4d.fz 3
    have fz4 := hb4d.fz 4
    have fz5 := hb4d.fz 5
    have l4 := hb4d.lt
    have l6 := hb6d.lt
    have fin : ValueEnds g RES w (.returned (valV 3 false 0 N [] none 0 0)) (put6 wd w.heap.size 3 false 0 N [] none 0 0) := by
      rw [hR'.out, if_neg h1n]
      exact value_end hbwd (Nat.le_refl _) hgd hne (HasP.flat _ _ ⟨by omega, by omega⟩ ⟨by omega, by omega⟩ hUU (by simp))
    have hbz := put6_bx hb4d 3 false 0 N [] none 0 0
    go_wp2_with fail
    show bodyPost _ _ _ _ _ (put6 wd w.heap.size 3 false 0 N [] none 0 0)
    generalize put6 wd w.heap.size 3 false 0 N [] none 0 0 = wz at *
    clear z0 z1 z2 z3 z4 z5 q0 q1 q2 q3 q4 q5 fz0 fz1 fz2 fz3 fz4 fz5 hgd hb4d hb6d hbwd
    have y0 := hbz.cell 0
    have y1 := hbz.cell 1
    have y2 := hbz.cell 2
    have y3 := hbz.cell 3
    have y4 := hbz.cell 4
    have y5 := hbz.cell 5
    simp at y0 y1 y2 y3 y4 y5
    have y6 := hbz.lt
    exact bodyPost_ret (v := valV 3 false 0 N [] none 0 0) (by simp only [results, Try.results45]; go_simp) rfl fin
  · have h1' : (fb (canon N) != fb N) = true := by unfold fb; simp; omega
    have cf : Calls Try.prog 67 #[.pointer (some ⟨g, 0, none⟩), .int .i64 6] wd fun e w' => e = .returned (.tuple #[]) ∧ GSt w' g s1 (flE e2 6) ∧ wd.grownBy w' (some g) := fail_c g s1 e2 6 wd hgd
    go_upto_region 36 with (first | ((with_reducible refine (cc _).mono ?_); rintro e w2 ⟨rfl, rfl⟩) | ((with_reducible refine cf.mono ?_); rintro e we ⟨rfl, hge, hse⟩))
    have hb4e := hb4d.step hse hne
    have hb6e := hb6d.step hse hne6
    have hbwe := g_trans hbwd hse
    clear cf hb4d hb6d hgd hbwd hse
    clear d3 l6 cc h1'
    have z0 := hb4e.cell 0
    have z1 := hb4e.cell 1
    have z2 := hb4e.cell 2
    have z3 := hb4e.cell 3
    have z4 := hb4e.cell 4
    have z5 := hb4e.cell 5
    simp at z0 z1 z2 z3 z4 z5
    have q0 := hb6e.cell 0
    have q1 := hb6e.cell 1
    have q2 := hb6e.cell 2
    have q3 := hb6e.cell 3
    have q4 := hb6e.cell 4
    have q5 := hb6e.cell 5
    simp at q0 q1 q2 q3 q4 q5
    have fz0 := hb4e.fz 0
    have fz1 := hb4e.fz 1
    have fz2 := hb4e.fz 2
    have fz3 := hb4e.fz 3
    have fz4 := hb4e.fz 4
    have fz5 := hb4e.fz 5
    have l4 := hb4e.lt
    have l6 := hb6e.lt
    have fin : ValueEnds g RES w (.returned (valV 3 false 0 N [] none 0 0)) (put6 we w.heap.size 3 false 0 N [] none 0 0) := by
      rw [hR'.out, if_pos h1]
      exact value_end hbwe (Nat.le_refl _) hge hne (HasP.flat _ _ ⟨by omega, by omega⟩ ⟨by omega, by omega⟩ hUU (by simp))
    have hbz := put6_bx hb4e 3 false 0 N [] none 0 0
    go_wp2_with fail
    show bodyPost _ _ _ _ _ (put6 we w.heap.size 3 false 0 N [] none 0 0)
    generalize put6 we w.heap.size 3 false 0 N [] none 0 0 = wz at *
    clear z0 z1 z2 z3 z4 z5 q0 q1 q2 q3 q4 q5 fz0 fz1 fz2 fz3 fz4 fz5 hge hb4e hb6e hbwe
    have y0 := hbz.cell 0
    have y1 := hbz.cell 1
    have y2 := hbz.cell 2
    have y3 := hbz.cell 3
    have y4 := hbz.cell 4
    have y5 := hbz.cell 5
    simp at y0 y1 y2 y3 y4 y5
    have y6 := hbz.lt
    exact bodyPost_ret (v := valV 3 false 0 N [] none 0 0) (by simp only [results, Try.results45]; go_simp) rfl fin
set_option maxRecDepth 8000 in
set_option maxHeartbeats 1000000 in
theorem value_4 (g m : Nat) (d : Int) (hd0 : 0 ≤ d) (hd : d ≤ 13) (c : UInt8) (r : List UInt8) (w : World) (hc : c.toNat = 4) (hg : GSt w g (c :: r) 0) (hs : r.length < 140737488351232) : Calls Try.prog 45 #[.pointer (some ⟨g, 0, none⟩), .int .i64 d] w (ValueEnds g (getF (m + 1) (c :: r)) w) := by
  obtain ⟨RES, hR⟩ : ∃ R, R = getF (m + 1) (c :: r) := ⟨_, rfl⟩
  rw [← hR]
  have hR' := Lib.hid (show RES = (.mk 4 false 0 0 (tkS (tkR r 0 2) (if 500 < wide (tkS r 0 2) then flE (tkE r 0 2) 3 else tkE r 0 2) (wide (tkS r 0 2))) [], tkR (tkR r 0 2) (if 500 < wide (tkS r 0 2) then flE (tkE r 0 2) 3 else tkE r 0 2) (wide (tkS r 0 2)), tkE (tkR r 0 2) (if 500 < wide (tkS r 0 2) then flE (tkE r 0 2) 3 else tkE r 0 2) (wide (tkS r 0 2))) by
    rw [hR, getF]
    simp [hc]
  )
  clear hR
  have hglt := hg.lt
  have hsc : (c :: r).length ≤ 140737488351232 := by simp; omega
  go_enter Try.func45, Try.ntmps45
  go_upto_region 1 with fail
  obtain ⟨w1, hw1⟩ : ∃ w1, w1 = w.alloc (.cells #[.int .i64 0, .bool false, .int .i64 0, .float .f64 0, .string (st []), .slice none 0 0] 25) := ⟨_, rfl⟩
  have hb4 : Bx w1 w.heap.size 0 false 0 0 [] none 0 0 := hw1 ▸ Bx.new w 0 false 0 0 [] none 0 0
  have hg1 : GSt w1 g (c :: r) 0 := hw1 ▸ hg.alloc _
  have hbw : w.grownBy w1 (some g) := hw1 ▸ World.grownBy_alloc _ _ _
  rw [← hw1]
  clear hw1 hg
  have hne : w.heap.size ≠ g := by omega
  have ct : Calls Try.prog 66 #[.pointer (some ⟨g, 0, none⟩), .int .i64 1] w1 fun e w' => e = .returned (.string (st [c])) ∧ GSt w' g r 0 ∧ w1.grownBy w' (some g) := by
    have h := take_c g (c :: r) 0 1 w1 hg1 (by omega) hsc
    have e1 : tkE (c :: r) 0 1 = 0 := by simp [tkE]
    have e2 : tkS (c :: r) 0 1 = [c] := by unfold tkS; rw [e1]; rfl
    have e3 : tkR (c :: r) 0 1 = r := by unfold tkR; rw [e1]; rfl
    unfold TakeEnds at h
    rwa [e1, e2, e3] at h
  have c0 := hg1.c0
  have c1 := hg1.c1
  have l1 := hg1.lt
  go_upto_region 4 with ((with_reducible refine ct.mono ?_); rintro e w3 ⟨rfl, hg3, hs3⟩)
  have hb5 := hb4.step hs3 hne
  have hbw3 := g_trans hbw hs3
  clear ct hs3 hbw hg1 c0 c1 l1 hb4
  have c1 := hg3.c1
  have l1 := hg3.lt
  have hsz3 := hbw3.size
  have hch : wrap64 (((st [c])[0]'(st_lt (by simp)) : UInt8).toNat : Int) = (c.toNat : Int) := by
    rw [st_get [c] 0 (by simp)]
    have := c.toNat_lt
    simp [wrap64]; omega
  go_upto_region 7 with fail
  obtain ⟨wb, hwb⟩ : ∃ wb, wb = w3.alloc (.cells #[.int .i64 4, .bool false, .int .i64 0, .float .f64 0, .string (st []), .slice none 0 0] 25) := ⟨_, rfl⟩
  have hb6 : Bx wb w3.heap.size 4 false 0 0 [] none 0 0 := hwb ▸ Bx.new w3 4 false 0 0 [] none 0 0
  have hgb : GSt wb g r 0 := hwb ▸ hg3.alloc _
  have hb4 : Bx wb w.heap.size 0 false 0 0 [] none 0 0 := by rw [hwb]; exact hb5.step (g := g) (World.grownBy_alloc _ _ _) hne
  have hbwb : w.grownBy wb (some g) := by rw [hwb]; exact Lib.grownBy_allocR hbw3 _
  have hne6 : w3.heap.size ≠ g := by omega
  have hlt46 := hb5.lt
  have hbsz : wb.heap.size = w3.heap.size + 1 := by rw [hwb]; simp
  rw [← hwb]
  clear hch hwb hg3 hb5 hbw3 c1 l1
  generalize w3.heap.size = b6 at *
  have hk256 : I64 c.toNat := ⟨by omega, by have := c.toNat_lt; omega⟩
  have e0 : ((c.toNat : Int) == 0) = false := by simp [hc]
  have e1 : ((c.toNat : Int) == 1) = false := by simp [hc]
  have e2 : ((c.toNat : Int) == 2) = false := by simp [hc]
  have e3 : ((c.toNat : Int) == 3) = false := by simp [hc]
  have e4 : ((c.toNat : Int) == 4) = true := by simp [hc]
  have e5 : ((c.toNat : Int) == 5) = false := by simp [hc]
  have e6 : ((c.toNat : Int) == 6) = false := by simp [hc]
  have e7 : ((c.toNat : Int) == 7) = false := by simp [hc]
  have e8 : ((c.toNat : Int) == 8) = false := by simp [hc]
  have ct : Calls Try.prog 66 #[.pointer (some ⟨g, 0, none⟩), .int .i64 2] wb (TakeEnds g r 0 2 wb) := take_c g r 0 2 wb hgb (by omega) (by omega)
  have hlen := tkS_len r 0 2
  have c2 : ∀ w', Calls Try.prog 22 #[.string (st (tkS r 0 2))] w' fun e w'' => e = .returned (.int .u64 ((wide (tkS r 0 2) : Nat) : Int)) ∧ w' = w'' := fun w' => by
    have := wide_c (tkS r 0 2) w' (by unfold maxLen; omega)
    rwa [wideN_all (by omega)] at this
  have hN := wide2_lt r 0
  clear hlen
  generalize wide (tkS r 0 2) = N at *
  have wN : IntKind.i64.wrap (N : Int) = (N : Int) := by rw [wrap_i64]; omega
  have wN' : wrap64 (N : Int) = (N : Int) := by unfold wrap64; omega
  have p0 := hb6.cell 0
  simp at p0
  have l6 := hb6.lt
  go_upto_region 28 with (first | ((with_reducible refine ct.mono ?_); rintro e wc ⟨rfl, hgc, hsc2⟩) | ((with_reducible refine (c2 _).mono ?_); rintro e w2 ⟨rfl, rfl⟩))
  have hb4c := hb4.step hsc2 hne
  have hb6c := hb6.step hsc2 hne6
  have hbwc := g_trans hbwb hsc2
  have hwc := hsc2.size
  clear ct c2 p0 l6 hb4 hb6 hgb hbwb hsc2 wN wN' e0 e1 e2 e3 e4
  have hs1 := tkR_len r 0 2
  generalize tkR r 0 2 = s1 at *
  generalize tkE r 0 2 = e1 at *
  by_cases h5 : 500 < N
  · have h5' : (500 : Int) < N := by omega
    have cf : Calls Try.prog 67 #[.pointer (some ⟨g, 0, none⟩), .int .i64 3] wc fun e w' => e = .returned (.tuple #[]) ∧ GSt w' g s1 (flE e1 3) ∧ wc.grownBy w' (some g) := fail_c g s1 e1 3 wc hgc
    go_upto_region 30 with ((with_reducible refine cf.mono ?_); rintro e we ⟨rfl, hge, hse⟩)
    have hb4e := hb4c.step hse hne
    have hb6e := hb6c.step hse hne6
    have hbwe := g_trans hbwc hse
    clear cf hb4c hb6c hgc hbwc hse
    have ct2 : Calls Try.prog 66 #[.pointer (some ⟨g, 0, none⟩), .int .i64 N] we (TakeEnds g s1 (flE e1 3) N we) := take_c g s1 (flE e1 3) N we hge (by omega) (by omega)
    have hSl := tkS_len s1 (flE e1 3) N
    rw [if_pos h5] at hR'
    generalize hS : tkS s1 (flE e1 3) N = S at *
    generalize hT : tkR s1 (flE e1 3) N = T at *
    generalize hF : tkE s1 (flE e1 3) N = F at *
    have ct3 : Calls Try.prog 66 #[.pointer (some ⟨g, 0, none⟩), .int .i64 N] we fun e w' => e = .returned (.string (st S)) ∧ GSt w' g T F ∧ we.grownBy w' (some g) := by
      unfold TakeEnds at ct2
      rwa [hS, hT, hF] at ct2
    clear ct2 hS hT hF
    go_upto_region 36 with ((with_reducible refine ct3.mono ?_); rintro e wf ⟨rfl, hgc, hsf⟩; have hb6c := hb6e.step hsf hne6; have l6c := hb6c.lt; have f6 := hb6c.fz 4; have g6 := hb6c.cell 4; simp at g6; have g0 := hb6c.cell 0)
    have hb4c := hb4e.step hsf hne
    have hbwc := g_trans hbwe hsf
    clear ct3 hsf hb4e hb6e hge hbwe
    have hb6d := hb6c.set4 S
    have hb4d := hb4c.other (show w.heap.size ≠ b6 by omega) 4 (.string (st S))
    have hgd := hgc.other (Ne.symm hne6) 4 (.string (st S))
    have hbwd := g_new hbwc (show w.heap.size ≤ b6 by omega) (j := 4) (.string (st S))
    generalize wf.setCell ⟨b6, 4, none⟩ (.string (st S)) = wd at *
    clear hb4c hb6c hgc hbwc f6 g6 g0 l6c
    have z0 := hb4d.cell 0
    have z1 := hb4d.cell 1
    have z2 := hb4d.cell 2
    have z3 := hb4d.cell 3
    have z4 := hb4d.cell 4
    have z5 := hb4d.cell 5
    simp at z0 z1 z2 z3 z4 z5
    have q0 := hb6d.cell 0
    have q1 := hb6d.cell 1
    have q2 := hb6d.cell 2
    have q3 := hb6d.cell 3
    have q4 := hb6d.cell 4
    have q5 := hb6d.cell 5
    simp at q0 q1 q2 q3 q4 q5
    have fz0 := hb4d.fz 0
    have fz1 := hb4d.fz 1
    have fz2 := hb4d.fz 2
    have fz3 := hb4d.fz 3
    have fz4 := hb4d.fz 4
    have fz5 := hb4d.fz 5
    have l4 := hb4d.lt
    have l6 := hb6d.lt
    have fin : ValueEnds g RES w (.returned (valV 4 false 0 0 S none 0 0)) (put6 wd w.heap.size 4 false 0 0 S none 0 0) := by
      rw [hR'.out]
      exact value_end hbwd (Nat.le_refl _) hgd hne (HasP.flat _ _ ⟨by omega, by omega⟩ ⟨by omega, by omega⟩ ⟨by omega⟩ (by omega))
    have hbz := put6_bx hb4d 4 false 0 0 S none 0 0
    go_wp2_with fail
    show bodyPost _ _ _ _ _ (put6 wd w.heap.size 4 false 0 0 S none 0 0)
    generalize put6 wd w.heap.size 4 false 0 0 S none 0 0 = wz at *
    clear z0 z1 z2 z3 z4 z5 q0 q1 q2 q3 q4 q5 fz0 fz1 fz2 fz3 fz4 fz5 hgd hb4d hb6d hbwd
    have y0 := hbz.cell 0
    have y1 := hbz.cell 1
    have y2 := hbz.cell 2
    have y3 := hbz.cell 3
    have y4 := hbz.cell 4
    have y5 := hbz.cell 5
    simp at y0 y1 y2 y3 y4 y5
    have y6 := hbz.lt
    exact bodyPost_ret (v := valV 4 false 0 0 S none 0 0) (by simp only [results, Try.results45]; go_simp) rfl fin
  · have h5' : ¬ (500 : Int) < N := by omega
    have hbx := Lib.hid hb6c
    have ct2 : Calls Try.prog 66 #[.pointer (some ⟨g, 0, none⟩), .int .i64 N] wc (TakeEnds g s1 e1 N wc) := take_c g s1 e1 N wc hgc (by omega) (by omega)
    have hSl := tkS_len s1 e1 N
    rw [if_neg h5] at hR'
    generalize hS : tkS s1 e1 N = S at *
    generalize hT : tkR s1 e1 N = T at *
    generalize hF : tkE s1 e1 N = F at *
    have ct3 : Calls Try.prog 66 #[.pointer (some ⟨g, 0, none⟩), .int .i64 N] wc fun e w' => e = .returned (.string (st S)) ∧ GSt w' g T F ∧ wc.grownBy w' (some g) := by
      unfold TakeEnds at ct2
      rwa [hS, hT, hF] at ct2
    clear ct2 hS hT hF
    go_upto_region 36 with ((with_reducible refine ct3.mono ?_); rintro e wf ⟨rfl, hgf, hsf⟩; have hb6f := hb6c.step hsf hne6; have l6c := hb6f.lt; have f6 := hb6f.fz 4; have g6 := hb6f.cell 4; simp at g6; have g0 := hb6f.cell 0)
    have hb4f := hb4c.step hsf hne
    have hbwf := g_trans hbwc hsf
    clear ct3 hsf hb4c hb6c hgc hbwc
    have hb6d := hb6f.set4 S
    have hb4d := hb4f.other (show w.heap.size ≠ b6 by omega) 4 (.string (st S))
    have hgd := hgf.other (Ne.symm hne6) 4 (.string (st S))
    have hbwd := g_new hbwf (show w.heap.size ≤ b6 by omega) (j := 4) (.string (st S))
    generalize wf.setCell ⟨b6, 4, none⟩ (.string (st S)) = wd at *
    clear hb4f hb6f hgf hbwf hbx f6 g6 g0 l6c
    have z0 := hb4d.cell 0
    have z1 := hb4d.cell 1
    have z2 := hb4d.cell 2
    have z3 := hb4d.cell 3
    have z4 := hb4d.cell 4
    have z5 := hb4d.cell 5
    simp at z0 z1 z2 z3 z4 z5
    have q0 := hb6d.cell 0
    have q1 := hb6d.cell 1
    have q2 := hb6d.cell 2
    have q3 := hb6d.cell 3
    have q4 := hb6d.cell 4
    have q5 := hb6d.cell 5
    simp at q0 q1 q2 q3 q4 q5
    have fz0 := hb4d.fz 0
    have fz1 := hb4d.fz 1
    have fz2 := hb4d.fz 2
    have fz3 := hb4d.fz 3
    have fz4 := hb4d.fz 4
    have fz5 := hb4d.fz 5
    have l4 := hb4d.lt
    have l6 := hb6d.lt
    have fin : ValueEnds g RES w (.returned (valV 4 false 0 0 S none 0 0)) (put6 wd w.heap.size 4 false 0 0 S none 0 0) := by
      rw [hR'.out]
      exact value_end hbwd (Nat.le_refl _) hgd hne (HasP.flat _ _ ⟨by omega, by omega⟩ ⟨by omega, by omega⟩ ⟨by omega⟩ (by omega))
    have hbz := put6_bx hb4d 4 false 0 0 S none 0 0
    go_wp2_with fail
    show bodyPost _ _ _ _ _ (put6 wd w.heap.size 4 false 0 0 S none 0 0)
    generalize put6 wd w.heap.size 4 false 0 0 S none 0 0 = wz at *
    clear z0 z1 z2 z3 z4 z5 q0 q1 q2 q3 q4 q5 fz0 fz1 fz2 fz3 fz4 fz5 hgd hb4d hb6d hbwd
    have y0 := hbz.cell 0
    have y1 := hbz.cell 1
    have y2 := hbz.cell 2
    have y3 := hbz.cell 3
    have y4 := hbz.cell 4
    have y5 := hbz.cell 5
    simp at y0 y1 y2 y3 y4 y5
    have y6 := hbz.lt
    exact bodyPost_ret (v := valV 4 false 0 0 S none 0 0) (by simp only [results, Try.results45]; go_simp) rfl fin
end Go.Proofs.Ytkbacjlnfmibaaa
