
/-
  val's getter: value, a row.
-/
import Derived.Test.YtkbacjlnfmibaaaGetE
set_option linter.unusedSimpArgs false
set_option linter.unusedVariables false
namespace Go.Proofs.Ytkbacjlnfmibaaa
open Go.RowKit Go.Deep

set_option maxRecDepth 8000 in
set_option maxHeartbeats 1000000 in
theorem value_5 (g m : Nat) (d : Int) (hd0 : 0 ≤ d) (hd : d ≤ 13) (c : UInt8) (r : List UInt8) (w : World) (hval : ∀ (s : List UInt8) (w : World), GSt w g s 0 → s.length ≤ 140737488351232 → Calls Try.prog 45 #[.pointer (some ⟨g, 0, none⟩), .int .i64 (d + 1)] w (ValueEnds g (getF m s) w)) (hc : c.toNat = 5) (hg : GSt w g (c :: r) 0) (hs : r.length < 140737488351232) : Calls Try.prog 45 #[.pointer (some ⟨g, 0, none⟩), .int .i64 d] w (ValueEnds g (getF (m + 1) (c :: r)) w) := by
  obtain ⟨RES, hR⟩ : ∃ R, R = getF (m + 1) (c :: r) := ⟨_, rfl⟩
  rw [← hR]
  have hR' := Lib.hid (show RES = (.mk 5 false 0 0 [] (partsV (getF m) r).1, (partsV (getF m) r).2.1, (partsV (getF m) r).2.2) by
    rw [hR, getF]
    simp [hc]
  )
  clear hR
  have hglt := hg.lt
  have hsc : (c :: r).length ≤ 140737488351232 := by simp; omega
  go_enter Try.func45, Try.ntmps45
  go_upto_region 1 with fail
  obtain ⟨w1, hw1⟩ : ∃ w1, w1 = w.alloc (.cells #[.int .i64 0, .bool false, .int .i64 0, .float .f64 0, .string (st []), .slice none 0 0] 25) := ⟨_, rfl⟩
  have hb4 : Bx w1 w.heap.size 0 false 0 0 [] none 0 0 := hw1 ▸ Bx.new w 0 false 0 0 [] none 0 0
  have hg1 : GSt w1 g (c :: r) 0 := hw1 ▸ hg.alloc _
  have hbw : w.grownBy w1 (some g) := hw1 ▸ World.grownBy_alloc _ _ _
  rw [← hw1]
  clear hw1 hg
  have hne : w.heap.size ≠ g := by omega
  have ct : Calls Try.prog 66 #[.pointer (some ⟨g, 0, none⟩), .int .i64 1] w1 fun e w' => e = .returned (.string (st [c])) ∧ GSt w' g r 0 ∧ w1.grownBy w' (some g) := by
    have h := take_c g (c :: r) 0 1 w1 hg1 (by omega) hsc
    have e1 : tkE (c :: r) 0 1 = 0 := by simp [tkE]
    have e2 : tkS (c :: r) 0 1 = [c] := by unfold tkS; rw [e1]; rfl
    have e3 : tkR (c :: r) 0 1 = r := by unfold tkR; rw [e1]; rfl
    unfold TakeEnds at h
    rwa [e1, e2, e3] at h
  have c0 := hg1.c0
  have c1 := hg1.c1
  have l1 := hg1.lt
  go_upto_region 4 with ((with_reducible refine ct.mono ?_); rintro e w3 ⟨rfl, hg3, hs3⟩)
  have hb5 := hb4.step hs3 hne
  have hbw3 := g_trans hbw hs3
  clear ct hs3 hbw hg1 c0 c1 l1 hb4
  have c1 := hg3.c1
  have l1 := hg3.lt
  have hsz3 := hbw3.size
  have hch : wrap64 (((st [c])[0]'(st_lt (by simp)) : UInt8).toNat : Int) = (c.toNat : Int) := by
    rw [st_get [c] 0 (by simp)]
    have := c.toNat_lt
    simp [wrap64]; omega
  go_upto_region 7 with fail
  obtain ⟨wb, hwb⟩ : ∃ wb, wb = w3.alloc (.cells #[.int .i64 5, .bool false, .int .i64 0, .float .f64 0, .string (st []), .slice none 0 0] 25) := ⟨_, rfl⟩
  have hb6 : Bx wb w3.heap.size 5 false 0 0 [] none 0 0 := hwb ▸ Bx.new w3 5 false 0 0 [] none 0 0
  have hgb : GSt wb g r 0 := hwb ▸ hg3.alloc _
  have hb4 : Bx wb w.heap.size 0 false 0 0 [] none 0 0 := by rw [hwb]; exact hb5.step (g := g) (World.grownBy_alloc _ _ _) hne
  have hbwb : w.grownBy wb (some g) := by rw [hwb]; exact Lib.grownBy_allocR hbw3 _
  have hne6 : w3.heap.size ≠ g := by omega
  have hlt46 := hb5.lt
  have hbsz : wb.heap.size = w3.heap.size + 1 := by rw [hwb]; simp
  rw [← hwb]
  clear hch hwb hg3 hb5 hbw3 c1 l1
  generalize w3.heap.size = b6 at *
  have hk256 : I64 c.toNat := ⟨by omega, by have := c.toNat_lt; omega⟩
  have e0 : ((c.toNat : Int) == 0) = false := by simp [hc]
  have e1 : ((c.toNat : Int) == 1) = false := by simp [hc]
  have e2 : ((c.toNat : Int) == 2) = false := by simp [hc]
  have e3 : ((c.toNat : Int) == 3) = false := by simp [hc]
  have e4 : ((c.toNat : Int) == 4) = false := by simp [hc]
  have e5 : ((c.toNat : Int) == 5) = true := by simp [hc]
  have e6 : ((c.toNat : Int) == 6) = false := by simp [hc]
  have e7 : ((c.toNat : Int) == 7) = false := by simp [hc]
  have e8 : ((c.toNat : Int) == 8) = false := by simp [hc]
  have cp := parts_c g m d hd0 hd hval r wb hgb (by omega)
  clear hval
  generalize partsV (getF m) r = R at *
  obtain ⟨l, s1, e1⟩ := R
  try dsimp only at hR'
  have p0 := hb6.cell 0
  simp at p0
  have l6 := hb6.lt
  go_upto_region 34 with ((with_reducible refine cp.mono ?_); rintro e wc ⟨A, cap, rfl, hpp, hlc, hcm, hl7, hgc, hsc2⟩; have hb6c := hb6.step hsc2 hne6; have l6c := hb6c.lt; have f6 := hb6c.fz 5; have g6 := hb6c.cell 5; simp at g6; have g0 := hb6c.cell 0)
  have hb4c := hb4.step hsc2 hne
  have hbwc := g_trans hbwb hsc2
  have hwc := hsc2.size
  try dsimp only at hpp hlc hl7 hgc
  have hpd := hpp.step (Q := fun j => wb.heap.size ≤ j) (w' := wc.setCell ⟨b6, 5, none⟩ (.slice A l.length cap)) (fun b (hb : wb.heap.size ≤ b) _ => Below.heap_setCell _ _ _ _ (by show b ≠ b6; omega)) (fun b hb _ => hb)
  clear cp p0 l6 hb4 hb6 hgb hbwb hsc2 hpp
  have hb6d := hb6c.set5 A l.length cap
  have hb4d := hb4c.other (show w.heap.size ≠ b6 by omega) 5 (.slice A l.length cap)
  have hgd := hgc.other (Ne.symm hne6) 5 (.slice A l.length cap)
  have hbwd := g_new hbwc (show w.heap.size ≤ b6 by omega) (j := 5) (.slice A l.length cap)
  generalize wc.setCell ⟨b6, 5, none⟩ (.slice A l.length cap) = wd at *
  clear hb4c hb6c hgc hbwc f6 g6 g0 l6c
  have d0 := hb6d.cell 0
  have d5 := hb6d.cell 5
  have l6 := hb6d.lt
  simp at d0 d5
  go_upto_region 36 with fail
  clear d0 d5 l6
  have z0 := hb4d.cell 0
  have z1 := hb4d.cell 1
  have z2 := hb4d.cell 2
  have z3 := hb4d.cell 3
  have z4 := hb4d.cell 4
  have z5 := hb4d.cell 5
  simp at z0 z1 z2 z3 z4 z5
  have q0 := hb6d.cell 0
  have q1 := hb6d.cell 1
  have q2 := hb6d.cell 2
  have q3 := hb6d.cell 3
  have q4 := hb6d.cell 4
  have q5 := hb6d.cell 5
  simp at q0 q1 q2 q3 q4 q5
  have fz0 := hb4d.fz 0
  have fz1 := hb4d.fz 1
  have fz2 := hb4d.fz 2
  have fz3 := hb4d.fz 3
  have fz4 := hb4d.fz 4
  have fz5 := hb4d.fz 5
  have l4 := hb4d.lt
  have l6 := hb6d.lt
  have fin : ValueEnds g RES w (.returned (valV 5 false 0 0 [] A l.length cap)) (put6 wd w.heap.size 5 false 0 0 [] A l.length cap) := by
    rw [hR'.out]
    exact value_end hbwd (Nat.le_refl _) hgd hne (HasP.ofParts (hpd.step (fun _ _ _ => rfl) (fun b (hb : wb.heap.size ≤ b) _ => ⟨by omega, by omega⟩)) ⟨by omega, by omega⟩ ⟨by omega, by omega⟩ ⟨by omega⟩ (by simp) (by omega) hlc hcm)
  have hbz := put6_bx hb4d 5 false 0 0 [] A l.length cap
  go_wp2_with fail
  show bodyPost _ _ _ _ _ (put6 wd w.heap.size 5 false 0 0 [] A l.length cap)
  generalize put6 wd w.heap.size 5 false 0 0 [] A l.length cap = wz at *
  clear z0 z1 z2 z3 z4 z5 q0 q1 q2 q3 q4 q5 fz0 fz1 fz2 fz3 fz4 fz5 hgd hb4d hb6d hbwd
  have y0 := hbz.cell 0
  have y1 := hbz.cell 1
  have y2 := hbz.cell 2
  have y3 := hbz.cell 3
  have y4 := hbz.cell 4
  have y5 := hbz.cell 5
  simp at y0 y1 y2 y3 y4 y5
  have y6 := hbz.lt
  exact bodyPost_ret (v := valV 5 false 0 0 [] A l.length cap) (by simp only [results, Try.results45]; go_simp) rfl fin
set_option maxRecDepth 8000 in
set_option maxHeartbeats 1000000 in
theorem value_6 (g m : Nat) (d : Int) (hd0 : 0 ≤ d) (hd : d ≤ 13) (c : UInt8) (r : List UInt8) (w : World) (hval : ∀ (s : List UInt8) (w : World), GSt w g s 0 → s.length ≤ 140737488351232 → Calls Try.prog 45 #[.pointer (some ⟨g, 0, none⟩), .int .i64 (d + 1)] w (ValueEnds g (getF m s) w)) (hc : c.toNat = 6) (hg : GSt w g (c :: r) 0) (hs : r.length < 140737488351232) : Calls Try.prog 45 #[.pointer (some ⟨g, 0, none⟩), .int .i64 d] w (ValueEnds g (getF (m + 1) (c :: r)) w) := by
  obtain ⟨RES, hR⟩ : ∃ R, R = getF (m + 1) (c :: r) := ⟨_, rfl⟩
  rw [← hR]
  have hR' := Lib.hid (show RES = (.mk 6 false 0 0 [] (partsV (getF m) r).1, (partsV (getF m) r).2.1, if risesV (partsV (getF m) r).1 = false then flE (partsV (getF m) r).2.2 6 else (partsV (getF m) r).2.2) by
    rw [hR, getF]
    simp [hc]
  )
  clear hR
  have hglt := hg.lt
  have hsc : (c :: r).length ≤ 140737488351232 := by simp; omega
  go_enter Try.func45, Try.ntmps45
  go_upto_region 1 with fail
  obtain ⟨w1, hw1⟩ : ∃ w1, w1 = w.alloc (.cells #[.int .i64 0, .bool false, .int .i64 0, .float .f64 0, .string (st []), .slice none 0 0] 25) := ⟨_, rfl⟩
  have hb4 : Bx w1 w.heap.size 0 false 0 0 [] none 0 0 := hw1 ▸ Bx.new w 0 false 0 0 [] none 0 0
  have hg1 : GSt w1 g (c :: r) 0 := hw1 ▸ hg.alloc _
  have hbw : w.grownBy w1 (some g) := hw1 ▸ World.grownBy_alloc _ _ _
  rw [← hw1]
  clear hw1 hg
  have hne : w.heap.size ≠ g := by omega
  have ct : Calls Try.prog 66 #[.pointer (some ⟨g, 0, none⟩), .int .i64 1] w1 fun e w' => e = .returned (.string (st [c])) ∧ GSt w' g r 0 ∧ w1.grownBy w' (some g) := by
    have h := take_c g (c :: r) 0 1 w1 hg1 (by omega) hsc
    have e1 : tkE (c :: r) 0 1 = 0 := by simp [tkE]
    have e2 : tkS (c :: r) 0 1 = [c] := by unfold tkS; rw [e1]; rfl
    have e3 : tkR (c :: r) 0 1 = r := by unfold tkR; rw [e1]; rfl
    unfold TakeEnds at h
    rwa [e1, e2, e3] at h
  have c0 := hg1.c0
  have c1 := hg1.c1
  have l1 := hg1.lt
  go_upto_region 4 with ((with_reducible refine ct.mono ?_); rintro e w3 ⟨rfl, hg3, hs3⟩)
  have hb5 := hb4.step hs3 hne
  have hbw3 := g_trans hbw hs3
  clear ct hs3 hbw hg1 c0 c1 l1 hb4
  have c1 := hg3.c1
  have l1 := hg3.lt
  have hsz3 := hbw3.size
  have hch : wrap64 (((st [c])[0]'(st_lt (by simp)) : UInt8).toNat : Int) = (c.toNat : Int) := by
    rw [st_get [c] 0 (by simp)]
    have := c.toNat_lt
    simp [wrap64]; omega
  go_upto_region 7 with fail
  obtain ⟨wb, hwb⟩ : ∃ wb, wb = w3.alloc (.cells #[.int .i64 6, .bool false, .int .i64 0, .float .f64 0, .string (st []), .slice none 0 0] 25) := ⟨_, rfl⟩
  have hb6 : Bx wb w3.heap.size 6 false 0 0 [] none 0 0 := hwb ▸ Bx.new w3 6 false 0 0 [] none 0 0
  have hgb : GSt wb g r 0 := hwb ▸ hg3.alloc _
  have hb4 : Bx wb w.heap.size 0 false 0 0 [] none 0 0 := by rw [hwb]; exact hb5.step (g := g) (World.grownBy_alloc _ _ _) hne
  have hbwb : w.grownBy wb (some g) := by rw [hwb]; exact Lib.grownBy_allocR hbw3 _
  have hne6 : w3.heap.size ≠ g := by omega
  have hlt46 := hb5.lt
  have hbsz : wb.heap.size = w3.heap.size + 1 := by rw [hwb]; simp
  rw [← hwb]
  clear hch hwb hg3 hb5 hbw3 c1 l1
  generalize w3.heap.size = b6 at *
  have hk256 : I64 c.toNat := ⟨by omega, by have := c.toNat_lt; omega⟩
  have e0 : ((c.toNat : Int) == 0) = false := by simp [hc]
  have e1 : ((c.toNat : Int) == 1) = false := by simp [hc]
  have e2 : ((c.toNat : Int) == 2) = false := by simp [hc]
  have e3 : ((c.toNat : Int) == 3) = false := by simp [hc]
  have e4 : ((c.toNat : Int) == 4) = false := by simp [hc]
  have e5 : ((c.toNat : Int) == 5) = false := by simp [hc]
  have e6 : ((c.toNat : Int) == 6) = true := by simp [hc]
  have e7 : ((c.toNat : Int) == 7) = false := by simp [hc]
  have e8 : ((c.toNat : Int) == 8) = false := by simp [hc]
  have cp := parts_c g m d hd0 hd hval r wb hgb (by omega)
  clear hval
  generalize partsV (getF m) r = R at *
  obtain ⟨l, s1, e1⟩ := R
  try dsimp only at hR'
  have p0 := hb6.cell 0
  simp at p0
  have l6 := hb6.lt
  go_upto_region 34 with ((with_reducible refine cp.mono ?_); rintro e wc ⟨A, cap, rfl, hpp, hlc, hcm, hl7, hgc, hsc2⟩; have hb6c := hb6.step hsc2 hne6; have l6c := hb6c.lt; have f6 := hb6c.fz 5; have g6 := hb6c.cell 5; simp at g6; have g0 := hb6c.cell 0)
  have hb4c := hb4.step hsc2 hne
  have hbwc := g_trans hbwb hsc2
  have hwc := hsc2.size
  try dsimp only at hpp hlc hl7 hgc
  have hpd := hpp.step (Q := fun j => wb.heap.size ≤ j) (w' := wc.setCell ⟨b6, 5, none⟩ (.slice A l.length cap)) (fun b (hb : wb.heap.size ≤ b) _ => Below.heap_setCell _ _ _ _ (by show b ≠ b6; omega)) (fun b hb _ => hb)
  clear cp p0 l6 hb4 hb6 hgb hbwb hsc2 hpp
  have hb6d := hb6c.set5 A l.length cap
  have hb4d := hb4c.other (show w.heap.size ≠ b6 by omega) 5 (.slice A l.length cap)
  have hgd := hgc.other (Ne.symm hne6) 5 (.slice A l.length cap)
  have hbwd := g_new hbwc (show w.heap.size ≤ b6 by omega) (j := 5) (.slice A l.length cap)
  generalize wc.setCell ⟨b6, 5, none⟩ (.slice A l.length cap) = wd at *
  clear hb4c hb6c hgc hbwc f6 g6 g0 l6c
  have d0 := hb6d.cell 0
  have d5 := hb6d.cell 5
  have l6 := hb6d.lt
  simp at d0 d5
  have cr := rises_c l A cap wd hpd.parts (by omega)
  have hX := Lib.hid hpd
  clear hpd
  generalize hrv : risesV l = rv at *
  cases rv with
  | true =>
    go_upto_region 36 with ((with_reducible refine cr.mono ?_); rintro e wg ⟨rfl, hbr⟩; have hsr : wd.grownBy wg (some g) := ⟨hbr.os, hbr.tape, hbr.output, hbr.size, fun i hi _ => hbr.block i hi⟩; have hb4g := hb4d.step hsr hne; have hb6g := hb6d.step hsr hne6; have hgg := hgd.keep hbr; have hbwg := g_trans hbwd hsr; have hpg := hX.out.step (Q := fun j => wb.heap.size ≤ j) (w' := wg) (fun b hb hlt => hbr.block b hlt) (fun b hb _ => hb))
    clear cr d0 d5 l6 hb4d hb6d hgd hbwd hX hsr hbr
    have z0 := hb4g.cell 0
    have z1 := hb4g.cell 1
    have z2 := hb4g.cell 2
    have z3 := hb4g.cell 3
    have z4 := hb4g.cell 4
    have z5 := hb4g.cell 5
    simp at z0 z1 z2 z3 z4 z5
    have q0 := hb6g.cell 0
    have q1 := hb6g.cell 1
    have q2 := hb6g.cell 2
    have q3 := hb6g.cell 3
    have q4 := hb6g.cell 4
    have q5 := hb6g.cell 5
    simp at q0 q1 q2 q3 q4 q5
    have fz0 := hb4g.fz 0
    have fz1 := hb4g.fz 1
    have fz2 := hb4g.fz 2
    have fz3 := hb4g.fz 3
    have fz4 := hb4g.fz 4
    have fz5 := hb4g.fz 5
    have l4 := hb4g.lt
    have l6 := hb6g.lt
    have fin : ValueEnds g RES w (.returned (valV 6 false 0 0 [] A l.length cap)) (put6 wg w.heap.size 6 false 0 0 [] A l.length cap) := by
      rw [hR'.out, if_neg (by decide)]
      exact value_end hbwg (Nat.le_refl _) hgg hne (HasP.ofParts (hpg.step (fun _ _ _ => rfl) (fun b (hb : wb.heap.size ≤ b) _ => ⟨by omega, by omega⟩)) ⟨by omega, by omega⟩ ⟨by omega, by omega⟩ ⟨by omega⟩ (by simp) (by omega) hlc hcm)
    have hbz := put6_bx hb4g 6 false 0 0 [] A l.length cap
    go_wp2_with fail
    show bodyPost _ _ _ _ _ (put6 wg w.heap.size 6 false 0 0 [] A l.length cap)
    clear hpg
    generalize put6 wg w.heap.size 6 false 0 0 [] A l.length cap = wz at *
    clear z0 z1 z2 z3 z4 z5 q0 q1 q2 q3 q4 q5 fz0 fz1 fz2 fz3 fz4 fz5 hgg hb4g hb6g hbwg
    have y0 := hbz.cell 0
    have y1 := hbz.cell 1
    have y2 := hbz.cell 2
    have y3 := hbz.cell 3
    have y4 := hbz.cell 4
    have y5 := hbz.cell 5
    simp at y0 y1 y2 y3 y4 y5
    have y6 := hbz.lt
    exact bodyPost_ret (v := valV 6 false 0 0 [] A l.length cap) (by simp only [results, Try.results45]; go_simp) rfl fin
  | false =>
    have cf : ∀ w0, GSt w0 g s1 e1 → Calls Try.prog 67 #[.pointer (some ⟨g, 0, none⟩), .int .i64 6] w0 fun e w' => e = .returned (.tuple #[]) ∧ GSt w' g s1 (flE e1 6) ∧ w0.grownBy w' (some g) := fun w0 h => fail_c g s1 e1 6 w0 h
    go_upto_region 36 with (first | ((with_reducible refine cr.mono ?_); rintro e wg ⟨rfl, hbr⟩; have hsr : wd.grownBy wg (some g) := ⟨hbr.os, hbr.tape, hbr.output, hbr.size, fun i hi _ => hbr.block i hi⟩; have hb4g := hb4d.step hsr hne; have hb6g := hb6d.step hsr hne6; have hgg := hgd.keep hbr; have hbwg := g_trans hbwd hsr; have hpg := hX.out.step (Q := fun j => wb.heap.size ≤ j) (w' := wg) (fun b hb hlt => hbr.block b hlt) (fun b hb _ => hb)) | ((with_reducible refine (cf _ hgg).mono ?_); rintro e we ⟨rfl, hge, hse⟩))
    have hb4e := hb4g.step hse hne
    have hb6e := hb6g.step hse hne6
    have hbwe := g_trans hbwg hse
    have hwg := hbr.size
    have hpe := hpg.step (Q := fun j => wb.heap.size ≤ j) (w' := we) (fun b (hb : wb.heap.size ≤ b) hlt => hse.block b hlt (by have := hglt; simp; omega)) (fun b hb _ => hb)
    clear cr cf d0 d5 l6 hb4d hb6d hgd hbwd hX hsr hbr hb4g hb6g hgg hbwg hpg hse
    have z0 := hb4e.cell 0
    have z1 := hb4e.cell 1
    have z2 := hb4e.cell 2
    have z3 := hb4e.cell 3
    have z4 := hb4e.cell 4
    have z5 := hb4e.cell 5
    simp at z0 z1 z2 z3 z4 z5
    have q0 := hb6e.cell 0
    have q1 := hb6e.cell 1
    have q2 := hb6e.cell 2
    have q3 := hb6e.cell 3
    have q4 := hb6e.cell 4
    have q5 := hb6e.cell 5
    simp at q0 q1 q2 q3 q4 q5
    have fz0 := hb4e.fz 0
    have fz1 := hb4e.fz 1
    have fz2 := hb4e.fz 2
    have fz3 := hb4e.fz 3
    have fz4 := hb4e.fz 4
    have fz5 := hb4e.fz 5
    have l4 := hb4e.lt
    have l6 := hb6e.lt
    have fin : ValueEnds g RES w (.returned (valV 6 false 0 0 [] A l.length cap)) (put6 we w.heap.size 6 false 0 0 [] A l.length cap) := by
      rw [hR'.out, if_pos trivial]
      exact value_end hbwe (Nat.le_refl _) hge hne (HasP.ofParts (hpe.step (fun _ _ _ => rfl) (fun b (hb : wb.heap.size ≤ b) _ => ⟨by omega, by omega⟩)) ⟨by omega, by omega⟩ ⟨by omega, by omega⟩ ⟨by omega⟩ (by simp) (by omega) hlc hcm)
    have hbz := put6_bx hb4e 6 false 0 0 [] A l.length cap
    go_wp2_with fail
    show bodyPost _ _ _ _ _ (put6 we w.heap.size 6 false 0 0 [] A l.length cap)
    clear hpe
    generalize put6 we w.heap.size 6 false 0 0 [] A l.length cap = wz at *
    clear z0 z1 z2 z3 z4 z5 q0 q1 q2 q3 q4 q5 fz0 fz1 fz2 fz3 fz4 fz5 hge hb4e hb6e hbwe
    have y0 := hbz.cell 0
    have y1 := hbz.cell 1
    have y2 := hbz.cell 2
    have y3 := hbz.cell 3
    have y4 := hbz.cell 4
    have y5 := hbz.cell 5
    simp at y0 y1 y2 y3 y4 y5
    have y6 := hbz.lt
    exact bodyPost_ret (v := valV 6 false 0 0 [] A l.length cap) (by simp only [results, Try.results45]; go_simp) rfl fin
end Go.Proofs.Ytkbacjlnfmibaaa
