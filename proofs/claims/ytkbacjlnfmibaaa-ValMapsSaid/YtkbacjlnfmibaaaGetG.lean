
/-
  val's getter: value; Get.
-/
import Derived.Test.YtkbacjlnfmibaaaGetF
set_option linter.unusedSimpArgs false
set_option linter.unusedVariables false
namespace Go.Proofs.Ytkbacjlnfmibaaa
open Go.RowKit Go.Deep

set_option maxRecDepth 8000 in
set_option maxHeartbeats 1000000 in
theorem value_nil (g m : Nat) (d : Int) (hd0 : 0 ≤ d) (hd : d ≤ 13) (w : World) (hg : GSt w g [] 0) : Calls Try.prog 45 #[.pointer (some ⟨g, 0, none⟩), .int .i64 d] w (ValueEnds g (getF (m + 1) []) w) := by
  have hglt := hg.lt
  go_enter Try.func45, Try.ntmps45
  go_upto_region 1 with fail
  obtain ⟨w1, hw1⟩ : ∃ w1, w1 = w.alloc (.cells #[.int .i64 0, .bool false, .int .i64 0, .float .f64 0, .string (st []), .slice none 0 0] 25) := ⟨_, rfl⟩
  have hb4 : Bx w1 w.heap.size 0 false 0 0 [] none 0 0 := hw1 ▸ Bx.new w 0 false 0 0 [] none 0 0
  have hg1 : GSt w1 g [] 0 := hw1 ▸ hg.alloc _
  have hbw : w.grownBy w1 (some g) := hw1 ▸ World.grownBy_alloc _ _ _
  rw [← hw1]
  clear hw1 hg
  have hne : w.heap.size ≠ g := by omega
  have ct : Calls Try.prog 66 #[.pointer (some ⟨g, 0, none⟩), .int .i64 1] w1 fun e w' => e = .returned (.string (st [])) ∧ GSt w' g [] 4 ∧ w1.grownBy w' (some g) := take_c g [] 0 1 w1 hg1 (by omega) (by simp)
  have c0 := hg1.c0
  have c1 := hg1.c1
  have l1 := hg1.lt
  clear hg1
  go_upto_region 4 with ((with_reducible refine ct.mono ?_); rintro e w3 ⟨rfl, hg3, hs3⟩)
  have hb6 := hb4.step hs3 hne
  have hbw3 := g_trans hbw hs3
  clear ct hs3 hb4 hbw c0 c1 l1
  have c1 := hg3.c1
  have l1 := hg3.lt
  have l4 := hb6.lt
  have z0 := hb6.cell 0
  have z1 := hb6.cell 1
  have z2 := hb6.cell 2
  have z3 := hb6.cell 3
  have z4 := hb6.cell 4
  have z5 := hb6.cell 5
  have fz0 := hb6.fz 0
  have fz1 := hb6.fz 1
  have fz2 := hb6.fz 2
  have fz3 := hb6.fz 3
  have fz4 := hb6.fz 4
  have fz5 := hb6.fz 5
  simp at z0 z1 z2 z3 z4 z5
  have fin : ValueEnds g (getF (m + 1) []) w (.returned (valV 0 false 0 0 [] none 0 0)) (put6 w3 w.heap.size 0 false 0 0 [] none 0 0) := value_end hbw3 (Nat.le_refl _) hg3 hne (HasP.flat _ _ ⟨by omega, by omega⟩ ⟨by omega, by omega⟩ ⟨by omega⟩ (by simp))
  have hbz := put6_bx hb6 0 false 0 0 [] none 0 0
  go_wp2_with fail
  show bodyPost _ _ _ _ _ (put6 w3 w.heap.size 0 false 0 0 [] none 0 0)
  generalize put6 w3 w.heap.size 0 false 0 0 [] none 0 0 = wz at *
  clear z0 z1 z2 z3 z4 z5 fz0 fz1 fz2 fz3 fz4 fz5 c1 hg3 hb6 hbw3
  have y0 := hbz.cell 0
  have y1 := hbz.cell 1
  have y2 := hbz.cell 2
  have y3 := hbz.cell 3
  have y4 := hbz.cell 4
  have y5 := hbz.cell 5
  have y6 := hbz.lt
  simp at y0 y1 y2 y3 y4 y5
  exact bodyPost_ret (v := valV 0 false 0 0 [] none 0 0) (by simp only [results, Try.results45]; go_simp) rfl fin
theorem value_c (g : Nat) : ∀ (m : Nat) (d : Int), d + m = 14 → 0 ≤ d → ∀ (s : List UInt8) (w : World), GSt w g s 0 → s.length ≤ 140737488351232 →
    Calls Try.prog 45 #[.pointer (some ⟨g, 0, none⟩), .int .i64 d] w (ValueEnds g (getF m s) w)
  | 0, d, hd, _, s, w, hg, hs => by
    have e : d = 14 := by omega
    subst e
    exact value_zero g s w hg hs
  | m + 1, d, hd, h0, s, w, hg, hs => by
    have ih := value_c g m (d + 1) (by omega) (by omega)
    have hd' : d ≤ 13 := by omega
    cases s with
    | nil => exact value_nil g m d h0 hd' w hg
    | cons c r =>
      have hs' : r.length < 140737488351232 := by simp at hs; omega
      rcases (show c.toNat = 0 ∨ c.toNat = 1 ∨ c.toNat = 2 ∨ c.toNat = 3 ∨ c.toNat = 4 ∨ c.toNat = 5 ∨ c.toNat = 6 ∨ c.toNat = 7 ∨ c.toNat = 8 ∨ 8 < c.toNat by omega) with h | h | h | h | h | h | h | h | h | h
      · exact value_0 g m d h0 hd' c r w h hg hs'
      · exact value_1 g m d h0 hd' c r w h hg hs'
      · exact value_2 g m d h0 hd' c r w h hg hs'
      · exact value_3 g m d h0 hd' c r w h hg hs'
      · exact value_4 g m d h0 hd' c r w h hg hs'
      · exact value_5 g m d h0 hd' c r w ih h hg hs'
      · exact value_6 g m d h0 hd' c r w ih h hg hs'
      · exact value_7 g m d h0 hd' c r w h hg hs'
      · exact value_8 g m d h0 hd' c r w h hg hs'
      · exact value_9 g m d h0 hd' c r w h hg hs'

-- GET
theorem GSt.new (w : World) (s : List UInt8) (e : Int) : GSt (w.alloc (.cells #[.string (st s), .int .i64 e] 58)) w.heap.size s e := by
  unfold GSt
  show (w.heap.push _)[w.heap.size]? = _
  simp
/-- what val.Get gives: the value, how many bytes it took, the error -/
def getVr (n : Nat) (r : Val × List UInt8 × Int) : Val × Int × Int :=
  if r.2.2 = 0 then (if (60000 : Int) < (n : Int) - (r.2.1.length : Nat) then (zeroV, 0, 3) else (r.1, (n : Int) - (r.2.1.length : Nat), 0)) else (zeroV, 0, r.2.2)
def getV (s : List UInt8) : Val × Int × Int := getVr s.length (getF 13 s)
def GetVEnds (s : List UInt8) (w : World) (e : Ending) (w' : World) : Prop := ∃ k b n f s' B len c, e = .returned (.tuple #[valV k b n f s' B len c, .int .i64 (getV s).2.1, .int .i64 (getV s).2.2]) ∧ Has w' (valV k b n f s' B len c) (getV s).1 ∧ Below w.heap.size w w'
theorem Bx.drew {w : World} {b : Nat} {k : Int} {t : Bool} {n : Int} {f : Nat} {s : List UInt8} {A : Option Addr} {len c : Nat} (h : Bx w b k t n f s A len c) : Bx w.drew b k t n f s A len c := h
theorem put6_below {a w : World} {B : Nat} (h : Below B a w) {b : Nat} (hb : B ≤ b) (k : Int) (t : Bool) (n : Int) (f : Nat) (s : List UInt8) (A : Option Addr) (len c : Nat) : Below B a (put6 w b k t n f s A len c) := by
  unfold put6
  with_reducible (repeat (refine Below.setCell ?_ hb _))
  exact h
set_option maxRecDepth 8000 in
set_option maxHeartbeats 800000 in
theorem Get_c (s : List UInt8) (w : World) (hs : s.length ≤ 140737488351232) : Calls Try.prog 16 #[.string (st s)] w (GetVEnds s w) := by
  have hV' := Lib.hid (show getV s = getVr s.length (getF 13 s) from rfl)
  have hlen := getF_len 13 s
  go_enter Try.func16, Try.ntmps16
  go_upto_region 1 with fail
  obtain ⟨w1, hw1⟩ : ∃ w1, w1 = w.alloc (.cells #[.int .i64 0, .bool false, .int .i64 0, .float .f64 0, .string (st []), .slice none 0 0] 25) := ⟨_, rfl⟩
  have hb2 : Bx w1 w.heap.size 0 false 0 0 [] none 0 0 := hw1 ▸ Bx.new w 0 false 0 0 [] none 0 0
  have hbw : Below w.heap.size w w1 := hw1 ▸ below_alloc _ _
  have hs1 : w.heap.size < w1.heap.size := by rw [hw1]; simp
  rw [← hw1]
  clear hw1
  go_upto_region 2 with fail
  obtain ⟨w2, hw2⟩ : ∃ w2, w2 = w1.alloc (.cells #[.string (st s), .int .i64 0] 58) := ⟨_, rfl⟩
  have hb2 : Bx w2 w.heap.size 0 false 0 0 [] none 0 0 := by rw [hw2]; exact hb2.step (g := w1.heap.size) (World.grownBy_alloc _ _ _) (by omega)
  have hg2 : GSt w2 w1.heap.size s 0 := hw2 ▸ GSt.new _ _ _
  have hbw : Below w.heap.size w w2 := by rw [hw2]; exact hbw.trans ((below_alloc _ _).mono (by omega))
  have hs2 : w1.heap.size < w2.heap.size := by rw [hw2]; simp
  rw [← hw2]
  clear hw2
  generalize w1.heap.size = g at *
  have cv := value_c g 13 1 (by decide) (by decide) s w2 hg2 hs
  generalize getF 13 s = R at *
  obtain ⟨v, s1, e1⟩ := R
  try dsimp only at hlen
  have lg2 := hg2.lt
  go_upto_region 3 with ((with_reducible refine cv.mono ?_); rintro e w3 ⟨k, b, n, f, s', B, len, c, rfl, hx3, hg3, hgr3⟩)
  try dsimp only at hx3 hg3
  have hb3 := hb2.step hgr3 (by omega)
  have hbw3 : Below w.heap.size w w3 := ⟨hgr3.os.trans hbw.os, hgr3.tape.trans hbw.tape, hgr3.output.trans hbw.output, Nat.le_trans hbw.size hgr3.size, fun i hi => (hgr3.block i (by omega) (by simp; omega)).trans (hbw.block i hi)⟩
  have hs3 := hgr3.size
  obtain ⟨w4, hw4⟩ : ∃ w4, w4 = w3.alloc (.cells #[.int .i64 k, .bool b, .int .i64 n, .float .f64 f, .string (st s'), .slice B len c] 25) := ⟨_, rfl⟩
  have hb4 : Bx w4 w.heap.size 0 false 0 0 [] none 0 0 := by rw [hw4]; exact hb3.step (g := w3.heap.size) (World.grownBy_alloc _ _ _) (by omega)
  have hb6 : Bx w4 w3.heap.size k b n f s' B len c := hw4 ▸ Bx.new w3 k b n f s' B len c
  have hg4 : GSt w4 g s1 e1 := hw4 ▸ hg3.alloc _
  have hbw4 : Below w.heap.size w w4 := by rw [hw4]; exact hbw3.trans ((below_alloc _ _).mono (by omega))
  have hx4 : HasP (fun j => w2.heap.size ≤ j) w4 (valV k b n f s' B len c) v := by rw [hw4]; exact hx3.step (fun j _ hlt => Below.heap_alloc _ _ _ hlt) (fun j hj _ => hj)
  rw [← hw4]
  clear cv lg2 hw4 hb2 hb3 hg2 hg3 hgr3 hbw hbw3 hx3
  have hne6 : w3.heap.size ≠ w.heap.size := by omega
  generalize w3.heap.size = b6 at *
  have hx4' := Lib.hid hx4
  clear hx4
  have hlen' : (s1.length : Int) ≤ s.length := by omega
  have wN : IntKind.i64.wrap ((s.length : Int) - s1.length) = (s.length : Int) - s1.length := by rw [wrap_i64]; omega
  have wN' : wrap64 ((s.length : Int) - s1.length) = (s.length : Int) - s1.length := by unfold wrap64; omega
  obtain ⟨N, hN⟩ : ∃ N : Int, N = (s.length : Int) - s1.length := ⟨_, rfl⟩
  rw [← hN] at wN wN'
  have hV2 := Lib.hid (show getV s = if e1 = 0 then (if (60000 : Int) < N then (zeroV, 0, 3) else (v, N, 0)) else (zeroV, 0, e1) by rw [hV'.out, hN]; rfl)
  have hN' : (s.length : Int) - s1.length = N := hN.symm
  clear hV' hN hlen hlen'
  have hV' := hV2
  clear hV2
  have r0 := hg4.c0
  have r1 := hg4.c1
  have rl := hg4.lt
  by_cases he : e1 = 0
  · subst he
    by_cases h6 : 60000 < N
    · have rf := hg4.f0 1
      have hb5 := hb4.other (show w.heap.size ≠ g by omega) 1 (.int .i64 3)
      have hg5 := hg4.set1 3
      have hbw5 : Below w.heap.size w (w4.setCell ⟨g, 1, none⟩ (.int .i64 3)) := Below.setCell (p := ⟨g, 1, none⟩) hbw4 (by show w.heap.size ≤ g; omega) _
      go_upto_region 6 with fail
      generalize w4.setCell ⟨g, 1, none⟩ (.int .i64 3) = w5 at *
      clear hb4 hg4 hbw4 hb6 r0 r1 rl rf wN wN' hN' hx4'
      have r1 := hg5.c1
      have rl := hg5.lt
      clear hg5
      have fin : GetVEnds s w (.returned (.tuple #[valV 0 false 0 0 [] none 0 0, .int .i64 0, .int .i64 3])) (put6 w5 w.heap.size 0 false 0 0 [] none 0 0).drew := by
        refine ⟨0, false, 0, 0, [], none, 0, 0, ?_, ?_, ?_⟩
        · rw [hV'.out, if_pos rfl, if_pos h6]
        · rw [hV'.out, if_pos rfl, if_pos h6]
          exact (HasP.flat (fun _ => True) _ ⟨by omega, by omega⟩ ⟨by omega, by omega⟩ ⟨by omega⟩ (by simp)).has
        · exact (put6_below hbw5 (Nat.le_refl _) _ _ _ _ _ _ _ _).drew
      have hbz : Bx (put6 w5 w.heap.size 0 false 0 0 [] none 0 0).drew w.heap.size 0 false 0 0 [] none 0 0 := (put6_bx hb5 0 false 0 0 [] none 0 0).drew
      have z0 := hb5.cell 0
      have z1 := hb5.cell 1
      have z2 := hb5.cell 2
      have z3 := hb5.cell 3
      have z4 := hb5.cell 4
      have z5 := hb5.cell 5
      simp at z0 z1 z2 z3 z4 z5
      have fz0 := hb5.fz 0
      have fz1 := hb5.fz 1
      have fz2 := hb5.fz 2
      have fz3 := hb5.fz 3
      have fz4 := hb5.fz 4
      have fz5 := hb5.fz 5
      have l4 := hb5.lt
      go_upto_region 7 with fail
      go_region
      all_goals (
        go_wp2_with fail
        show bodyPost _ _ _ _ _ (put6 w5 w.heap.size 0 false 0 0 [] none 0 0).drew
        generalize (put6 w5 w.heap.size 0 false 0 0 [] none 0 0).drew = wz at *
        clear z0 z1 z2 z3 z4 z5 fz0 fz1 fz2 fz3 fz4 fz5 hb5 hbw5 r1 rl
        have y0 := hbz.cell 0
        have y1 := hbz.cell 1
        have y2 := hbz.cell 2
        have y3 := hbz.cell 3
        have y4 := hbz.cell 4
        have y5 := hbz.cell 5
        simp at y0 y1 y2 y3 y4 y5
        have y6 := hbz.lt
        exact bodyPost_ret (v := .tuple #[valV 0 false 0 0 [] none 0 0, .int .i64 0, .int .i64 3]) (by simp only [results, Try.results16]; go_simp) rfl fin)
    · skip
      have fin : GetVEnds s w (.returned (.tuple #[valV k b n f s' B len c, .int .i64 N, .int .i64 0])) (put6 w4 w.heap.size k b n f s' B len c) := by
        refine ⟨k, b, n, f, s', B, len, c, ?_, ?_, ?_⟩
        · rw [hV'.out, if_pos rfl, if_neg h6]
        · rw [hV'.out, if_pos rfl, if_neg h6]
          exact (hx4'.out.step (fun j (hj : w2.heap.size ≤ j) _ => put6_other _ (by omega) _ _ _ _ _ _ _ _) (fun j hj _ => hj)).has
        · exact put6_below hbw4 (Nat.le_refl _) _ _ _ _ _ _ _ _
      have hbz := put6_bx hb4 k b n f s' B len c
      have z0 := hb4.cell 0
      have z1 := hb4.cell 1
      have z2 := hb4.cell 2
      have z3 := hb4.cell 3
      have z4 := hb4.cell 4
      have z5 := hb4.cell 5
      simp at z0 z1 z2 z3 z4 z5
      have q0 := hb6.cell 0
      have q1 := hb6.cell 1
      have q2 := hb6.cell 2
      have q3 := hb6.cell 3
      have q4 := hb6.cell 4
      have q5 := hb6.cell 5
      simp at q0 q1 q2 q3 q4 q5
      have fz0 := hb4.fz 0
      have fz1 := hb4.fz 1
      have fz2 := hb4.fz 2
      have fz3 := hb4.fz 3
      have fz4 := hb4.fz 4
      have fz5 := hb4.fz 5
      have l4 := hb4.lt
      have l6 := hb6.lt
      go_wp2_with fail
      show bodyPost _ _ _ _ _ (put6 w4 w.heap.size k b n f s' B len c)
      generalize put6 w4 w.heap.size k b n f s' B len c = wz at *
      clear z0 z1 z2 z3 z4 z5 q0 q1 q2 q3 q4 q5 fz0 fz1 fz2 fz3 fz4 fz5 hb4 hb6 hg4 hbw4 hx4' r0 r1 rl
      have y0 := hbz.cell 0
      have y1 := hbz.cell 1
      have y2 := hbz.cell 2
      have y3 := hbz.cell 3
      have y4 := hbz.cell 4
      have y5 := hbz.cell 5
      simp at y0 y1 y2 y3 y4 y5
      have y6 := hbz.lt
      exact bodyPost_ret (v := .tuple #[valV k b n f s' B len c, .int .i64 N, .int .i64 0]) (by simp only [results, Try.results16]; go_simp) rfl fin
  · have he' : (e1 == 0) = false := by simpa using he
    have he2 : (e1 != 0) = true := by simpa using he
    go_upto_region 6 with fail
    clear hb6 hg4 hx4' r0
    have fin : GetVEnds s w (.returned (.tuple #[valV 0 false 0 0 [] none 0 0, .int .i64 0, .int .i64 e1])) (put6 w4 w.heap.size 0 false 0 0 [] none 0 0).drew := by
      refine ⟨0, false, 0, 0, [], none, 0, 0, ?_, ?_, ?_⟩
      · rw [hV'.out, if_neg he]
      · rw [hV'.out, if_neg he]
        exact (HasP.flat (fun _ => True) _ ⟨by omega, by omega⟩ ⟨by omega, by omega⟩ ⟨by omega⟩ (by simp)).has
      · exact (put6_below hbw4 (Nat.le_refl _) _ _ _ _ _ _ _ _).drew
    have hbz : Bx (put6 w4 w.heap.size 0 false 0 0 [] none 0 0).drew w.heap.size 0 false 0 0 [] none 0 0 := (put6_bx hb4 0 false 0 0 [] none 0 0).drew
    have z0 := hb4.cell 0
    have z1 := hb4.cell 1
    have z2 := hb4.cell 2
    have z3 := hb4.cell 3
    have z4 := hb4.cell 4
    have z5 := hb4.cell 5
    simp at z0 z1 z2 z3 z4 z5
    have fz0 := hb4.fz 0
    have fz1 := hb4.fz 1
    have fz2 := hb4.fz 2
    have fz3 := hb4.fz 3
    have fz4 := hb4.fz 4
    have fz5 := hb4.fz 5
    have l4 := hb4.lt
    go_upto_region 7 with fail
    go_region
    all_goals (
      go_wp2_with fail
      show bodyPost _ _ _ _ _ (put6 w4 w.heap.size 0 false 0 0 [] none 0 0).drew
      generalize (put6 w4 w.heap.size 0 false 0 0 [] none 0 0).drew = wz at *
      clear z0 z1 z2 z3 z4 z5 fz0 fz1 fz2 fz3 fz4 fz5 hb4 hbw4 r1 rl
      have y0 := hbz.cell 0
      have y1 := hbz.cell 1
      have y2 := hbz.cell 2
      have y3 := hbz.cell 3
      have y4 := hbz.cell 4
      have y5 := hbz.cell 5
      simp at y0 y1 y2 y3 y4 y5
      have y6 := hbz.lt
      exact bodyPost_ret (v := .tuple #[valV 0 false 0 0 [] none 0 0, .int .i64 0, .int .i64 e1]) (by simp only [results, Try.results16]; go_simp) rfl fin)
end Go.Proofs.Ytkbacjlnfmibaaa
