
/-
  val's getter: value; Get.
-/
import Derived.Test.YtkbacjlnfmibaaaGetB
set_option linter.unusedSimpArgs false
set_option linter.unusedVariables false
namespace Go.Proofs.Ytkbacjlnfmibaaa
open Go.RowKit Go.Deep

/-- a value in a block of its own that may be written -/
def Bx (w : World) (b : Nat) (k : Int) (t : Bool) (n : Int) (f : Nat) (s : List UInt8) (A : Option Addr) (len c : Nat) : Prop := w.heap[b]? = some (.cells #[.int .i64 k, .bool t, .int .i64 n, .float .f64 f, .string (st s), .slice A len c] 25 (0, 0))
theorem Bx.lt {w : World} {b : Nat} {k : Int} {t : Bool} {n : Int} {f : Nat} {s : List UInt8} {A : Option Addr} {len c : Nat} (h : Bx w b k t n f s A len c) : b < w.heap.size := (Array.getElem?_eq_some_iff.1 h).1
theorem Bx.cell {w : World} {b : Nat} {k : Int} {t : Bool} {n : Int} {f : Nat} {s : List UInt8} {A : Option Addr} {len c : Nat} (h : Bx w b k t n f s A len c) (j : Nat) : w.cell? ⟨b, j, none⟩ = #[Value.int .i64 k, .bool t, .int .i64 n, .float .f64 f, .string (st s), .slice A len c][j]? := by
  unfold Bx at h
  simp [World.cell?, h]
theorem Bx.fz {w : World} {b : Nat} {k : Int} {t : Bool} {n : Int} {f : Nat} {s : List UInt8} {A : Option Addr} {len c : Nat} (h : Bx w b k t n f s A len c) (j : Nat) : w.frozen? ⟨b, j, none⟩ = false := by
  unfold Bx at h
  simp [World.frozen?, h]
theorem Bx.step {w w' : World} {b g : Nat} {k : Int} {t : Bool} {n : Int} {f : Nat} {s : List UInt8} {A : Option Addr} {len c : Nat} (h : Bx w b k t n f s A len c) (hb : w.grownBy w' (some g)) (hne : b ≠ g) : Bx w' b k t n f s A len c := (hb.block b h.lt (by simpa using hne)).trans h
theorem Bx.new (w : World) (k : Int) (t : Bool) (n : Int) (f : Nat) (s : List UInt8) (A : Option Addr) (len c : Nat) : Bx (w.alloc (.cells #[.int .i64 k, .bool t, .int .i64 n, .float .f64 f, .string (st s), .slice A len c] 25)) w.heap.size k t n f s A len c := by
  unfold Bx
  show (w.heap.push _)[w.heap.size]? = _
  simp
theorem g_new {a w : World} {g : Nat} (h : a.grownBy w (some g)) {b j : Nat} (hb : a.heap.size ≤ b) (v : Value) : a.grownBy (w.setCell ⟨b, j, none⟩ v) (some g) :=
  ⟨h.os, h.tape, h.output, Nat.le_trans h.size (by simp [World.setCell]), fun i hi hne => by
    rw [Below.heap_setCell _ _ _ _ (by simp; omega)]
    exact h.block i hi hne⟩
/-- a value is laid over another one -/
def put6 (w : World) (b : Nat) (k : Int) (t : Bool) (n : Int) (f : Nat) (s : List UInt8) (A : Option Addr) (len c : Nat) : World :=
  (((((w.setCell ⟨b, 0, none⟩ (.int .i64 k)).setCell ⟨b, 1, none⟩ (.bool t)).setCell ⟨b, 2, none⟩ (.int .i64 n)).setCell ⟨b, 3, none⟩ (.float .f64 f)).setCell ⟨b, 4, none⟩ (.string (st s))).setCell ⟨b, 5, none⟩ (.slice A len c)
theorem put6_other (w : World) {b i : Nat} (h : i ≠ b) (k : Int) (t : Bool) (n : Int) (f : Nat) (s : List UInt8) (A : Option Addr) (len c : Nat) : (put6 w b k t n f s A len c).heap[i]? = w.heap[i]? := by
  unfold put6
  rw [Below.heap_setCell _ _ _ _ h, Below.heap_setCell _ _ _ _ h, Below.heap_setCell _ _ _ _ h, Below.heap_setCell _ _ _ _ h, Below.heap_setCell _ _ _ _ h, Below.heap_setCell _ _ _ _ h]
theorem put6_size (w : World) (b : Nat) (k : Int) (t : Bool) (n : Int) (f : Nat) (s : List UInt8) (A : Option Addr) (len c : Nat) : (put6 w b k t n f s A len c).heap.size = w.heap.size := by
  unfold put6
  simp [World.setCell]
theorem put6_bx {w : World} {b : Nat} {k' : Int} {t' : Bool} {n' : Int} {f' : Nat} {s' : List UInt8} {A' : Option Addr} {len' c' : Nat} (h : Bx w b k' t' n' f' s' A' len' c') (k : Int) (t : Bool) (n : Int) (f : Nat) (s : List UInt8) (A : Option Addr) (len c : Nat) : Bx (put6 w b k t n f s A len c) b k t n f s A len c := by
  unfold Bx at h ⊢
  unfold put6
  simp [World.setCell, Array.getElem?_modify, h]
theorem put6_grown {a w : World} {g b : Nat} (h : a.grownBy w (some g)) (hb : a.heap.size ≤ b) (k : Int) (t : Bool) (n : Int) (f : Nat) (s : List UInt8) (A : Option Addr) (len c : Nat) : a.grownBy (put6 w b k t n f s A len c) (some g) := by
  unfold put6
  exact g_new (g_new (g_new (g_new (g_new (g_new h hb _) hb _) hb _) hb _) hb _) hb _
theorem value_end {g : Nat} {r : Val × List UInt8 × Int} {w wy : World} {b : Nat} {k : Int} {t : Bool} {n : Int} {f : Nat} {s : List UInt8} {A : Option Addr} {len c : Nat}
    (hb : w.grownBy wy (some g)) (hwb : w.heap.size ≤ b) (hg : GSt wy g r.2.1 r.2.2) (hne : b ≠ g) (hx : HasP (fun j => w.heap.size ≤ j ∧ j ≠ b) wy (valV k t n f s A len c) r.1) :
    ValueEnds g r w (.returned (valV k t n f s A len c)) (put6 wy b k t n f s A len c) := by
  refine ⟨k, t, n, f, s, A, len, c, rfl, hx.step (fun j hj _ => put6_other _ hj.2 _ _ _ _ _ _ _ _) (fun j hj _ => hj.1), ?_, put6_grown hb hwb _ _ _ _ _ _ _ _⟩
  unfold GSt at hg ⊢
  rw [put6_other _ (Ne.symm hne)]
  exact hg
set_option maxRecDepth 8000 in
set_option maxHeartbeats 4000000 in
theorem value_zero (g : Nat) (s : List UInt8) (w : World) (hg : GSt w g s 0) (hs : s.length ≤ 140737488351232) : Calls Try.prog 45 #[.pointer (some ⟨g, 0, none⟩), .int .i64 14] w (ValueEnds g (getF 0 s) w) := by
  have hglt := hg.lt
  go_enter Try.func45, Try.ntmps45
  go_upto_region 1 with fail
  obtain ⟨w1, hw1⟩ : ∃ w1, w1 = w.alloc (.cells #[.int .i64 0, .bool false, .int .i64 0, .float .f64 0, .string (st []), .slice none 0 0] 25) := ⟨_, rfl⟩
  have hb4 : Bx w1 w.heap.size 0 false 0 0 [] none 0 0 := hw1 ▸ Bx.new w 0 false 0 0 [] none 0 0
  have hg1 : GSt w1 g s 0 := hw1 ▸ hg.alloc _
  have hbw : w.grownBy w1 (some g) := hw1 ▸ World.grownBy_alloc _ _ _
  rw [← hw1]
  clear hw1 hg
  have hne : w.heap.size ≠ g := by omega
  have c0 := hg1.c0
  have c1 := hg1.c1
  have f1 := hg1.f0 1
  have l1 := hg1.lt
  have hg2 := hg1.set1 3
  have hs2 := g_set w1 g 1 (.int .i64 3)
  go_upto_region 3 with fail
  generalize w1.setCell ⟨g, 1, none⟩ (.int .i64 3) = w2 at *
  have ct : Calls Try.prog 66 #[.pointer (some ⟨g, 0, none⟩), .int .i64 1] w2 fun e w' => e = .returned (.string (st [])) ∧ GSt w' g s 3 ∧ w2.grownBy w' (some g) := take_c g s 3 1 w2 hg2 (by omega) hs
  have hb5 := hb4.step hs2 hne
  have hbw2 := g_trans hbw hs2
  clear hg1 hb4 hg2 hs2 hbw c0 c1 l1
  go_upto_region 4 with ((with_reducible refine ct.mono ?_); rintro e w3 ⟨rfl, hg3, hs3⟩)
  have hb6 := hb5.step hs3 hne
  have hbw3 := g_trans hbw2 hs3
  clear ct hb5 hs3 hbw2
  have c1 := hg3.c1
  have l1 := hg3.lt
  have l4 := hb6.lt
  have z0 := hb6.cell 0
  have z1 := hb6.cell 1
  have z2 := hb6.cell 2
  have z3 := hb6.cell 3
  have z4 := hb6.cell 4
  have z5 := hb6.cell 5
  have fz0 := hb6.fz 0
  have fz1 := hb6.fz 1
  have fz2 := hb6.fz 2
  have fz3 := hb6.fz 3
  have fz4 := hb6.fz 4
  have fz5 := hb6.fz 5
  simp at z0 z1 z2 z3 z4 z5
  have fin : ValueEnds g (getF 0 s) w (.returned (valV 0 false 0 0 [] none 0 0)) (put6 w3 w.heap.size 0 false 0 0 [] none 0 0) := value_end hbw3 (Nat.le_refl _) hg3 hne (HasP.flat _ _ ⟨by omega, by omega⟩ ⟨by omega, by omega⟩ ⟨by omega⟩ (by simp))
  have hbz := put6_bx hb6 0 false 0 0 [] none 0 0
  go_wp2_with fail
  show bodyPost _ _ _ _ _ (put6 w3 w.heap.size 0 false 0 0 [] none 0 0)
  generalize put6 w3 w.heap.size 0 false 0 0 [] none 0 0 = wz at *
  clear z0 z1 z2 z3 z4 z5 fz0 fz1 fz2 fz3 fz4 fz5 c1 hg3 hb6 hbw3 f1
  have y0 := hbz.cell 0
  have y1 := hbz.cell 1
  have y2 := hbz.cell 2
  have y3 := hbz.cell 3
  have y4 := hbz.cell 4
  have y5 := hbz.cell 5
  have y6 := hbz.lt
  simp at y0 y1 y2 y3 y4 y5
  exact bodyPost_ret (v := valV 0 false 0 0 [] none 0 0) (by simp only [results, Try.results45]; go_simp) rfl fin
theorem Bx.set1 {w : World} {b : Nat} {k : Int} {t : Bool} {n : Int} {f : Nat} {s : List UInt8} {A : Option Addr} {len c : Nat} (h : Bx w b k t n f s A len c) (x : Bool) : Bx (w.setCell ⟨b, 1, none⟩ (.bool x)) b k x n f s A len c := by
  unfold Bx at h ⊢
  simp [World.setCell, Array.getElem?_modify, h]
theorem Bx.set2 {w : World} {b : Nat} {k : Int} {t : Bool} {n : Int} {f : Nat} {s : List UInt8} {A : Option Addr} {len c : Nat} (h : Bx w b k t n f s A len c) (x : Int) : Bx (w.setCell ⟨b, 2, none⟩ (.int .i64 x)) b k t x f s A len c := by
  unfold Bx at h ⊢
  simp [World.setCell, Array.getElem?_modify, h]
theorem Bx.set3 {w : World} {b : Nat} {k : Int} {t : Bool} {n : Int} {f : Nat} {s : List UInt8} {A : Option Addr} {len c : Nat} (h : Bx w b k t n f s A len c) (x : Nat) : Bx (w.setCell ⟨b, 3, none⟩ (.float .f64 x)) b k t n x s A len c := by
  unfold Bx at h ⊢
  simp [World.setCell, Array.getElem?_modify, h]
theorem Bx.set4 {w : World} {b : Nat} {k : Int} {t : Bool} {n : Int} {f : Nat} {s : List UInt8} {A : Option Addr} {len c : Nat} (h : Bx w b k t n f s A len c) (x : List UInt8) : Bx (w.setCell ⟨b, 4, none⟩ (.string (st x))) b k t n f x A len c := by
  unfold Bx at h ⊢
  simp [World.setCell, Array.getElem?_modify, h]
theorem Bx.set5 {w : World} {b : Nat} {k : Int} {t : Bool} {n : Int} {f : Nat} {s : List UInt8} {A : Option Addr} {len c : Nat} (h : Bx w b k t n f s A len c) (X : Option Addr) (l' c' : Nat) : Bx (w.setCell ⟨b, 5, none⟩ (.slice X l' c')) b k t n f s X l' c' := by
  unfold Bx at h ⊢
  simp [World.setCell, Array.getElem?_modify, h]
theorem Bx.other {w : World} {b : Nat} {k : Int} {t : Bool} {n : Int} {f : Nat} {s : List UInt8} {A : Option Addr} {len c : Nat} (h : Bx w b k t n f s A len c) {b' : Nat} (hne : b ≠ b') (j : Nat) (v : Value) : Bx (w.setCell ⟨b', j, none⟩ v) b k t n f s A len c := by
  unfold Bx at h ⊢
  rw [Below.heap_setCell _ _ _ _ hne]
  exact h
theorem GSt.other {w : World} {g : Nat} {s : List UInt8} {e : Int} (h : GSt w g s e) {b' : Nat} (hne : g ≠ b') (j : Nat) (v : Value) : GSt (w.setCell ⟨b', j, none⟩ v) g s e := by
  unfold GSt at h ⊢
  rw [Below.heap_setCell _ _ _ _ hne]
  exact h
theorem PartsP.step {P Q : Nat → Prop} {w w' : World} {A : Option Addr} {l : List Val} (h : PartsP P w A l) (hw : ∀ b, P b → b < w.heap.size → w'.heap[b]? = w.heap[b]?) (hq : ∀ b, P b → b < w.heap.size → Q b) : PartsP Q w' A l := fun i x hi => by
  obtain ⟨ad, k, b, n, f, s, B, len, c, h1, hp, h2, h3⟩ := h i x hi
  have hlt : ad.block < w.heap.size := by have := cell_lt' h3.c0; rwa [add_block] at this
  have e : ∀ j v, w.cell? ⟨(ad.add (i * 6)).block, (ad.add (i * 6)).off + j, none⟩ = some v → w'.cell? ⟨(ad.add (i * 6)).block, (ad.add (i * 6)).off + j, none⟩ = some v := fun j v hv => by
    rw [World.cell?_of_block (w := w) (w' := w') (by show w'.heap[(ad.add (i * 6)).block]? = w.heap[(ad.add (i * 6)).block]?; rw [add_block]; exact hw _ hp hlt)]
    exact hv
  have e0 : ∀ v, w.cell? (ad.add (i * 6)) = some v → w'.cell? (ad.add (i * 6)) = some v := fun v hv => by
    rw [World.cell?_of_block (w := w) (w' := w') (by rw [add_block]; exact hw _ hp hlt)]
    exact hv
  exact ⟨ad, k, b, n, f, s, B, len, c, h1, hq _ hp hlt, h2.step hw hq, cell_lt' (e0 _ h3.c0), e0 _ h3.c0, e 1 _ h3.c1, e 2 _ h3.c2, e 3 _ h3.c3, e 4 _ h3.c4, e 5 _ h3.c5⟩
-- CASES
set_option maxRecDepth 8000 in
set_option maxHeartbeats 1000000 in
theorem value_0 (g m : Nat) (d : Int) (hd0 : 0 ≤ d) (hd : d ≤ 13) (c : UInt8) (r : List UInt8) (w : World) (hc : c.toNat = 0) (hg : GSt w g (c :: r) 0) (hs : r.length < 140737488351232) : Calls Try.prog 45 #[.pointer (some ⟨g, 0, none⟩), .int .i64 d] w (ValueEnds g (getF (m + 1) (c :: r)) w) := by
  obtain ⟨RES, hR⟩ : ∃ R, R = getF (m + 1) (c :: r) := ⟨_, rfl⟩
  rw [← hR]
  have hR' := Lib.hid (show RES = (zeroV, r, 0) by
    rw [hR, getF]
    rw [if_pos hc]
  )
  clear hR
  have hglt := hg.lt
  have hsc : (c :: r).length ≤ 140737488351232 := by simp; omega
  go_enter Try.func45, Try.ntmps45
  go_upto_region 1 with fail
  obtain ⟨w1, hw1⟩ : ∃ w1, w1 = w.alloc (.cells #[.int .i64 0, .bool false, .int .i64 0, .float .f64 0, .string (st []), .slice none 0 0] 25) := ⟨_, rfl⟩
  have hb4 : Bx w1 w.heap.size 0 false 0 0 [] none 0 0 := hw1 ▸ Bx.new w 0 false 0 0 [] none 0 0
  have hg1 : GSt w1 g (c :: r) 0 := hw1 ▸ hg.alloc _
  have hbw : w.grownBy w1 (some g) := hw1 ▸ World.grownBy_alloc _ _ _
  rw [← hw1]
  clear hw1 hg
  have hne : w.heap.size ≠ g := by omega
  have ct : Calls Try.prog 66 #[.pointer (some ⟨g, 0, none⟩), .int .i64 1] w1 fun e w' => e = .returned (.string (st [c])) ∧ GSt w' g r 0 ∧ w1.grownBy w' (some g) := by
    have h := take_c g (c :: r) 0 1 w1 hg1 (by omega) hsc
    have e1 : tkE (c :: r) 0 1 = 0 := by simp [tkE]
    have e2 : tkS (c :: r) 0 1 = [c] := by unfold tkS; rw [e1]; rfl
    have e3 : tkR (c :: r) 0 1 = r := by unfold tkR; rw [e1]; rfl
    unfold TakeEnds at h
    rwa [e1, e2, e3] at h
  have c0 := hg1.c0
  have c1 := hg1.c1
  have l1 := hg1.lt
  go_upto_region 4 with ((with_reducible refine ct.mono ?_); rintro e w3 ⟨rfl, hg3, hs3⟩)
  have hb5 := hb4.step hs3 hne
  have hbw3 := g_trans hbw hs3
  clear ct hs3 hbw hg1 c0 c1 l1 hb4
  have c1 := hg3.c1
  have l1 := hg3.lt
  have hsz3 := hbw3.size
  have hch : wrap64 (((st [c])[0]'(st_lt (by simp)) : UInt8).toNat : Int) = (c.toNat : Int) := by
    rw [st_get [c] 0 (by simp)]
    have := c.toNat_lt
    simp [wrap64]; omega
  go_upto_region 7 with fail
  obtain ⟨wb, hwb⟩ : ∃ wb, wb = w3.alloc (.cells #[.int .i64 0, .bool false, .int .i64 0, .float .f64 0, .string (st []), .slice none 0 0] 25) := ⟨_, rfl⟩
  have hb6 : Bx wb w3.heap.size 0 false 0 0 [] none 0 0 := hwb ▸ Bx.new w3 0 false 0 0 [] none 0 0
  have hgb : GSt wb g r 0 := hwb ▸ hg3.alloc _
  have hb4 : Bx wb w.heap.size 0 false 0 0 [] none 0 0 := by rw [hwb]; exact hb5.step (g := g) (World.grownBy_alloc _ _ _) hne
  have hbwb : w.grownBy wb (some g) := by rw [hwb]; exact Lib.grownBy_allocR hbw3 _
  have hne6 : w3.heap.size ≠ g := by omega
  have hlt46 := hb5.lt
  have hbsz : wb.heap.size = w3.heap.size + 1 := by rw [hwb]; simp
  rw [← hwb]
  clear hch hwb hg3 hb5 hbw3 c1 l1
  generalize w3.heap.size = b6 at *
  have hk256 : I64 c.toNat := ⟨by omega, by have := c.toNat_lt; omega⟩
  have z0 := hb4.cell 0
  have z1 := hb4.cell 1
  have z2 := hb4.cell 2
  have z3 := hb4.cell 3
  have z4 := hb4.cell 4
  have z5 := hb4.cell 5
  simp at z0 z1 z2 z3 z4 z5
  have q0 := hb6.cell 0
  have q1 := hb6.cell 1
  have q2 := hb6.cell 2
  have q3 := hb6.cell 3
  have q4 := hb6.cell 4
  have q5 := hb6.cell 5
  simp at q0 q1 q2 q3 q4 q5
  have fz0 := hb4.fz 0
  have fz1 := hb4.fz 1
  have fz2 := hb4.fz 2
  have fz3 := hb4.fz 3
  have fz4 := hb4.fz 4
  have fz5 := hb4.fz 5
  have l4 := hb4.lt
  have l6 := hb6.lt
  have fin : ValueEnds g RES w (.returned (valV 0 false 0 0 [] none 0 0)) (put6 wb w.heap.size 0 false 0 0 [] none 0 0) := by
    rw [hR'.out]
    exact value_end hbwb (Nat.le_refl _) hgb hne (HasP.flat _ _ ⟨by omega, by omega⟩ ⟨by omega, by omega⟩ ⟨by omega⟩ (by simp))
  have hbz := put6_bx hb4 0 false 0 0 [] none 0 0
  go_wp2_with fail
  show bodyPost _ _ _ _ _ (put6 wb w.heap.size 0 false 0 0 [] none 0 0)
  generalize put6 wb w.heap.size 0 false 0 0 [] none 0 0 = wz at *
  clear z0 z1 z2 z3 z4 z5 q0 q1 q2 q3 q4 q5 fz0 fz1 fz2 fz3 fz4 fz5 hgb hb4 hb6 hbwb
  have y0 := hbz.cell 0
  have y1 := hbz.cell 1
  have y2 := hbz.cell 2
  have y3 := hbz.cell 3
  have y4 := hbz.cell 4
  have y5 := hbz.cell 5
  simp at y0 y1 y2 y3 y4 y5
  have y6 := hbz.lt
  exact bodyPost_ret (v := valV 0 false 0 0 [] none 0 0) (by simp only [results, Try.results45]; go_simp) rfl fin
set_option maxRecDepth 8000 in
set_option maxHeartbeats 1000000 in
theorem value_9 (g m : Nat) (d : Int) (hd0 : 0 ≤ d) (hd : d ≤ 13) (c : UInt8) (r : List UInt8) (w : World) (hc : 8 < c.toNat) (hg : GSt w g (c :: r) 0) (hs : r.length < 140737488351232) : Calls Try.prog 45 #[.pointer (some ⟨g, 0, none⟩), .int .i64 d] w (ValueEnds g (getF (m + 1) (c :: r)) w) := by
  obtain ⟨RES, hR⟩ : ∃ R, R = getF (m + 1) (c :: r) := ⟨_, rfl⟩
  rw [← hR]
  have hR' := Lib.hid (show RES = (.mk c.toNat false 0 0 [] [], r, 6) by
    rw [hR, getF]
    rw [if_neg (by omega), if_neg (by omega), if_neg (by omega), if_neg (by omega), if_neg (by omega), if_neg (by omega)]
  )
  clear hR
  have hglt := hg.lt
  have hsc : (c :: r).length ≤ 140737488351232 := by simp; omega
  go_enter Try.func45, Try.ntmps45
  go_upto_region 1 with fail
  obtain ⟨w1, hw1⟩ : ∃ w1, w1 = w.alloc (.cells #[.int .i64 0, .bool false, .int .i64 0, .float .f64 0, .string (st []), .slice none 0 0] 25) := ⟨_, rfl⟩
  have hb4 : Bx w1 w.heap.size 0 false 0 0 [] none 0 0 := hw1 ▸ Bx.new w 0 false 0 0 [] none 0 0
  have hg1 : GSt w1 g (c :: r) 0 := hw1 ▸ hg.alloc _
  have hbw : w.grownBy w1 (some g) := hw1 ▸ World.grownBy_alloc _ _ _
  rw [← hw1]
  clear hw1 hg
  have hne : w.heap.size ≠ g := by omega
  have ct : Calls Try.prog 66 #[.pointer (some ⟨g, 0, none⟩), .int .i64 1] w1 fun e w' => e = .returned (.string (st [c])) ∧ GSt w' g r 0 ∧ w1.grownBy w' (some g) := by
    have h := take_c g (c :: r) 0 1 w1 hg1 (by omega) hsc
    have e1 : tkE (c :: r) 0 1 = 0 := by simp [tkE]
    have e2 : tkS (c :: r) 0 1 = [c] := by unfold tkS; rw [e1]; rfl
    have e3 : tkR (c :: r) 0 1 = r := by unfold tkR; rw [e1]; rfl
    unfold TakeEnds at h
    rwa [e1, e2, e3] at h
  have c0 := hg1.c0
  have c1 := hg1.c1
  have l1 := hg1.lt
  go_upto_region 4 with ((with_reducible refine ct.mono ?_); rintro e w3 ⟨rfl, hg3, hs3⟩)
  have hb5 := hb4.step hs3 hne
  have hbw3 := g_trans hbw hs3
  clear ct hs3 hbw hg1 c0 c1 l1 hb4
  have c1 := hg3.c1
  have l1 := hg3.lt
  have hsz3 := hbw3.size
  have hch : wrap64 (((st [c])[0]'(st_lt (by simp)) : UInt8).toNat : Int) = (c.toNat : Int) := by
    rw [st_get [c] 0 (by simp)]
    have := c.toNat_lt
    simp [wrap64]; omega
  go_upto_region 7 with fail
  obtain ⟨wb, hwb⟩ : ∃ wb, wb = w3.alloc (.cells #[.int .i64 c.toNat, .bool false, .int .i64 0, .float .f64 0, .string (st []), .slice none 0 0] 25) := ⟨_, rfl⟩
  have hb6 : Bx wb w3.heap.size c.toNat false 0 0 [] none 0 0 := hwb ▸ Bx.new w3 c.toNat false 0 0 [] none 0 0
  have hgb : GSt wb g r 0 := hwb ▸ hg3.alloc _
  have hb4 : Bx wb w.heap.size 0 false 0 0 [] none 0 0 := by rw [hwb]; exact hb5.step (g := g) (World.grownBy_alloc _ _ _) hne
  have hbwb : w.grownBy wb (some g) := by rw [hwb]; exact Lib.grownBy_allocR hbw3 _
  have hne6 : w3.heap.size ≠ g := by omega
  have hlt46 := hb5.lt
  have hbsz : wb.heap.size = w3.heap.size + 1 := by rw [hwb]; simp
  rw [← hwb]
  clear hch hwb hg3 hb5 hbw3 c1 l1
  generalize w3.heap.size = b6 at *
  have hk256 : I64 c.toNat := ⟨by omega, by have := c.toNat_lt; omega⟩
  have e0 : ((c.toNat : Int) == 0) = false := by simp; omega
  have e1 : ((c.toNat : Int) == 1) = false := by simp; omega
  have e2 : ((c.toNat : Int) == 2) = false := by simp; omega
  have e3 : ((c.toNat : Int) == 3) = false := by simp; omega
  have e4 : ((c.toNat : Int) == 4) = false := by simp; omega
  have e5 : ((c.toNat : Int) == 5) = false := by simp; omega
  have e6 : ((c.toNat : Int) == 6) = false := by simp; omega
  have e7 : ((c.toNat : Int) == 7) = false := by simp; omega
  have e8 : ((c.toNat : Int) == 8) = false := by simp; omega
  have cf : Calls Try.prog 67 #[.pointer (some ⟨g, 0, none⟩), .int .i64 6] wb fun e w' => e = .returned (.tuple #[]) ∧ GSt w' g r 6 ∧ wb.grownBy w' (some g) := fail_c g r 0 6 wb hgb
  have p0 := hb6.cell 0
  simp at p0
  have l6 := hb6.lt
  go_upto_region 36 with ((with_reducible refine cf.mono ?_); rintro e wc ⟨rfl, hgc, hsc2⟩)
  have hb4c := hb4.step hsc2 hne
  have hb6c := hb6.step hsc2 hne6
  have hbwc := g_trans hbwb hsc2
  clear cf p0 l6 hb4 hb6 hgb hbwb hsc2
  have z0 := hb4c.cell 0
  have z1 := hb4c.cell 1
  have z2 := hb4c.cell 2
  have z3 := hb4c.cell 3
  have z4 := hb4c.cell 4
  have z5 := hb4c.cell 5
  simp at z0 z1 z2 z3 z4 z5
  have q0 := hb6c.cell 0
  have q1 := hb6c.cell 1
  have q2 := hb6c.cell 2
  have q3 := hb6c.cell 3
  have q4 := hb6c.cell 4
  have q5 := hb6c.cell 5
  simp at q0 q1 q2 q3 q4 q5
  have fz0 := hb4c.fz 0
  have fz1 := hb4c.fz 1
  have fz2 := hb4c.fz 2
  have fz3 := hb4c.fz 3
  have fz4 := hb4c.fz 4
  have fz5 := hb4c.fz 5
  have l4 := hb4c.lt
  have l6 := hb6c.lt
  have fin : ValueEnds g RES w (.returned (valV c.toNat false 0 0 [] none 0 0)) (put6 wc w.heap.size c.toNat false 0 0 [] none 0 0) := by
    rw [hR'.out]
    exact value_end hbwc (Nat.le_refl _) hgc hne (HasP.flat _ _ hk256 ⟨by omega, by omega⟩ ⟨by omega⟩ (by simp))
  have hbz := put6_bx hb4c c.toNat false 0 0 [] none 0 0
  go_wp2_with fail
  show bodyPost _ _ _ _ _ (put6 wc w.heap.size c.toNat false 0 0 [] none 0 0)
  generalize put6 wc w.heap.size c.toNat false 0 0 [] none 0 0 = wz at *
  clear z0 z1 z2 z3 z4 z5 q0 q1 q2 q3 q4 q5 fz0 fz1 fz2 fz3 fz4 fz5 hgc hb4c hb6c hbwc
  have y0 := hbz.cell 0
  have y1 := hbz.cell 1
  have y2 := hbz.cell 2
  have y3 := hbz.cell 3
  have y4 := hbz.cell 4
  have y5 := hbz.cell 5
  simp at y0 y1 y2 y3 y4 y5
  have y6 := hbz.lt
  exact bodyPost_ret (v := valV c.toNat false 0 0 [] none 0 0) (by simp only [results, Try.results45]; go_simp) rfl fin
end Go.Proofs.Ytkbacjlnfmibaaa
