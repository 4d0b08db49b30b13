
/-
  The folds' laws' awake.
-/
import Derived.Test.YtipjelkdbbhcpaaFdS
import Derived.Test.YtipjelkdbbhcpaaOdr
set_option linter.unusedSimpArgs false
set_option linter.unusedVariables false
namespace Go.Proofs.Ytipjelkdbbhcpaa
open Go.RowKit Go.Deep

theorem one_c (n : Int) (w : World) : Calls Try.prog 24 #[.int .i64 n] w fun e w' => e = .returned (valV 2 false n 0 [] none 0 0) ∧ Below w.heap.size w w' := by
  go_enter Try.func24, Try.ntmps24
  go_wp2
  obtain ⟨w1, hw1⟩ : ∃ w1, w1 = w.alloc (.cells #[.int .i64 2, .bool false, .int .i64 n, .float .f64 0, .string (st []), .slice none 0 0] 27) := ⟨_, rfl⟩
  have hB : Below w.heap.size w w1 := hw1 ▸ below_alloc w _
  obtain ⟨x6, x0, x1, x2, x3, x4, x5⟩ : Box w1 w.heap.size 2 false n 0 [] none 0 0 := hw1 ▸ Box.new w 2 false n 0 [] none 0 0 _
  rw [← hw1]
  clear hw1
  exact bodyPost_ret (v := valV 2 false n 0 [] none 0 0) (by simp only [results, Try.results24]; go_simp) rfl ⟨rfl, hB⟩
theorem parts1 {w : World} {k : Int} {b : Bool} {n : Int} {f : Nat} {s : List UInt8} {B : Option Addr} {len c : Nat} {v : Val} (h : Has w (valV k b n f s B len c) v) :
    Parts (w.alloc (.cells #[.int .i64 k, .bool b, .int .i64 n, .float .f64 f, .string (st s), .slice B len c] 27)) (some ⟨w.heap.size, 0, none⟩) [v] := by
  have hb := below_alloc w (.cells #[.int .i64 k, .bool b, .int .i64 n, .float .f64 f, .string (st s), .slice B len c] 27)
  have hx := Box.new w k b n f s B len c 27
  intro i x hi
  match i, hi with
  | 0, hi =>
    simp at hi
    subst hi
    obtain ⟨x6, x0, x1, x2, x3, x4, x5⟩ := hx
    exact ⟨⟨w.heap.size, 0, none⟩, k, b, n, f, s, B, len, c, rfl, h.keep hb, ⟨x6, x0, x1, x2, x3, x4, x5⟩⟩
  | i + 1, hi => simp at hi
theorem parts2 {w : World} {k : Int} {b : Bool} {n : Int} {f : Nat} {s : List UInt8} {B : Option Addr} {len c : Nat} {v : Val} (h : Has w (valV k b n f s B len c) v)
    {k' : Int} {b' : Bool} {n' : Int} {f' : Nat} {s' : List UInt8} {B' : Option Addr} {len' c' : Nat} {v' : Val} (h' : Has w (valV k' b' n' f' s' B' len' c') v') :
    Parts (w.alloc (.cells (valC k b n f s B len c ++ valC k' b' n' f' s' B' len' c').toArray 27)) (some ⟨w.heap.size, 0, none⟩) [v, v'] := by
  have hb := below_alloc w (.cells (valC k b n f s B len c ++ valC k' b' n' f' s' B' len' c').toArray 27)
  have own : (w.alloc (.cells (valC k b n f s B len c ++ valC k' b' n' f' s' B' len' c').toArray 27)).ownsRow w.heap.size 27 6 (.slice (some ⟨w.heap.size, 0, none⟩) 2 2) 2 (valC k b n f s B len c ++ valC k' b' n' f' s' B' len' c') :=
    ⟨rfl, .inr ⟨w.heap.size, 2, _, rfl, Nat.le_refl _, by show (w.heap.push _)[w.heap.size]? = _; simp; rfl, Nat.le_refl _, by unfold maxLen; omega, rfl, rfl⟩⟩
  obtain ⟨A, cc, he, hp, _⟩ := Parts.ofRow (ys := [v, v']) own (((VRow.nil _).snoc (h.keep hb)).snoc (h'.keep hb))
  have he : (Value.slice (some ⟨w.heap.size, 0, none⟩) 2 2) = .slice A 2 cc := he
  cases he
  exact hp
theorem i64_small {n : Int} (h : 0 ≤ n) (h2 : n ≤ 100) : I64 n := ⟨by omega, by omega⟩
theorem wake_sum : sumF [intV 1, intV 2] (intV 0) = (intV 3, 0) := by kernel_rfl
theorem wake_sort : sortV (ltOf (ordC true [intV 2, intV 1])) (List.range 2) = [1, 0] := by kernel_rfl
set_option maxRecDepth 8000 in
set_option maxHeartbeats 2000000 in
theorem awake_c (w : World) : Calls Try.prog 11 #[] w fun e w' => e = .returned (.bool true) ∧ Below w.heap.size w w' := by
  go_enter Try.func11, Try.ntmps11
  go_wp2_with ((with_reducible refine (one_c 1 _).mono ?_); rintro e w1 ⟨rfl, hb1⟩)
  go_wp2_with ((with_reducible refine (one_c 2 _).mono ?_); rintro e w2 ⟨rfl, hb2⟩)
  obtain ⟨w3, hw3⟩ : ∃ w3, w3 = w2.alloc (.cells (valC 2 false 1 0 [] none 0 0 ++ valC 2 false 2 0 [] none 0 0).toArray 27) := ⟨_, rfl⟩
  have hp3 : Parts w3 (some ⟨w2.heap.size, 0, none⟩) [intV 1, intV 2] := hw3 ▸ parts2 ((intV_flat (i64_small (by omega) (by omega))).has w2) ((intV_flat (i64_small (by omega) (by omega))).has w2)
  have k3 : Below w2.heap.size w2 w3 := hw3 ▸ below_alloc w2 _
  have hwa : w2.alloc (.cells #[.int .i64 2, .bool false, .int .i64 1, .float .f64 0, .string (st []), .slice none 0 0, .int .i64 2, .bool false, .int .i64 2, .float .f64 0, .string (st []), .slice none 0 0] 27) = w3 := hw3.symm
  clear hw3
  have B2 := hb1.trans (hb2.mono hb1.size)
  have B3 := B2.trans (k3.mono B2.size)
  have cs := fsum_c (some ⟨w2.heap.size, 0, none⟩) 2 [intV 1, intV 2] w3 hp3 (by decide)
  rw [wake_sum] at cs
  have cs : Calls Try.prog 16 #[.slice (some ⟨w2.heap.size, 0, none⟩) 2 2] w3 fun e w' => e = .returned (.tuple #[valV 2 false 3 0 [] none 0 0, .int .i64 0]) ∧ Below w3.heap.size w3 w' := cs
  rw [hwa]
  refine cs.mono ?_
  rintro e w4 ⟨rfl, hb4⟩
  obtain ⟨w5, hw5⟩ : ∃ w5, w5 = w4.alloc (.cells #[.int .i64 2, .bool false, .int .i64 3, .float .f64 0, .string (st []), .slice none 0 0] 27) := ⟨_, rfl⟩
  have k5 : Below w4.heap.size w4 w5 := hw5 ▸ below_alloc w4 _
  have hx5 : Box w5 w4.heap.size 2 false 3 0 [] none 0 0 := hw5 ▸ Box.new w4 2 false 3 0 [] none 0 0 _
  have B4 := B3.trans (hb4.mono B3.size)
  have B5 := B4.trans (k5.mono B4.size)
  have hwb : Hid (w4.alloc (.cells #[.int .i64 2, .bool false, .int .i64 3, .float .f64 0, .string (st []), .slice none 0 0] 27) = w5) := hw5.symm
  clear hw5 cs hp3 hwa hb1 hb2 k3 B2 B3 hb4 B4 k5
  go_upto_region 2 with fail
  rw [hwb.out]
  clear hwb
  go_wp2_with ((with_reducible refine (one_c 2 _).mono ?_); rintro e w6 ⟨rfl, hb6⟩)
  go_wp2_with ((with_reducible refine (one_c 1 _).mono ?_); rintro e w8 ⟨rfl, hb8⟩)
  have hi2 := (intV_flat (i64_small (n := 2) (by omega) (by omega))).has w6
  have hi1 := (intV_flat (i64_small (n := 1) (by omega) (by omega))).has w8
  have pa := (parts1 hi2).keep hb8
  have l6 : w6.heap.size < w8.heap.size := by have := hb8.size; simp at this; omega
  obtain ⟨w9, hw9⟩ : ∃ w9, w9 = w8.alloc (.cells #[.int .i64 2, .bool false, .int .i64 1, .float .f64 0, .string (st []), .slice none 0 0] 27) := ⟨_, rfl⟩
  obtain ⟨w10, hw10⟩ : ∃ w10, w10 = w9.alloc (.cells #[.slice (some ⟨w6.heap.size, 0, none⟩) 1 1, .slice (some ⟨w8.heap.size, 0, none⟩) 1 1] 22) := ⟨_, rfl⟩
  obtain ⟨w11, hw11⟩ : ∃ w11, w11 = w10.alloc (.cells #[.bool false] 4) := ⟨_, rfl⟩
  have s9 : w9.heap.size = w8.heap.size + 1 := hw9 ▸ alloc_grows _ _ rfl
  have s10 : w10.heap.size = w8.heap.size + 1 + 1 := hw10 ▸ alloc_grows _ _ s9
  have k9 : Below w8.heap.size w8 w9 := hw9 ▸ below_alloc w8 _
  have k10 : Below w9.heap.size w9 w10 := hw10 ▸ below_alloc w9 _
  have k11 : Below w10.heap.size w10 w11 := hw11 ▸ below_alloc w10 _
  have k810 := k9.trans (k10.mono k9.size)
  have k811 := k810.trans (k11.mono k810.size)
  have pa := pa.keep k811
  have pb : Parts w11 (some ⟨w8.heap.size, 0, none⟩) [intV 1] := ((hw9 ▸ parts1 hi1 : Parts w9 _ [intV 1]).keep k10).keep k11
  have hR : w11.heap[w8.heap.size + 1]? = _ := hw11 ▸ alloc_past _ (hw10 ▸ s9 ▸ alloc_here w9 _)
  have hQ : w11.heap[w8.heap.size + 1 + 1]? = _ := hw11 ▸ s10 ▸ alloc_here w10 _
  have rows : RowsV w11 (w8.heap.size + 1) [intV 2, intV 1] := by
    refine ⟨fun i x hi => ?_, (Array.getElem?_eq_some_iff.1 hR).1⟩
    match i, hi with
    | 0, hi => cases hi; exact ⟨_, 1, cell_of hR 0, pa, Nat.le_refl _, by unfold maxLen; omega⟩
    | 1, hi => cases hi; exact ⟨_, 1, cell_of hR 1, pb, Nat.le_refl _, by unfold maxLen; omega⟩
    | i + 2, hi => simp at hi
  have down : Down w11 (.slice (some ⟨w8.heap.size + 1 + 1, 0, none⟩) 1 1) true := .one _ (cell_of hQ 0) (Array.getElem?_eq_some_iff.1 hQ).1
  have co := order_c [intV 2, intV 1] (w8.heap.size + 1) 2 _ true w11 rows down (by decide) (by decide)
  have hwc : ((w8.alloc (.cells #[.int .i64 2, .bool false, .int .i64 1, .float .f64 0, .string (st []), .slice none 0 0] 27)).alloc (.cells #[.slice (some ⟨w6.heap.size, 0, none⟩) 1 1, .slice (some ⟨w8.heap.size, 0, none⟩) 1 1] 22)).alloc (.cells #[.bool false] 4) = w11 := by rw [hw11, hw10, hw9]
  have b58 : Below w5.heap.size w5 w8 := (hb6.alloc hb6.size _).trans (hb8.mono (by have := hb6.size; simp; omega))
  have b511 := b58.trans (k811.mono b58.size)
  have hx11 := hx5.keep b511
  have B11 := B5.trans (b511.mono B5.size)
  have co : Calls Try.prog 10 #[.slice (some ⟨w8.heap.size + 1, 0, none⟩) 2 2, .slice (some ⟨w8.heap.size + 1 + 1, 0, none⟩) 1 1] w11 (OrderEnds [intV 2, intV 1] true w11) := co
  clear hw9 hw10 hw11 k9 k10 k11 k810 k811 pa pb hR hQ rows down hi1 hi2 hb6 hb8 s9 s10 b58 b511 hx5 B5
  rw [hwc]
  refine co.mono ?_
  rintro e w12 ⟨D, rfl, hI, hb12⟩
  rw [show [intV 2, intV 1].length = 2 from rfl, wake_sort] at hI
  have B12 := B11.trans (hb12.mono B11.size)
  obtain ⟨x6, x0, x1, x2, x3, x4, x5⟩ := hx11.keep hb12
  have cD := hI.cell (i := 0) (by decide)
  have lD := hI.lt
  have cD : w12.cell? ⟨D, 0, none⟩ = some (.int .i64 1) := cD
  clear hI hb12 co hwc B11 hx11
  go_wp2_with fail
  go_ret
  exact ⟨rfl, B12⟩
end Go.Proofs.Ytipjelkdbbhcpaa
