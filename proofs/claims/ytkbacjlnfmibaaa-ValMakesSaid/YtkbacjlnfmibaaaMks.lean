
/-
  ValMakes: the constructors, the walk.
-/
import Derived.Test.YtkbacjlnfmibaaaCpy
import Derived.Test.YtkbacjlnfmibaaaOrd
import Derived.Test.YtkbacjlnfmibaaaValS
set_option linter.unusedSimpArgs false
set_option linter.unusedVariables false
namespace Go.Proofs.Ytkbacjlnfmibaaa
open Go.RowKit Go.Deep

set_option maxRecDepth 8000 in
theorem none_c (w : World) : Calls Try.prog 32 #[] w fun e w' => e = .returned (valV 0 false 0 0 [] none 0 0) ∧ Below w.heap.size w w' := by
  go_enter Try.func32, Try.ntmps32
  go_wp2
  obtain ⟨w1, hw1⟩ : ∃ w1, w1 = w.alloc (.cells #[.int .i64 0, .bool false, .int .i64 0, .float .f64 0, .string (st []), .slice none 0 0] 25) := ⟨_, rfl⟩
  have hB : Below w.heap.size w w1 := hw1 ▸ below_alloc w _
  obtain ⟨x6, x0, x1, x2, x3, x4, x5⟩ : Box w1 w.heap.size 0 false 0 0 [] none 0 0 := hw1 ▸ Box.new w 0 false 0 0 [] none 0 0 _
  rw [← hw1]
  clear hw1
  exact bodyPost_ret (v := valV 0 false 0 0 [] none 0 0) (by simp only [results, Try.results32]; go_simp) rfl ⟨rfl, hB⟩
set_option maxRecDepth 8000 in
theorem yes_c (b : Bool) (w : World) : Calls Try.prog 33 #[.bool b] w fun e w' => e = .returned (valV 1 b 0 0 [] none 0 0) ∧ Below w.heap.size w w' := by
  go_enter Try.func33, Try.ntmps33
  go_wp2
  obtain ⟨w1, hw1⟩ : ∃ w1, w1 = w.alloc (.cells #[.int .i64 1, .bool b, .int .i64 0, .float .f64 0, .string (st []), .slice none 0 0] 25) := ⟨_, rfl⟩
  have hB : Below w.heap.size w w1 := hw1 ▸ below_alloc w _
  obtain ⟨x6, x0, x1, x2, x3, x4, x5⟩ : Box w1 w.heap.size 1 b 0 0 [] none 0 0 := hw1 ▸ Box.new w 1 b 0 0 [] none 0 0 _
  rw [← hw1]
  clear hw1
  exact bodyPost_ret (v := valV 1 b 0 0 [] none 0 0) (by simp only [results, Try.results33]; go_simp) rfl ⟨rfl, hB⟩
set_option maxRecDepth 8000 in
theorem vertex_c (n : Int) (w : World) : Calls Try.prog 35 #[.int .i64 n] w fun e w' => e = .returned (valV 7 false n 0 [] none 0 0) ∧ Below w.heap.size w w' := by
  go_enter Try.func35, Try.ntmps35
  go_wp2
  obtain ⟨w1, hw1⟩ : ∃ w1, w1 = w.alloc (.cells #[.int .i64 7, .bool false, .int .i64 n, .float .f64 0, .string (st []), .slice none 0 0] 25) := ⟨_, rfl⟩
  have hB : Below w.heap.size w w1 := hw1 ▸ below_alloc w _
  obtain ⟨x6, x0, x1, x2, x3, x4, x5⟩ : Box w1 w.heap.size 7 false n 0 [] none 0 0 := hw1 ▸ Box.new w 7 false n 0 [] none 0 0 _
  rw [← hw1]
  clear hw1
  exact bodyPost_ret (v := valV 7 false n 0 [] none 0 0) (by simp only [results, Try.results35]; go_simp) rfl ⟨rfl, hB⟩
set_option maxRecDepth 8000 in
theorem edge_c (n : Int) (w : World) : Calls Try.prog 36 #[.int .i64 n] w fun e w' => e = .returned (valV 8 false n 0 [] none 0 0) ∧ Below w.heap.size w w' := by
  go_enter Try.func36, Try.ntmps36
  go_wp2
  obtain ⟨w1, hw1⟩ : ∃ w1, w1 = w.alloc (.cells #[.int .i64 8, .bool false, .int .i64 n, .float .f64 0, .string (st []), .slice none 0 0] 25) := ⟨_, rfl⟩
  have hB : Below w.heap.size w w1 := hw1 ▸ below_alloc w _
  obtain ⟨x6, x0, x1, x2, x3, x4, x5⟩ : Box w1 w.heap.size 8 false n 0 [] none 0 0 := hw1 ▸ Box.new w 8 false n 0 [] none 0 0 _
  rw [← hw1]
  clear hw1
  exact bodyPost_ret (v := valV 8 false n 0 [] none 0 0) (by simp only [results, Try.results36]; go_simp) rfl ⟨rfl, hB⟩
theorem Box.other {w w' : World} {g : Nat} {k : Int} {b : Bool} {n : Int} {f : Nat} {s : List UInt8} {B : Option Addr} {len c : Nat} (h : Box w g k b n f s B len c) (hs : w.heap.size ≤ w'.heap.size) (he : w'.heap[g]? = w.heap[g]?) : Box w' g k b n f s B len c := by
  have e : ∀ j, w'.cell? ⟨g, j, none⟩ = w.cell? ⟨g, j, none⟩ := fun j => by simp only [World.cell?, he]
  exact ⟨Nat.lt_of_lt_of_le h.lt hs, (e _).trans h.c0, (e _).trans h.c1, (e _).trans h.c2, (e _).trans h.c3, (e _).trans h.c4, (e _).trans h.c5⟩
theorem canon_u64 {x : Nat} (h : U64 x) : U64 (canon x) := by
  unfold canon
  split
  · exact ⟨by omega⟩
  · exact h
@[go_sem] theorem run_field0 (k : Int) (b : Bool) (n : Int) (f : Nat) (s : List UInt8) (A : Option Addr) (len cap : Nat) (w : World) : (Instr.field 25 (valV k b n f s A len cap) 0).run Try.prog w = .ok (.int .i64 k) w := by kernel_rfl
@[go_sem] theorem run_field1 (k : Int) (b : Bool) (n : Int) (f : Nat) (s : List UInt8) (A : Option Addr) (len cap : Nat) (w : World) : (Instr.field 25 (valV k b n f s A len cap) 1).run Try.prog w = .ok (.bool b) w := by kernel_rfl
@[go_sem] theorem run_field2 (k : Int) (b : Bool) (n : Int) (f : Nat) (s : List UInt8) (A : Option Addr) (len cap : Nat) (w : World) : (Instr.field 25 (valV k b n f s A len cap) 2).run Try.prog w = .ok (.int .i64 n) w := by kernel_rfl
@[go_sem] theorem run_field4 (k : Int) (b : Bool) (n : Int) (f : Nat) (s : List UInt8) (A : Option Addr) (len cap : Nat) (w : World) : (Instr.field 25 (valV k b n f s A len cap) 4).run Try.prog w = .ok (.string (st s)) w := by kernel_rfl
/-- what has no parts stands in every world -/
theorem Has.noParts {w : World} {u : Value} {k : Int} {b : Bool} {n : Int} {f : Nat} {s : List UInt8} (h : Has w u (.mk k b n f s [])) (w' : World) : Has w' u (.mk k b n f s []) := by
  cases h with
  | @mk k b n f s l A cap el hk hn hf hs hbb hl hm h hc => exact Has.mk el hk hn hf hs hbb hl hm (fun i x hx => by cases hx) (fun i hi => absurd hi (Nat.not_lt_zero _))

set_option maxRecDepth 8000 in
set_option maxHeartbeats 4000000 in
theorem valMakes_in (n : Int) (f : Nat) (s : List UInt8) (w : World) (hn : I64 n) (hf : U64 f) (hs : s.length ≤ 600) :
    ∀ t : List UInt8, (t.length ≤ maxLen) → (if 600 < t.length then t.take 600 else t) = s →
    Calls Try.prog 9 #[.int .i64 n, .float .f64 f, .string (st t)] w fun e w' => e = .returned (.bool true) ∧ Below w.heap.size w w' := by
  intro t ht hts
  unfold maxLen at ht
  have i2 : I64 (2 : Int) := ⟨by omega, by omega⟩
  have i4 : I64 (4 : Int) := ⟨by omega, by omega⟩
  have i5 : I64 (5 : Int) := ⟨by omega, by omega⟩
  have i0 : I64 (0 : Int) := ⟨by omega, by omega⟩
  have u0 : U64 0 := ⟨by omega⟩
  have ci := fun w => int_c n w
  have ct := fun w => text_c s w
  have hN : ∀ w, Has w (valV 2 false n 0 [] none 0 0) (oneV n) := fun w => flat_has w i2 hn u0 (by simp)
  have hT : ∀ w, Has w (valV 4 false 0 0 s none 0 0) (textV s) := fun w => flat_has w i4 i0 u0 (by omega)
  by_cases h20 : 600 < t.length
  · have h20' : (600 : Int) < t.length := by omega
    have h20l : (600 : Int) ≤ t.length := by omega
    rw [if_pos h20] at hts
    go_enter Try.func9, Try.ntmps9
    go_upto_region 4 with (first | ((with_reducible refine (ci _).mono ?_); rintro e w1 ⟨rfl, hb1⟩) | ((with_reducible refine (ct _).mono ?_); rintro e w2 ⟨rfl, hb2⟩))
    obtain ⟨w3, hw3⟩ : ∃ w3, w3 = w2.alloc (.cells #[.int .i64 2, .bool false, .int .i64 n, .float .f64 0, .string (st []), .slice none 0 0, .int .i64 4, .bool false, .int .i64 0, .float .f64 0, .string (st s), .slice none 0 0] 25) := ⟨_, rfl⟩
    have hp3 : Parts w3 (some ⟨w2.heap.size, 0, none⟩) [oneV n, textV s] := row2 (hN w2) (hT w2) hw3
    have k3 : Below w2.heap.size w2 w3 := hw3 ▸ below_alloc w2 _
    have hg3 : w2.heap.size < w3.heap.size := by rw [hw3, alloc_grows _ _ rfl]; exact Nat.lt_succ_self _
    have z3 : w3.heap[w2.heap.size]? = _ := hw3 ▸ alloc_here w2 _
    rw [show w2.alloc (.cells #[.int .i64 2, .bool false, .int .i64 n, .float .f64 0, .string ⟨#[]⟩, .slice none 0 0, .int .i64 4, .bool false, .int .i64 0, .float .f64 0, .string (st s), .slice none 0 0] 25) = w3 from by rw [hw3] <;> rfl]
    clear hw3
    have B3 := (hb1.trans (hb2.mono hb1.size)).trans (k3.mono (hb1.trans (hb2.mono hb1.size)).size)
    clear hb1 hb2 k3
    generalize w2.heap.size = g at *
    go_upto_region 5 with fail
    obtain ⟨w4, hw4⟩ : ∃ w4, w4 = w3.alloc (.cells #[.int .i64 5, .bool false, .int .i64 0, .float .f64 0, .string (st []), .slice (some ⟨g, 0, none⟩) 2 2] 25) := ⟨_, rfl⟩
    have k4 : Below w3.heap.size w3 w4 := hw4 ▸ below_alloc w3 _
    have hh4 : w3.heap.size < w4.heap.size := by rw [hw4, alloc_grows _ _ rfl]; exact Nat.lt_succ_self _
    have x4 : Box w4 w3.heap.size 5 false 0 0 [] (some ⟨g, 0, none⟩) 2 2 := hw4 ▸ Box.new w3 5 false 0 0 [] (some ⟨g, 0, none⟩) 2 2 _
    rw [show w3.alloc (.cells #[.int .i64 5, .bool false, .int .i64 0, .float .f64 0, .string ⟨#[]⟩, .slice (some ⟨g, 0, none⟩) 2 2] 25) = w4 from by rw [hw4] <;> rfl]
    clear hw4
    have z4 := (k4.block g hg3).trans z3
    have hp4 := hp3.keep k4
    have hv4 : Has w4 (valV 5 false 0 0 [] (some ⟨g, 0, none⟩) 2 2) (.mk 5 false 0 0 [] [oneV n, textV s]) := Has.ofParts (la := [oneV n, textV s]) hp4 i5 i0 u0 (by simp) (by simp) (by simp) (by unfold maxLen; omega)
    have B4 := B3.trans (k4.mono B3.size)
    have cc : Calls Try.prog 28 #[valV 5 false 0 0 [] (some ⟨g, 0, none⟩) 2 2] w4 fun e w' => ∃ R cs, e = .returned (valV 5 false 0 0 [] (some ⟨R, 0, none⟩) 2 2) ∧ Has w' (valV 5 false 0 0 [] (some ⟨R, 0, none⟩) 2 2) (.mk 5 false 0 0 [] [oneV n, textV s]) ∧ Below w4.heap.size w4 w' ∧ w4.heap.size ≤ R ∧ w'.heap[R]? = some (.cells cs 25) ∧ cs.size = 12 := by
      refine (copy_c _ _ w4 hv4 (by simp [wsz, wszL])).mono ?_
      rintro e w5 ⟨u5, rfl, hP5, hb5, A5, cap5, rfl, hR5⟩
      rcases hR5 with ⟨_, h⟩ | ⟨R, cs, rfl, rfl, hRw, hRc, hcs⟩
      · cases h
      · exact ⟨R, cs, rfl, hP5.has, hb5, hRw, hRc, hcs⟩
    clear hts
    have hg4 : g < w4.heap.size := by omega
    have x4h := Lib.hid x4
    obtain ⟨x6, x0, x1, x2, x3, x4, x5⟩ := x4
    clear z3 hp3 k4 B3
    go_upto_region 6 with ((with_reducible refine cc.mono ?_); rintro e w5 ⟨R, cs, rfl, hP5, hb5, hRw, hRc, hcs⟩)
    obtain ⟨A5', cap5', he5, -, -, -, -, -, -, -, hop5⟩ := hP5.open
    cases he5
    obtain ⟨C1, c1, hv5, hat5⟩ : ∃ C1 c1, Has w5 (valV 4 false 0 0 s C1 0 c1) (textV s) ∧ ValAt w5 ⟨R, 6, none⟩ 4 false 0 0 s C1 0 c1 := by
      obtain ⟨ad5, k1, b1, n1, f1, s1, C1, l1, c1, hA5, hv5, hat5⟩ := hop5 1 (textV s) rfl
      cases hA5
      obtain ⟨A1', cap1', he1, -⟩ := hv5.open
      cases he1
      exact ⟨_, _, hv5, hat5⟩
    clear hop5 cc
    obtain ⟨w6, hw6⟩ : ∃ w6, w6 = w5.alloc (.cells #[.int .i64 5, .bool false, .int .i64 0, .float .f64 0, .string (st []), .slice (some ⟨R, 0, none⟩) 2 2] 25) := ⟨_, rfl⟩
    have k6 : Below w5.heap.size w5 w6 := hw6 ▸ below_alloc w5 _
    have x6b : Box w6 w5.heap.size 5 false 0 0 [] (some ⟨R, 0, none⟩) 2 2 := hw6 ▸ Box.new w5 5 false 0 0 [] (some ⟨R, 0, none⟩) 2 2 _
    rw [show w5.alloc (.cells #[.int .i64 5, .bool false, .int .i64 0, .float .f64 0, .string ⟨#[]⟩, .slice (some ⟨R, 0, none⟩) 2 2] 25) = w6 from by rw [hw6] <;> rfl]
    clear hw6 x0 x1 x2 x3 x4 x5 x6
    have hRlt := (Array.getElem?_eq_some_iff.1 hRc).1
    have hRc6 := (k6.block R hRlt).trans hRc
    have hat6 := hat5.keep k6
    have k46 := hb5.trans (k6.mono hb5.size)
    have x6bh := Lib.hid x6b
    obtain ⟨x6, x0, x1, x2, x3, x4, x5⟩ := x6b
    obtain ⟨old, hR2⟩ : ∃ old, w6.cell? ⟨R, 2, none⟩ = some old := ⟨cs[2]'(by rw [hcs]; decide), by rw [cell_of hRc6]; simp⟩
    have hRf : w6.frozen? ⟨R, 2, none⟩ = false := frozen_of hRc6 2
    have hR6 := (Array.getElem?_eq_some_iff.1 hRc6).1
    have hat6h := Lib.hid hat6
    clear hat6 hat5 hRc hcs hb5
    have B6 := B4.trans (k46.mono B4.size)
    go_upto_region 8 with fail
    generalize bits BinOp.xor IntKind.i64 n 1 = X
    obtain ⟨w7, hw7⟩ : ∃ w7, w7 = w6.setCell ⟨R, 2, none⟩ (.int .i64 X) := ⟨_, rfl⟩
    rw [← hw7]
    have k47 : Below w4.heap.size w4 w7 := hw7 ▸ k46.setCell (p := ⟨R, 2, none⟩) hRw _
    have s67 : w7.heap.size = w6.heap.size := by rw [hw7]; simp [World.setCell]
    have x7v := x4h.out.keep k47
    have z7 := (k47.block g hg4).trans z4
    have q7 := fun j => cell_of z7 j
    have lg7 := (Array.getElem?_eq_some_iff.1 z7).1
    have x7c : Box w7 w5.heap.size 5 false 0 0 [] (some ⟨R, 0, none⟩) 2 2 := Box.other x6bh.out (by rw [s67]; exact Nat.le_refl _) (by rw [hw7]; exact set_past (by omega) _ _)
    have a7 : ValAt w7 ⟨R, 6, none⟩ 4 false 0 0 s C1 0 c1 := by
      obtain ⟨h6, h0, h1, h2, h3, h4, h5⟩ := hat6h.out
      constructor
      · rw [s67]; exact h6
      all_goals (simp [hw7, go_sem, h0, h1, h2, h3, h4, h5] <;> assumption)
    have hv7 := hv4.keep k47
    have B7 := B4.trans (k47.mono B4.size)
    clear hw7 x0 x1 x2 x3 x4 x5 x6 k46 k6 hRc6 hat6h hR2 hRf hR6 s67 B6 z4 z7 hP5 x4h x6bh
    obtain ⟨x6, x0, x1, x2, x3, x4, x5⟩ := x7v
    obtain ⟨y6, y0, y1, y2, y3, y4, y5⟩ := x7c
    obtain ⟨r6, r0, r1, r2, r3, r4, r5⟩ := a7
    have d1 : ∀ p : In w7, Calls Try.prog 12 #[] p.w fun e w' => e = .returned (.bool true) ∧ Below p.w.heap.size p.w w' := fun p => awake_c p.w
    have d2 : ∀ p : In w7, Calls Try.prog 32 #[] p.w fun e w' => e = .returned (valV 0 false 0 0 [] none 0 0) ∧ Below p.w.heap.size p.w w' := fun p => none_c p.w
    have d3 : ∀ p : In w7, Calls Try.prog 18 #[valV 0 false 0 0 [] none 0 0, valV 0 false 0 0 [] none 0 0] p.w fun e w' => e = .returned (.bool true) ∧ Below p.w.heap.size p.w w' := fun p => by
      have := rsame_c (.mk 0 false 0 0 [] []) (.mk 0 false 0 0 [] []) _ _ p.w (flat_has p.w i0 i0 u0 (by simp)) (flat_has p.w i0 i0 u0 (by simp))
      rwa [sameV_self] at this
    have d4 : ∀ (p : In w7) (b : Bool), Calls Try.prog 33 #[.bool b] p.w fun e w' => e = .returned (valV 1 b 0 0 [] none 0 0) ∧ Below p.w.heap.size p.w w' := fun p b => yes_c b p.w
    have d5 : ∀ p : In w7, Calls Try.prog 30 #[.int .i64 n] p.w fun e w' => e = .returned (valV 2 false n 0 [] none 0 0) ∧ Below p.w.heap.size p.w w' := fun p => int_c n p.w
    have d6 : ∀ p : In w7, Calls Try.prog 34 #[.float .f64 f] p.w fun e w' => e = .returned (valV 3 false 0 (canon f) [] none 0 0) ∧ Below p.w.heap.size p.w w' := fun p => float_c f p.w
    have d7 : ∀ p : In w7, Calls Try.prog 18 #[valV 3 false 0 (canon f) [] none 0 0, valV 3 false 0 f [] none 0 0] p.w fun e w' => e = .returned (.bool true) ∧ Below p.w.heap.size p.w w' := fun p => by
      have i3 : I64 (3 : Int) := ⟨by omega, by omega⟩
      have := rsame_c (floatV (canon f)) (floatV f) _ _ p.w (flat_has p.w i3 i0 (canon_u64 hf) (by simp)) (flat_has p.w i3 i0 hf (by simp))
      rwa [show sameV (floatV (canon f)) (floatV f) = true from by simp [sameV, sameVL, canon_canon]] at this
    have d8 : ∀ p : In w7, Calls Try.prog 31 #[.string (st s)] p.w fun e w' => e = .returned (valV 4 false 0 0 s none 0 0) ∧ Below p.w.heap.size p.w w' := fun p => text_c s p.w
    have d9 : ∀ p : In w7, Calls Try.prog 35 #[.int .i64 n] p.w fun e w' => e = .returned (valV 7 false n 0 [] none 0 0) ∧ Below p.w.heap.size p.w w' := fun p => vertex_c n p.w
    have d10 : ∀ p : In w7, Calls Try.prog 36 #[.int .i64 n] p.w fun e w' => e = .returned (valV 8 false n 0 [] none 0 0) ∧ Below p.w.heap.size p.w w' := fun p => edge_c n p.w
    have d11 : ∀ p : In w7, Calls Try.prog 18 #[valV 4 false 0 0 s C1 0 c1, valV 4 false 0 0 s none 0 0] p.w fun e w' => e = .returned (.bool true) ∧ Below p.w.heap.size p.w w' := fun p => by
      have := rsame_c (textV s) (textV s) _ _ p.w (hv5.noParts p.w) (hT p.w)
      rwa [sameV_self] at this
    have d12 : ∀ p : In w7, Calls Try.prog 37 #[.slice (some ⟨g, 0, none⟩) 2 2] p.w fun e w' => e = .returned (valV 5 false 0 0 [] (some ⟨g, 0, none⟩) 2 2) ∧ Below p.w.heap.size p.w w' := fun p => list_c _ _ _ p.w
    have d13 : ∀ p : In w7, Calls Try.prog 18 #[valV 5 false 0 0 [] (some ⟨g, 0, none⟩) 2 2, valV 5 false 0 0 [] (some ⟨g, 0, none⟩) 2 2] p.w fun e w' => e = .returned (.bool true) ∧ Below p.w.heap.size p.w w' := fun p => by
      have := rsame_c _ _ _ _ p.w (hv7.keep p.h) (hv7.keep p.h)
      rwa [sameV_self] at this
    clear hv7 hv5 hv4 hp4 k47 ci ct hN hT B4 i0 i2 i4 i5 u0 hf hn
    try simp only [List.append_eq, List.cons_append, List.nil_append]
    refine wp_region_flow [] (by kernel_rfl) (by kernel_rfl) ?_
    repeat (((with_reducible refine wpFlow_steps ?_); intro K hK; go_simp; first | (with_reducible refine hK _ ?_; clear hK K) | (apply Exists.intro; (with_reducible refine ⟨fun _ => ⟨?_, _, rfl⟩, hK _ ?_⟩); (· exact rfl); clear hK K) | (apply Exists.intro; (with_reducible refine ⟨fun _ => ⟨_, rfl⟩, hK _ ?_⟩); clear hK K) | (apply Exists.intro; (with_reducible refine ⟨fun _ => ?_, hK _ ?_⟩); (· (with_reducible (first | exact d1 _ | exact d2 _ | exact d3 _ | exact d4 _ _ | exact d5 _ | exact d6 _ | exact d7 _ | exact d8 _ | exact d9 _ | exact d10 _ | exact d11 _ | exact d12 _ | exact d13 _))); clear hK K)))
    (refine wpFlow_nil ?_; rintro w1 ⟨q0, hq0⟩; have hb := In.h q0; rw [← hq0] at hb; clear hq0 q0; (first | ((with_reducible obtain ⟨p, hw''⟩ := In.of2 p hb); subst hw'') | (obtain ⟨p, hw''⟩ := In.of hb; subst hw'')); go_simp; intros)
    go_wp2_with fail
    go_ret
    exact ⟨rfl, p.back B7⟩
  · have h20' : ¬ (600 : Int) < t.length := by omega
    rw [if_neg h20] at hts
    have hts' := hts.symm
    clear hts
    subst hts'
    go_enter Try.func9, Try.ntmps9
    go_upto_region 4 with (first | ((with_reducible refine (ci _).mono ?_); rintro e w1 ⟨rfl, hb1⟩) | ((with_reducible refine (ct _).mono ?_); rintro e w2 ⟨rfl, hb2⟩))
    obtain ⟨w3, hw3⟩ : ∃ w3, w3 = w2.alloc (.cells #[.int .i64 2, .bool false, .int .i64 n, .float .f64 0, .string (st []), .slice none 0 0, .int .i64 4, .bool false, .int .i64 0, .float .f64 0, .string (st s), .slice none 0 0] 25) := ⟨_, rfl⟩
    have hp3 : Parts w3 (some ⟨w2.heap.size, 0, none⟩) [oneV n, textV s] := row2 (hN w2) (hT w2) hw3
    have k3 : Below w2.heap.size w2 w3 := hw3 ▸ below_alloc w2 _
    have hg3 : w2.heap.size < w3.heap.size := by rw [hw3, alloc_grows _ _ rfl]; exact Nat.lt_succ_self _
    have z3 : w3.heap[w2.heap.size]? = _ := hw3 ▸ alloc_here w2 _
    rw [show w2.alloc (.cells #[.int .i64 2, .bool false, .int .i64 n, .float .f64 0, .string ⟨#[]⟩, .slice none 0 0, .int .i64 4, .bool false, .int .i64 0, .float .f64 0, .string (st s), .slice none 0 0] 25) = w3 from by rw [hw3] <;> rfl]
    clear hw3
    have B3 := (hb1.trans (hb2.mono hb1.size)).trans (k3.mono (hb1.trans (hb2.mono hb1.size)).size)
    clear hb1 hb2 k3
    generalize w2.heap.size = g at *
    go_upto_region 5 with fail
    obtain ⟨w4, hw4⟩ : ∃ w4, w4 = w3.alloc (.cells #[.int .i64 5, .bool false, .int .i64 0, .float .f64 0, .string (st []), .slice (some ⟨g, 0, none⟩) 2 2] 25) := ⟨_, rfl⟩
    have k4 : Below w3.heap.size w3 w4 := hw4 ▸ below_alloc w3 _
    have hh4 : w3.heap.size < w4.heap.size := by rw [hw4, alloc_grows _ _ rfl]; exact Nat.lt_succ_self _
    have x4 : Box w4 w3.heap.size 5 false 0 0 [] (some ⟨g, 0, none⟩) 2 2 := hw4 ▸ Box.new w3 5 false 0 0 [] (some ⟨g, 0, none⟩) 2 2 _
    rw [show w3.alloc (.cells #[.int .i64 5, .bool false, .int .i64 0, .float .f64 0, .string ⟨#[]⟩, .slice (some ⟨g, 0, none⟩) 2 2] 25) = w4 from by rw [hw4] <;> rfl]
    clear hw4
    have z4 := (k4.block g hg3).trans z3
    have hp4 := hp3.keep k4
    have hv4 : Has w4 (valV 5 false 0 0 [] (some ⟨g, 0, none⟩) 2 2) (.mk 5 false 0 0 [] [oneV n, textV s]) := Has.ofParts (la := [oneV n, textV s]) hp4 i5 i0 u0 (by simp) (by simp) (by simp) (by unfold maxLen; omega)
    have B4 := B3.trans (k4.mono B3.size)
    have cc : Calls Try.prog 28 #[valV 5 false 0 0 [] (some ⟨g, 0, none⟩) 2 2] w4 fun e w' => ∃ R cs, e = .returned (valV 5 false 0 0 [] (some ⟨R, 0, none⟩) 2 2) ∧ Has w' (valV 5 false 0 0 [] (some ⟨R, 0, none⟩) 2 2) (.mk 5 false 0 0 [] [oneV n, textV s]) ∧ Below w4.heap.size w4 w' ∧ w4.heap.size ≤ R ∧ w'.heap[R]? = some (.cells cs 25) ∧ cs.size = 12 := by
      refine (copy_c _ _ w4 hv4 (by simp [wsz, wszL])).mono ?_
      rintro e w5 ⟨u5, rfl, hP5, hb5, A5, cap5, rfl, hR5⟩
      rcases hR5 with ⟨_, h⟩ | ⟨R, cs, rfl, rfl, hRw, hRc, hcs⟩
      · cases h
      · exact ⟨R, cs, rfl, hP5.has, hb5, hRw, hRc, hcs⟩
    have hg4 : g < w4.heap.size := by omega
    have x4h := Lib.hid x4
    obtain ⟨x6, x0, x1, x2, x3, x4, x5⟩ := x4
    clear z3 hp3 k4 B3
    go_upto_region 6 with ((with_reducible refine cc.mono ?_); rintro e w5 ⟨R, cs, rfl, hP5, hb5, hRw, hRc, hcs⟩)
    obtain ⟨A5', cap5', he5, -, -, -, -, -, -, -, hop5⟩ := hP5.open
    cases he5
    obtain ⟨C1, c1, hv5, hat5⟩ : ∃ C1 c1, Has w5 (valV 4 false 0 0 s C1 0 c1) (textV s) ∧ ValAt w5 ⟨R, 6, none⟩ 4 false 0 0 s C1 0 c1 := by
      obtain ⟨ad5, k1, b1, n1, f1, s1, C1, l1, c1, hA5, hv5, hat5⟩ := hop5 1 (textV s) rfl
      cases hA5
      obtain ⟨A1', cap1', he1, -⟩ := hv5.open
      cases he1
      exact ⟨_, _, hv5, hat5⟩
    clear hop5 cc
    obtain ⟨w6, hw6⟩ : ∃ w6, w6 = w5.alloc (.cells #[.int .i64 5, .bool false, .int .i64 0, .float .f64 0, .string (st []), .slice (some ⟨R, 0, none⟩) 2 2] 25) := ⟨_, rfl⟩
    have k6 : Below w5.heap.size w5 w6 := hw6 ▸ below_alloc w5 _
    have x6b : Box w6 w5.heap.size 5 false 0 0 [] (some ⟨R, 0, none⟩) 2 2 := hw6 ▸ Box.new w5 5 false 0 0 [] (some ⟨R, 0, none⟩) 2 2 _
    rw [show w5.alloc (.cells #[.int .i64 5, .bool false, .int .i64 0, .float .f64 0, .string ⟨#[]⟩, .slice (some ⟨R, 0, none⟩) 2 2] 25) = w6 from by rw [hw6] <;> rfl]
    clear hw6 x0 x1 x2 x3 x4 x5 x6
    have hRlt := (Array.getElem?_eq_some_iff.1 hRc).1
    have hRc6 := (k6.block R hRlt).trans hRc
    have hat6 := hat5.keep k6
    have k46 := hb5.trans (k6.mono hb5.size)
    have x6bh := Lib.hid x6b
    obtain ⟨x6, x0, x1, x2, x3, x4, x5⟩ := x6b
    obtain ⟨old, hR2⟩ : ∃ old, w6.cell? ⟨R, 2, none⟩ = some old := ⟨cs[2]'(by rw [hcs]; decide), by rw [cell_of hRc6]; simp⟩
    have hRf : w6.frozen? ⟨R, 2, none⟩ = false := frozen_of hRc6 2
    have hR6 := (Array.getElem?_eq_some_iff.1 hRc6).1
    have hat6h := Lib.hid hat6
    clear hat6 hat5 hRc hcs hb5
    have B6 := B4.trans (k46.mono B4.size)
    go_upto_region 8 with fail
    generalize bits BinOp.xor IntKind.i64 n 1 = X
    obtain ⟨w7, hw7⟩ : ∃ w7, w7 = w6.setCell ⟨R, 2, none⟩ (.int .i64 X) := ⟨_, rfl⟩
    rw [← hw7]
    have k47 : Below w4.heap.size w4 w7 := hw7 ▸ k46.setCell (p := ⟨R, 2, none⟩) hRw _
    have s67 : w7.heap.size = w6.heap.size := by rw [hw7]; simp [World.setCell]
    have x7v := x4h.out.keep k47
    have z7 := (k47.block g hg4).trans z4
    have q7 := fun j => cell_of z7 j
    have lg7 := (Array.getElem?_eq_some_iff.1 z7).1
    have x7c : Box w7 w5.heap.size 5 false 0 0 [] (some ⟨R, 0, none⟩) 2 2 := Box.other x6bh.out (by rw [s67]; exact Nat.le_refl _) (by rw [hw7]; exact set_past (by omega) _ _)
    have a7 : ValAt w7 ⟨R, 6, none⟩ 4 false 0 0 s C1 0 c1 := by
      obtain ⟨h6, h0, h1, h2, h3, h4, h5⟩ := hat6h.out
      constructor
      · rw [s67]; exact h6
      all_goals (simp [hw7, go_sem, h0, h1, h2, h3, h4, h5] <;> assumption)
    have hv7 := hv4.keep k47
    have B7 := B4.trans (k47.mono B4.size)
    clear hw7 x0 x1 x2 x3 x4 x5 x6 k46 k6 hRc6 hat6h hR2 hRf hR6 s67 B6 z4 z7 hP5 x4h x6bh
    obtain ⟨x6, x0, x1, x2, x3, x4, x5⟩ := x7v
    obtain ⟨y6, y0, y1, y2, y3, y4, y5⟩ := x7c
    obtain ⟨r6, r0, r1, r2, r3, r4, r5⟩ := a7
    have d1 : ∀ p : In w7, Calls Try.prog 12 #[] p.w fun e w' => e = .returned (.bool true) ∧ Below p.w.heap.size p.w w' := fun p => awake_c p.w
    have d2 : ∀ p : In w7, Calls Try.prog 32 #[] p.w fun e w' => e = .returned (valV 0 false 0 0 [] none 0 0) ∧ Below p.w.heap.size p.w w' := fun p => none_c p.w
    have d3 : ∀ p : In w7, Calls Try.prog 18 #[valV 0 false 0 0 [] none 0 0, valV 0 false 0 0 [] none 0 0] p.w fun e w' => e = .returned (.bool true) ∧ Below p.w.heap.size p.w w' := fun p => by
      have := rsame_c (.mk 0 false 0 0 [] []) (.mk 0 false 0 0 [] []) _ _ p.w (flat_has p.w i0 i0 u0 (by simp)) (flat_has p.w i0 i0 u0 (by simp))
      rwa [sameV_self] at this
    have d4 : ∀ (p : In w7) (b : Bool), Calls Try.prog 33 #[.bool b] p.w fun e w' => e = .returned (valV 1 b 0 0 [] none 0 0) ∧ Below p.w.heap.size p.w w' := fun p b => yes_c b p.w
    have d5 : ∀ p : In w7, Calls Try.prog 30 #[.int .i64 n] p.w fun e w' => e = .returned (valV 2 false n 0 [] none 0 0) ∧ Below p.w.heap.size p.w w' := fun p => int_c n p.w
    have d6 : ∀ p : In w7, Calls Try.prog 34 #[.float .f64 f] p.w fun e w' => e = .returned (valV 3 false 0 (canon f) [] none 0 0) ∧ Below p.w.heap.size p.w w' := fun p => float_c f p.w
    have d7 : ∀ p : In w7, Calls Try.prog 18 #[valV 3 false 0 (canon f) [] none 0 0, valV 3 false 0 f [] none 0 0] p.w fun e w' => e = .returned (.bool true) ∧ Below p.w.heap.size p.w w' := fun p => by
      have i3 : I64 (3 : Int) := ⟨by omega, by omega⟩
      have := rsame_c (floatV (canon f)) (floatV f) _ _ p.w (flat_has p.w i3 i0 (canon_u64 hf) (by simp)) (flat_has p.w i3 i0 hf (by simp))
      rwa [show sameV (floatV (canon f)) (floatV f) = true from by simp [sameV, sameVL, canon_canon]] at this
    have d8 : ∀ p : In w7, Calls Try.prog 31 #[.string (st s)] p.w fun e w' => e = .returned (valV 4 false 0 0 s none 0 0) ∧ Below p.w.heap.size p.w w' := fun p => text_c s p.w
    have d9 : ∀ p : In w7, Calls Try.prog 35 #[.int .i64 n] p.w fun e w' => e = .returned (valV 7 false n 0 [] none 0 0) ∧ Below p.w.heap.size p.w w' := fun p => vertex_c n p.w
    have d10 : ∀ p : In w7, Calls Try.prog 36 #[.int .i64 n] p.w fun e w' => e = .returned (valV 8 false n 0 [] none 0 0) ∧ Below p.w.heap.size p.w w' := fun p => edge_c n p.w
    have d11 : ∀ p : In w7, Calls Try.prog 18 #[valV 4 false 0 0 s C1 0 c1, valV 4 false 0 0 s none 0 0] p.w fun e w' => e = .returned (.bool true) ∧ Below p.w.heap.size p.w w' := fun p => by
      have := rsame_c (textV s) (textV s) _ _ p.w (hv5.noParts p.w) (hT p.w)
      rwa [sameV_self] at this
    have d12 : ∀ p : In w7, Calls Try.prog 37 #[.slice (some ⟨g, 0, none⟩) 2 2] p.w fun e w' => e = .returned (valV 5 false 0 0 [] (some ⟨g, 0, none⟩) 2 2) ∧ Below p.w.heap.size p.w w' := fun p => list_c _ _ _ p.w
    have d13 : ∀ p : In w7, Calls Try.prog 18 #[valV 5 false 0 0 [] (some ⟨g, 0, none⟩) 2 2, valV 5 false 0 0 [] (some ⟨g, 0, none⟩) 2 2] p.w fun e w' => e = .returned (.bool true) ∧ Below p.w.heap.size p.w w' := fun p => by
      have := rsame_c _ _ _ _ p.w (hv7.keep p.h) (hv7.keep p.h)
      rwa [sameV_self] at this
    clear hv7 hv5 hv4 hp4 k47 ci ct hN hT B4 i0 i2 i4 i5 u0 hf hn
    try simp only [List.append_eq, List.cons_append, List.nil_append]
    refine wp_region_flow [] (by kernel_rfl) (by kernel_rfl) ?_
    repeat (((with_reducible refine wpFlow_steps ?_); intro K hK; go_simp; first | (with_reducible refine hK _ ?_; clear hK K) | (apply Exists.intro; (with_reducible refine ⟨fun _ => ⟨?_, _, rfl⟩, hK _ ?_⟩); (· exact rfl); clear hK K) | (apply Exists.intro; (with_reducible refine ⟨fun _ => ⟨_, rfl⟩, hK _ ?_⟩); clear hK K) | (apply Exists.intro; (with_reducible refine ⟨fun _ => ?_, hK _ ?_⟩); (· (with_reducible (first | exact d1 _ | exact d2 _ | exact d3 _ | exact d4 _ _ | exact d5 _ | exact d6 _ | exact d7 _ | exact d8 _ | exact d9 _ | exact d10 _ | exact d11 _ | exact d12 _ | exact d13 _))); clear hK K)))
    (refine wpFlow_nil ?_; rintro w1 ⟨q0, hq0⟩; have hb := In.h q0; rw [← hq0] at hb; clear hq0 q0; (first | ((with_reducible obtain ⟨p, hw''⟩ := In.of2 p hb); subst hw'') | (obtain ⟨p, hw''⟩ := In.of hb; subst hw'')); go_simp; intros)
    go_wp2_with fail
    go_ret
    exact ⟨rfl, p.back B7⟩
theorem valMakes_walk (n : Int) (f : Nat) (t : List UInt8) (w : World) (hn : I64 n) (hf : U64 f) (ht : t.length ≤ maxLen) :
    Calls Try.prog 9 #[.int .i64 n, .float .f64 f, .string (st t)] w fun e w' => e = .returned (.bool true) ∧ Below w.heap.size w w' := by
  refine valMakes_in n f (if 600 < t.length then t.take 600 else t) w hn hf ?_ t ht rfl
  split
  · rw [List.length_take]; omega
  · omega
end Go.Proofs.Ytkbacjlnfmibaaa
