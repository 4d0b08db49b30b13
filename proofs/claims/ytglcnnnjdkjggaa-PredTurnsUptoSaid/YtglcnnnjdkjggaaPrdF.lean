
/-
  Predicates: awake.
-/
import Derived.Test.YtglcnnnjdkjggaaPrdC
set_option linter.unusedSimpArgs false
set_option linter.unusedVariables false
namespace Go.Proofs.Ytglcnnnjdkjggaa
open Go.RowKit

theorem flat_has (w : World) {k : Int} {b : Bool} {n : Int} {f : Nat} {s : List UInt8} (hk : I64 k) (hn : I64 n) (hf : U64 f) (hs : s.length ≤ 140737488351232) : Has w (valV k b n f s none 0 0) (.mk k b n f s []) :=
  Has.mk (l := []) (A := none) (cap := 0) (fun _ => .bool false) hk hn hf hs (by simp) (by simp) (by simp [maxLen]) (fun i x h => by cases h) (fun i h => absurd h (Nat.not_lt_zero _))
theorem parts1 {w : World} {k : Int} {b : Bool} {n : Int} {f : Nat} {s : List UInt8} {v : Val} {g : Nat} (hb : Box w g k b n f s none 0 0) (h : Has w (valV k b n f s none 0 0) v) : Parts w (some ⟨g, 0, none⟩) [v] := by
  intro i x hi
  match i, hi with
  | 0, hi =>
    simp at hi
    subst hi
    obtain ⟨x6, x0, x1, x2, x3, x4, x5⟩ := hb
    exact ⟨⟨g, 0, none⟩, k, b, n, f, s, none, 0, 0, rfl, h, ⟨x6, x0, x1, x2, x3, x4, x5⟩⟩
  | i + 1, hi => simp at hi
abbrev intV (n : Int) : Val := .mk 2 false n 0 [] []
abbrev floV (f : Nat) : Val := .mk 3 false 0 f [] []
abbrev texV (s : List UInt8) : Val := .mk 4 false 0 0 s []
theorem check_int (n : Int) : CheckV (intV n) = 0 := by
  simp [CheckV, checkV, checkVL, shape, bsz, bszL]
theorem check_flo (f : Nat) : CheckV (floV f) = 0 := by
  simp [CheckV, checkV, checkVL, shape, bsz, bszL]
theorem check_tex (s : List UInt8) (h : s.length ≤ 500) : CheckV (texV s) = 0 := by
  have h2 : ¬ 500 < s.length := by omega
  simp [CheckV, checkV, checkVL, shape, bsz, bszL, h2]
  omega
set_option maxRecDepth 8000 in
set_option maxHeartbeats 1000000 in
theorem pcheckWhat_c (w : World) : Calls Try.prog 15 #[predV [119, 104, 97, 116] none 0 0 none 0 0, .int .i64 1] w fun e w' => e = .returned (.bool false) ∧ Below w.heap.size w w' := by
  have cp := fun w => predsWhat_c w
  go_enter Try.func15, Try.ntmps15
  go_upto_region 1 with fail
  obtain ⟨w1, hw1⟩ : ∃ w1, w1 = (w.alloc (.cells #[.string (st [119, 104, 97, 116]), .slice none 0 0, .slice none 0 0] 25)).alloc (.cells #[.int .i64 1] 3) := ⟨_, rfl⟩
  have bk : Below w.heap.size w w1 := hw1 ▸ (below_alloc w _).alloc (by simp) _
  have x6 : w.heap.size + 1 < w1.heap.size := by rw [hw1]; simp
  have x0 : w1.cell? ⟨w.heap.size, 0, none⟩ = some (.string (st [119, 104, 97, 116])) := by rw [hw1]; simp [go_sem]
  have y0 : w1.cell? ⟨w.heap.size + 1, 0, none⟩ = some (.int .i64 1) := by rw [hw1]; simp [go_sem]
  have x7 : w.heap.size < w1.heap.size := by omega
  rw [← hw1]
  clear hw1
  go_wp2_with ((with_reducible refine (cp _).mono ?_); rintro e w2 ⟨rfl, hb2⟩; (first | ((with_reducible obtain ⟨p, hw''⟩ := In.of2 p hb2); subst hw'') | (obtain ⟨p, hw''⟩ := In.of hb2; subst hw'')))
  go_ret
  exact ⟨rfl, p.back bk⟩
set_option maxRecDepth 8000 in
theorem pCheckWhat_c (w : World) : Calls Try.prog 9 #[predV [119, 104, 97, 116] none 0 0 none 0 0] w fun e w' => e = .returned (.bool false) ∧ Below w.heap.size w w' := by
  have cs := fun w => pcheckWhat_c w
  go_enter Try.func9, Try.ntmps9
  go_wp2_with ((with_reducible refine (cs _).mono ?_); rintro e w2 ⟨rfl, hb2⟩)
  go_ret
  exact ⟨rfl, (below_alloc _ _).trans (hb2.mono (below_alloc _ _).size)⟩
set_option maxRecDepth 8000 in
set_option maxHeartbeats 1000000 in
theorem awake_c (w : World) : Calls Try.prog 7 #[] w fun e w' => e = .returned (.bool true) ∧ Below w.heap.size w w' := by
  have i2 : I64 (2 : Int) := ⟨by omega, by omega⟩
  have i1 : I64 (1 : Int) := ⟨by omega, by omega⟩
  have u0 : U64 0 := ⟨by omega⟩
  have h6 : Six [103, 116] := by unfold Six; simp
  go_enter Try.func7, Try.ntmps7
  go_upto_region 3 with fail
  obtain ⟨w1, hw1⟩ : ∃ w1, w1 = (((w.alloc (.cells #[.int .i64 2, .bool false, .int .i64 1, .float .f64 0, .string ⟨#[]⟩, .slice none 0 0] 31)).alloc (.cells #[.int .i64 2, .bool false, .int .i64 2, .float .f64 0, .string ⟨#[]⟩, .slice none 0 0] 31)).alloc (.cells #[.int .i64 2, .bool false, .int .i64 1, .float .f64 0, .string ⟨#[]⟩, .slice none 0 0] 31)).alloc (.cells #[.string ⟨#[103, 116]⟩, .slice (some ⟨w.heap.size + 1 + 1, 0, none⟩) 1 1, .slice none 0 0] 25) := ⟨_, rfl⟩
  have bk : Below w.heap.size w w1 := hw1 ▸ (((below_alloc w _).alloc (by simp) _).alloc (by simp <;> omega) _).alloc (by simp <;> omega) _
  have xa : Box w1 w.heap.size 2 false 1 0 [] none 0 0 := by constructor <;> (rw [hw1]; simp [go_sem]) <;> rfl
  have xb : Box w1 (w.heap.size + 1) 2 false 2 0 [] none 0 0 := by constructor <;> (rw [hw1]; simp [go_sem]) <;> rfl
  have xc : Box w1 (w.heap.size + 1 + 1) 2 false 1 0 [] none 0 0 := by constructor <;> (rw [hw1]; simp [go_sem]) <;> rfl
  have hs : w.heap.size + 1 + 1 + 1 < w1.heap.size := by rw [hw1]; simp
  have z0 : w1.cell? ⟨w.heap.size + 1 + 1 + 1, 0, none⟩ = some (.string (st [103, 116])) := by rw [hw1]; simp [go_sem]
  have z1 : w1.cell? ⟨w.heap.size + 1 + 1 + 1, 1, none⟩ = some (.slice (some ⟨w.heap.size + 1 + 1, 0, none⟩) 1 1) := by rw [hw1]; simp [go_sem]
  have z2 : w1.cell? ⟨w.heap.size + 1 + 1 + 1, 2, none⟩ = some (.slice none 0 0) := by rw [hw1]; simp [go_sem]
  rw [← hw1]
  clear hw1
  have hp := parts1 xc (flat_has w1 i2 i1 u0 (s := []) (by simp) : Has w1 _ (intV 1))
  have c1 := pCheck_c [103, 116] h6.one (intV 1) (some ⟨w.heap.size + 1 + 1, 0, none⟩) 1 w1 hp
  rw [check_int] at c1
  have c2 : ∀ p : In w1, Calls Try.prog 11 #[predV [103, 116] (some ⟨w.heap.size + 1 + 1, 0, none⟩) 1 1 none 0 0, valV 2 false 2 0 [] none 0 0] p.w fun e w' => e = .returned (.bool true) ∧ Below p.w.heap.size p.w w' := fun p =>
    pHolds_c [103, 116] h6 _ (intV 2) (intV 1) _ 1 p.w (flat_has p.w i2 i2 u0 (by simp)) (hp.keep p.h) (check_int 1)
  have c3 : ∀ p : In w1, Calls Try.prog 11 #[predV [103, 116] (some ⟨w.heap.size + 1 + 1, 0, none⟩) 1 1 none 0 0, valV 2 false 1 0 [] none 0 0] p.w fun e w' => e = .returned (.bool false) ∧ Below p.w.heap.size p.w w' := fun p =>
    pHolds_c [103, 116] h6 _ (intV 1) (intV 1) _ 1 p.w (flat_has p.w i2 i1 u0 (by simp)) (hp.keep p.h) (check_int 1)
  have c4 := fun w => pCheckWhat_c w
  obtain ⟨x6, x0, x1, x2, x3, x4, x5⟩ := xa
  obtain ⟨y6, y0, y1, y2, y3, y4, y5⟩ := xb
  clear xc hp h6
  have c1 : Calls Try.prog 9 #[predV [103, 116] (some ⟨w.heap.size + 1 + 1, 0, none⟩) 1 1 none 0 0] w1 fun e w' => e = .returned (.bool true) ∧ Below w1.heap.size w1 w' := c1
  go_wp2_with (first | ((with_reducible refine c1.mono ?_); rintro e w2 ⟨rfl, hb2⟩; (first | ((with_reducible obtain ⟨p, hw''⟩ := In.of2 p hb2); subst hw'') | (obtain ⟨p, hw''⟩ := In.of hb2; subst hw''))) | ((with_reducible refine (c2 _).mono ?_); rintro e w3 ⟨rfl, hb3⟩; (first | ((with_reducible obtain ⟨p, hw''⟩ := In.of2 p hb3); subst hw'') | (obtain ⟨p, hw''⟩ := In.of hb3; subst hw''))) | ((with_reducible refine (c3 _).mono ?_); rintro e w4 ⟨rfl, hb4⟩; (first | ((with_reducible obtain ⟨p, hw''⟩ := In.of2 p hb4); subst hw'') | (obtain ⟨p, hw''⟩ := In.of hb4; subst hw''))) | ((with_reducible refine (c4 _).mono ?_); rintro e w5 ⟨rfl, hb5⟩; (first | ((with_reducible obtain ⟨p, hw''⟩ := In.of2 p hb5); subst hw'') | (obtain ⟨p, hw''⟩ := In.of hb5; subst hw''))))
  go_ret
  exact ⟨rfl, p.back bk⟩
end Go.Proofs.Ytglcnnnjdkjggaa
