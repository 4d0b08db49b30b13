
/-
  The traversers' laws' awake.
-/
import Derived.Test.YtfccplkfdhpdgaaTrvF
set_option linter.unusedSimpArgs false
set_option linter.unusedVariables false
namespace Go.Proofs.Ytfccplkfdhpdgaa
open Go.RowKit

abbrev oneV (n : Int) : Val := .mk 2 false n 0 [] []
theorem oneV_has (w : World) (n : Int) (h : I64 n) : Has w (valV 2 false n 0 [] none 0 0) (oneV n) :=
  Has.mk (w := w) (k := 2) (b := false) (n := n) (f := 0) (s := []) (l := []) (A := none) (cap := 0) (fun _ => .agg #[]) ⟨by omega, by omega⟩ h ⟨by omega⟩ (Nat.zero_le _) (Nat.zero_le _) (Nat.zero_le _) (Nat.zero_le _) (fun i x hx => by cases hx) (fun i hi => absurd hi (Nat.not_lt_zero _))
set_option maxRecDepth 8000 in
theorem one_c (n : Int) (w : World) : Calls Try.prog 20 #[.int .i64 n] w fun e w' => e = .returned (valV 2 false n 0 [] none 0 0) ∧ Below w.heap.size w w' := by
  go_enter Try.func20, Try.ntmps20
  go_wp2
  obtain ⟨w1, hw1⟩ : ∃ w1, w1 = w.alloc (.cells #[.int .i64 2, .bool false, .int .i64 n, .float .f64 0, .string (st []), .slice none 0 0] 31) := ⟨_, rfl⟩
  have hB : Below w.heap.size w w1 := hw1 ▸ below_alloc w _
  obtain ⟨x6, x0, x1, x2, x3, x4, x5⟩ : Box w1 w.heap.size 2 false n 0 [] none 0 0 := hw1 ▸ Box.new w 2 false n 0 [] none 0 0 _
  rw [← hw1]
  clear hw1
  exact bodyPost_ret (v := valV 2 false n 0 [] none 0 0) (by simp only [results, Try.results20]; go_simp) rfl ⟨rfl, hB⟩
set_option maxRecDepth 8000 in
set_option maxHeartbeats 1000000 in
theorem new_c (k : Int) (b : Bool) (n : Int) (f : Nat) (s : List UInt8) (B : Option Addr) (len c : Nat) (v : Val) (w : World) (h : Has w (valV k b n f s B len c) v) :
    Calls Try.prog 21 #[valV k b n f s B len c] w fun e w' => ∃ P, e = .returned (travV k b n f s B len c P 1 1 none 0 0 1) ∧ HasT w' k b n f s B len c P 1 1 none 0 0 1 ⟨v, [v], [], 1⟩ ∧ Below w.heap.size w w' := by
  go_enter Try.func21, Try.ntmps21
  go_wp2
  obtain ⟨w0, hw0⟩ : ∃ w0, w0 = (w.alloc (.cells #[.int .i64 k, .bool b, .int .i64 n, .float .f64 f, .string (st s), .slice B len c] 31)).alloc (.cells #[.int .i64 k, .bool b, .int .i64 n, .float .f64 f, .string (st s), .slice B len c, .slice (some ⟨w.heap.size + 1 + 1, 0, none⟩) 1 1, .slice none 0 0, .int .i64 1] 34) := ⟨_, rfl⟩
  have hsz : w0.heap.size = w.heap.size + 1 + 1 := by rw [hw0]; simp
  have hB0 : Below w.heap.size w w0 := hw0 ▸ (below_alloc w _).alloc (by simp) _
  have hq : ∀ j, w0.cell? ⟨w.heap.size + 1, j, none⟩ = #[Value.int .i64 k, .bool b, .int .i64 n, .float .f64 f, .string (st s), .slice B len c, .slice (some ⟨w.heap.size + 1 + 1, 0, none⟩) 1 1, .slice none 0 0, .int .i64 1][j]? := fun j => by
    rw [hw0]
    go_simp
  rw [← hw0]
  obtain ⟨w1, hw1⟩ : ∃ w1, w1 = w0.alloc (.cells #[.int .i64 k, .bool b, .int .i64 n, .float .f64 f, .string (st s), .slice B len c] 31) := ⟨_, rfl⟩
  have hB1 : Below w0.heap.size w0 w1 := hw1 ▸ below_alloc w0 _
  have hB : Below w.heap.size w w1 := hB0.trans (hB1.mono hB0.size)
  obtain ⟨x6, x0, x1, x2, x3, x4, x5⟩ : Box w1 (w.heap.size + 1 + 1) k b n f s B len c := hsz ▸ hw1 ▸ Box.new w0 k b n f s B len c _
  have hq1 : ∀ j, w1.cell? ⟨w.heap.size + 1, j, none⟩ = #[Value.int .i64 k, .bool b, .int .i64 n, .float .f64 f, .string (st s), .slice B len c, .slice (some ⟨w.heap.size + 1 + 1, 0, none⟩) 1 1, .slice none 0 0, .int .i64 1][j]? := fun j => (hB1.cell (p := ⟨w.heap.size + 1, j, none⟩) (by show w.heap.size + 1 < w0.heap.size; omega)).trans (hq j)
  rw [← hw1]
  clear hw1 hw0 hq
  have hh := h.keep hB
  have hT : HasT w1 k b n f s B len c (some ⟨w.heap.size + 1 + 1, 0, none⟩) 1 1 none 0 0 1 ⟨v, [v], [], 1⟩ := by
    refine ⟨hh, fun i x hx => ?_, rfl, Nat.le_refl _, by unfold maxLen; omega, fun i x hx => by simp at hx, rfl, Nat.le_refl _, Nat.zero_le _, rfl, ⟨by show (-9223372036854775808 : Int) ≤ 1; omega, by show (1 : Int) ≤ 9223372036854775807; omega⟩⟩
    match i, hx with
    | 0, hx =>
      simp at hx
      subst hx
      exact ⟨⟨w.heap.size + 1 + 1, 0, none⟩, k, b, n, f, s, B, len, c, rfl, hh, ⟨x6, x0, x1, x2, x3, x4, x5⟩⟩
    | i + 1, hx => simp at hx
  exact bodyPost_ret (v := travV k b n f s B len c (some ⟨w.heap.size + 1 + 1, 0, none⟩) 1 1 none 0 0 1) (by simp only [results, Try.results21]; go_simp) rfl ⟨_, rfl, hT, hB⟩
abbrev tone (n : Int) : TravD := ⟨oneV n, [oneV n], [], 1⟩
theorem i64_one : I64 1 := ⟨by omega, by omega⟩
theorem i64_two : I64 2 := ⟨by omega, by omega⟩
abbrev merged : List TravD := [{ tone 1 with bulk := 2 }, tone 2]
theorem merge_three : mergeV [tone 1, tone 1, tone 2] = merged := by
  have h1 : sameT (tone 1) (tone 1) = true := by simp [sameT, eqV, eqBy, cmpV, sgnI]
  have h2 : sameT ⟨oneV 1, [oneV 1], [], 2⟩ (tone 2) = false := by simp [sameT, eqV, eqBy, cmpV, sgnI]
  simp [mergeV, mstep, h1, h2]
set_option maxRecDepth 8000 in
set_option maxHeartbeats 4000000 in
theorem awake_c (w : World) : Calls Try.prog 11 #[] w fun e w' => e = .returned (.bool true) ∧ Below w.heap.size w w' := by
  go_enter Try.func11, Try.ntmps11
  go_wp2_with ((with_reducible refine (one_c 1 w).mono ?_); rintro e w1 ⟨rfl, hb1⟩)
  go_wp2_with ((with_reducible refine (new_c 2 false 1 0 [] none 0 0 _ w1 (oneV_has _ 1 i64_one)).mono ?_); rintro e w2 ⟨P1, rfl, hT1, hb2⟩)
  go_wp2_with ((with_reducible refine (one_c 1 w2).mono ?_); rintro e w3 ⟨rfl, hb3⟩)
  go_wp2_with ((with_reducible refine (new_c 2 false 1 0 [] none 0 0 _ w3 (oneV_has _ 1 i64_one)).mono ?_); rintro e w4 ⟨P2, rfl, hT2, hb4⟩)
  go_wp2_with ((with_reducible refine (one_c 2 w4).mono ?_); rintro e w5 ⟨rfl, hb5⟩)
  go_wp2_with ((with_reducible refine (new_c 2 false 2 0 [] none 0 0 _ w5 (oneV_has _ 2 i64_two)).mono ?_); rintro e w6 ⟨P3, rfl, hT3, hb6⟩)
  have B1 := hb1
  have B2 := B1.trans (hb2.mono B1.size)
  have B3 := B2.trans (hb3.mono B2.size)
  have B4 := B3.trans (hb4.mono B3.size)
  have B5 := B4.trans (hb5.mono B4.size)
  have B6 := B5.trans (hb6.mono B5.size)
  have t1 := hT1.keep (((hb3.trans (hb4.mono hb3.size)).trans (hb5.mono (Nat.le_trans hb3.size hb4.size))).trans (hb6.mono (Nat.le_trans (Nat.le_trans hb3.size hb4.size) hb5.size)))
  have t2 := hT2.keep (hb5.trans (hb6.mono hb5.size))
  obtain ⟨w7, hw7⟩ : ∃ w7, w7 = w6.alloc (.cells (travC 2 false 1 0 [] none 0 0 P1 1 1 none 0 0 1 ++ travC 2 false 1 0 [] none 0 0 P2 1 1 none 0 0 1 ++ travC 2 false 2 0 [] none 0 0 P3 1 1 none 0 0 1).toArray 34) := ⟨_, rfl⟩
  have hb7 : Below w6.heap.size w6 w7 := hw7 ▸ below_alloc w6 _
  have B7 := B6.trans (hb7.mono B6.size)
  have own7 : w7.ownsRow w6.heap.size 34 9 (.slice (some ⟨w6.heap.size, 0, none⟩) 3 3) 3 (travC 2 false 1 0 [] none 0 0 P1 1 1 none 0 0 1 ++ travC 2 false 1 0 [] none 0 0 P2 1 1 none 0 0 1 ++ travC 2 false 2 0 [] none 0 0 P3 1 1 none 0 0 1) := by
    refine ⟨rfl, .inr ⟨w6.heap.size, 3, _, rfl, Nat.le_refl _, by rw [hw7]; show (w6.heap.push _)[w6.heap.size]? = _; simp; rfl, Nat.le_refl _, by unfold maxLen; omega, rfl, rfl⟩⟩
  have row7 : TRow w7 [tone 1, tone 1, tone 2] (travC 2 false 1 0 [] none 0 0 P1 1 1 none 0 0 1 ++ travC 2 false 1 0 [] none 0 0 P2 1 1 none 0 0 1 ++ travC 2 false 2 0 [] none 0 0 P3 1 1 none 0 0 1) :=
    (((TRow.nil w7).snoc (t1.keep hb7)).snoc (t2.keep hb7)).snoc (hT3.keep hb7)
  obtain ⟨A7, c7, he7, hp7, hc7, hm7⟩ := TParts.ofRow (ys := [tone 1, tone 1, tone 2]) own7 row7
  have he7' : (Value.slice (some ⟨w6.heap.size, 0, none⟩) 3 3) = .slice A7 3 c7 := he7
  have cm : Calls Try.prog 10 #[.slice (some ⟨w6.heap.size, 0, none⟩) 3 3] w7 (MergeEnds [tone 1, tone 1, tone 2] w7) := by
    rw [he7']
    exact merge_c A7 c7 [tone 1, tone 1, tone 2] w7 hp7 hc7 hm7 (by simp) (by intro t ht; simp only [List.mem_cons, List.not_mem_nil, or_false] at ht; rcases ht with rfl | rfl | rfl <;> exact ⟨by decide, by decide⟩)
  rw [show w6.alloc (.cells #[.int .i64 2, .bool false, .int .i64 1, .float .f64 0, .string (st []), .slice none 0 0, .slice P1 1 1, .slice none 0 0, .int .i64 1, .int .i64 2, .bool false, .int .i64 1, .float .f64 0, .string (st []), .slice none 0 0, .slice P2 1 1, .slice none 0 0, .int .i64 1, .int .i64 2, .bool false, .int .i64 2, .float .f64 0, .string (st []), .slice none 0 0, .slice P3 1 1, .slice none 0 0, .int .i64 1] 34) = w7 from hw7.symm]
  clear he7 he7' hw7 own7 row7 hp7 hT1 hT2 hT3 t1 t2 hb1 hb2 hb3 hb4 hb5 hb6
  refine cm.mono ?_
  rintro e w8 ⟨v, xs, rfl, own8, row8, hb8⟩
  rw [merge_three] at own8 row8
  have B8 := B7.trans (hb8.mono B7.size)
  obtain ⟨A8, c8, rfl, hp8, hc8, hm8⟩ := TParts.ofRow (ys := merged) own8 row8
  obtain ⟨ad, k, b, n, f, s, B, len, c, P, pl, pc, T, tl, tc, q, rfl, ht, hat⟩ := hp8 0 { tone 1 with bulk := 2 } rfl
  have hq := ht.ebq
  have ha : ad.add (0 * 9) = ad := by simp [Addr.add]
  rw [ha] at hat
  obtain ⟨q9, q0, q1, q2, q3, q4, q5, q6, q7, q8⟩ := hat
  have hq2 : q = 2 := hq
  subst hq2
  have hbm : ∀ t ∈ merged, 0 ≤ t.bulk ∧ t.bulk ≤ 10000 := by
    intro t ht; simp only [List.mem_cons, List.not_mem_nil, or_false] at ht; rcases ht with rfl | rfl <;> exact ⟨by decide, by decide⟩
  have cn : Calls Try.prog 15 #[.slice (some ad) 2 c8] w8 fun e w' => e = .returned (.int .i64 3) ∧ Below w8.heap.size w8 w' := many_c (some ad) c8 merged w8 hp8 (by simp) hbm
  have cp : ∀ w9, Below w8.heap.size w8 w9 → Calls Try.prog 13 #[.slice (some ad) 2 c8] w9 (SpreadEnds merged w9) := fun w9 h => spread_c (some ad) c8 merged w9 (hp8.keep h) (by simp) hbm
  clear hp8 ht hq own8 row8 cm ha
  have hl3 : (spreadV merged).length = 3 := rfl
  have cp' : ∀ w9, Below w8.heap.size w8 w9 → Calls Try.prog 13 #[.slice (some ad) 2 c8] w9 fun e w' => ∃ A cap, e = .returned (.slice A 3 cap) ∧ Below w9.heap.size w9 w' := fun w9 h =>
    (cp w9 h).mono fun e w' ⟨v, xs, h1, h2, h3, h4⟩ => by
      obtain ⟨A, cap, h5, _⟩ := TParts.ofRow h2 h3
      exact ⟨A, cap, by rw [h1, h5, hl3], h4⟩
  clear cp
  show _
  simp only []
  go_wp2_with (first | ((with_reducible refine cn.mono ?_); rintro e w9 ⟨rfl, hb9⟩) | ((with_reducible refine (cp' _ hb9).mono ?_); rintro e w10 ⟨A10, c10, rfl, hb10⟩))
  go_ret
  exact ⟨rfl, B8.trans ((hb9.trans (hb10.mono hb9.size)).mono B8.size)⟩
end Go.Proofs.Ytfccplkfdhpdgaa
