
/-
  The value laws' awake; what is made of each kind.
-/
import Derived.Test.YtkbacjlnfmibaaaGetG
set_option linter.unusedSimpArgs false
set_option linter.unusedVariables false
namespace Go.Proofs.Ytkbacjlnfmibaaa
open Go.RowKit Go.Deep

abbrev oneV (n : Int) : Val := .mk 2 false n 0 [] []
abbrev textV (s : List UInt8) : Val := .mk 4 false 0 0 s []
abbrev floatV (x : Nat) : Val := .mk 3 false 0 x [] []
theorem flat_has (w : World) {k : Int} {b : Bool} {n : Int} {f : Nat} {s : List UInt8} (hk : I64 k) (hn : I64 n) (hf : U64 f) (hs : s.length ≤ 140737488351232) : Has w (valV k b n f s none 0 0) (.mk k b n f s []) :=
  (HasP.flat (fun _ => True) w hk hn hf hs).has
set_option maxRecDepth 8000 in
theorem int_c (n : Int) (w : World) : Calls Try.prog 30 #[.int .i64 n] w fun e w' => e = .returned (valV 2 false n 0 [] none 0 0) ∧ Below w.heap.size w w' := by
  go_enter Try.func30, Try.ntmps30
  go_wp2
  obtain ⟨w1, hw1⟩ : ∃ w1, w1 = w.alloc (.cells #[.int .i64 2, .bool false, .int .i64 n, .float .f64 0, .string (st []), .slice none 0 0] 25) := ⟨_, rfl⟩
  have hB : Below w.heap.size w w1 := hw1 ▸ below_alloc w _
  obtain ⟨x6, x0, x1, x2, x3, x4, x5⟩ : Box w1 w.heap.size 2 false n 0 [] none 0 0 := hw1 ▸ Box.new w 2 false n 0 [] none 0 0 _
  rw [← hw1]
  clear hw1
  exact bodyPost_ret (v := valV 2 false n 0 [] none 0 0) (by simp only [results, Try.results30]; go_simp) rfl ⟨rfl, hB⟩
set_option maxRecDepth 8000 in
theorem text_c (s : List UInt8) (w : World) : Calls Try.prog 31 #[.string (st s)] w fun e w' => e = .returned (valV 4 false 0 0 s none 0 0) ∧ Below w.heap.size w w' := by
  go_enter Try.func31, Try.ntmps31
  go_wp2
  obtain ⟨w1, hw1⟩ : ∃ w1, w1 = w.alloc (.cells #[.int .i64 4, .bool false, .int .i64 0, .float .f64 0, .string (st s), .slice none 0 0] 25) := ⟨_, rfl⟩
  have hB : Below w.heap.size w w1 := hw1 ▸ below_alloc w _
  obtain ⟨x6, x0, x1, x2, x3, x4, x5⟩ : Box w1 w.heap.size 4 false 0 0 s none 0 0 := hw1 ▸ Box.new w 4 false 0 0 s none 0 0 _
  rw [← hw1]
  clear hw1
  exact bodyPost_ret (v := valV 4 false 0 0 s none 0 0) (by simp only [results, Try.results31]; go_simp) rfl ⟨rfl, hB⟩
set_option maxRecDepth 8000 in
theorem list_c (A : Option Addr) (len cap : Nat) (w : World) : Calls Try.prog 37 #[.slice A len cap] w fun e w' => e = .returned (valV 5 false 0 0 [] A len cap) ∧ Below w.heap.size w w' := by
  go_enter Try.func37, Try.ntmps37
  go_wp2
  obtain ⟨w1, hw1⟩ : ∃ w1, w1 = w.alloc (.cells #[.int .i64 5, .bool false, .int .i64 0, .float .f64 0, .string (st []), .slice A len cap] 25) := ⟨_, rfl⟩
  have hB : Below w.heap.size w w1 := hw1 ▸ below_alloc w _
  obtain ⟨x6, x0, x1, x2, x3, x4, x5⟩ : Box w1 w.heap.size 5 false 0 0 [] A len cap := hw1 ▸ Box.new w 5 false 0 0 [] A len cap _
  rw [← hw1]
  clear hw1
  exact bodyPost_ret (v := valV 5 false 0 0 [] A len cap) (by simp only [results, Try.results37]; go_simp) rfl ⟨rfl, hB⟩
set_option maxRecDepth 8000 in
theorem float_c (x : Nat) (w : World) : Calls Try.prog 34 #[.float .f64 x] w fun e w' => e = .returned (valV 3 false 0 (canon x) [] none 0 0) ∧ Below w.heap.size w w' := by
  have cc := fun w => canon_c x w
  go_enter Try.func34, Try.ntmps34
  go_wp2_with ((with_reducible refine (cc _).mono ?_); rintro e w2 ⟨rfl, rfl⟩)
  obtain ⟨w1, hw1⟩ : ∃ w1, w1 = w.alloc (.cells #[.int .i64 3, .bool false, .int .i64 0, .float .f64 (canon x), .string (st []), .slice none 0 0] 25) := ⟨_, rfl⟩
  have hB : Below w.heap.size w w1 := hw1 ▸ below_alloc w _
  obtain ⟨x6, x0, x1, x2, x3, x4, x5⟩ : Box w1 w.heap.size 3 false 0 (canon x) [] none 0 0 := hw1 ▸ Box.new w 3 false 0 (canon x) [] none 0 0 _
  rw [← hw1]
  clear hw1
  exact bodyPost_ret (v := valV 3 false 0 (canon x) [] none 0 0) (by simp only [results, Try.results34]; go_simp) rfl ⟨rfl, hB⟩
abbrev twoV : Val := .mk 5 false 0 0 [] [oneV 5, textV [97]]
theorem two_check : CheckV twoV = 0 := by kernel_rfl
theorem two_put : putV twoV = [5, 0, 2, 2, 0, 0, 0, 0, 0, 0, 0, 5, 4, 0, 1, 97] := by kernel_rfl
theorem two_get : getV [5, 0, 2, 2, 0, 0, 0, 0, 0, 0, 0, 5, 4, 0, 1, 97] = (twoV, 16, 0) := by kernel_rfl
theorem two_cmp : cmpV (oneV 1) (floatV (canon 4607182418800017408)) = -1 := by kernel_rfl
theorem Has.ofParts {w : World} {A : Option Addr} {la : List Val} {cap : Nat} (h : Parts w A la) {k : Int} {b : Bool} {n : Int} {f : Nat} {s : List UInt8} (hk : I64 k) (hn : I64 n) (hf : U64 f) (hs : s.length ≤ 140737488351232) (hb : la.length ≤ 140737488351232) (hl : la.length ≤ cap) (hm : cap ≤ maxLen) : Has w (valV k b n f s A la.length cap) (.mk k b n f s la) := by
  obtain ⟨V, hV⟩ := choose_lt (α := Value) (n := la.length) (p := fun i u => (∀ x, la[i]? = some x → Has w u x) ∧ ∃ ad : Addr, A = some ad ∧ ∀ j y, u.cells[j]? = some y → w.cell? (ad.add (i * 6 + j)) = some y) (fun i hi => by
    obtain ⟨ad, k, b, n, f, s, B, len, c, h1, h2, h3⟩ := h i la[i] (by simp)
    refine ⟨valV k b n f s B len c, fun x hx => ?_, ad, h1, h3.cells⟩
    rw [List.getElem?_eq_getElem hi] at hx
    cases hx
    exact h2)
  exact Has.mk V hk hn hf hs hb hl hm (fun i x hx => (hV i (List.getElem?_eq_some_iff.1 hx).1).1 x hx) (fun i hi => (hV i hi).2)
/-- a row of two values, just laid -/
theorem row2 {w w7 : World} {k : Int} {b : Bool} {n : Int} {f : Nat} {s : List UInt8} {B : Option Addr} {len c : Nat} {x : Val} {k' : Int} {b' : Bool} {n' : Int} {f' : Nat} {s' : List UInt8} {B' : Option Addr} {len' c' : Nat} {y : Val}
    (hx : Has w (valV k b n f s B len c) x) (hy : Has w (valV k' b' n' f' s' B' len' c') y) (h7 : w7 = w.alloc (.cells (valC k b n f s B len c ++ valC k' b' n' f' s' B' len' c').toArray 25)) :
    Parts w7 (some ⟨w.heap.size, 0, none⟩) [x, y] := by
  have hb7 : Below w.heap.size w w7 := h7 ▸ below_alloc w _
  have own7 : w7.ownsRow w.heap.size 25 6 (.slice (some ⟨w.heap.size, 0, none⟩) 2 2) 2 (valC k b n f s B len c ++ valC k' b' n' f' s' B' len' c') := by
    refine ⟨rfl, .inr ⟨w.heap.size, 2, _, rfl, Nat.le_refl _, by rw [h7]; show (w.heap.push _)[w.heap.size]? = _; simp; rfl, Nat.le_refl _, by unfold maxLen; omega, rfl, rfl⟩⟩
  have row7 : VRow w7 [x, y] (valC k b n f s B len c ++ valC k' b' n' f' s' B' len' c') := ((VRow.nil w7).snoc (hx.keep hb7)).snoc (hy.keep hb7)
  obtain ⟨A7, c7, he7, hp7, hc7, hm7⟩ := Parts.ofRow (ys := [x, y]) own7 row7
  cases he7
  exact hp7
theorem put_two (u : Value) (w : World) (h : Has w u twoV) : Calls Try.prog 14 #[u] w fun e w' => e = .returned (.tuple #[.string (st [5, 0, 2, 2, 0, 0, 0, 0, 0, 0, 0, 5, 4, 0, 1, 97]), .int .i64 0]) ∧ Below w.heap.size w w' := by
  have h1 := put_c twoV u w h
  unfold PutEnds at h1
  rwa [two_check, if_pos rfl, two_put] at h1
theorem get_two (w : World) : Calls Try.prog 16 #[.string (st [5, 0, 2, 2, 0, 0, 0, 0, 0, 0, 0, 5, 4, 0, 1, 97])] w fun e w' => ∃ ad c k b f s B len c', e = .returned (.tuple #[valV 5 false 0 0 [] (some ad) 2 c, .int .i64 16, .int .i64 0]) ∧ 2 ≤ c ∧ ValAt w' ad k b 5 f s B len c' ∧ Below w.heap.size w w' := by
  refine (Get_c [5, 0, 2, 2, 0, 0, 0, 0, 0, 0, 0, 5, 4, 0, 1, 97] w (by decide)).mono ?_
  rintro e w' ⟨k, b, n, f, s, B, len, c, rfl, hx, hb⟩
  rw [two_get] at hx ⊢
  obtain ⟨A, cap, he, _, _, _, _, _, h1, h2, h3⟩ := hx.open
  cases he
  obtain ⟨ad, k', b', n', f', s', B', len', c', rfl, h4, h5⟩ := h3 0 (oneV 5) rfl
  obtain ⟨A1, cap1, he1, _⟩ := h4.open
  cases he1
  have ha : ad.add (0 * 6) = ad := by simp [Addr.add]
  rw [ha] at h5
  exact ⟨ad, _, _, _, _, _, _, _, _, rfl, h1, h5, hb⟩
set_option maxRecDepth 8000 in
set_option maxHeartbeats 1000000 in
theorem awake_c (w : World) : Calls Try.prog 12 #[] w fun e w' => e = .returned (.bool true) ∧ Below w.heap.size w w' := by
  go_enter Try.func12, Try.ntmps12
  go_wp2_with ((with_reducible refine (int_c 5 w).mono ?_); rintro e w1 ⟨rfl, hb1⟩)
  go_wp2_with ((with_reducible refine (text_c [97] w1).mono ?_); rintro e w2 ⟨rfl, hb2⟩)
  have B2 := hb1.trans (hb2.mono hb1.size)
  obtain ⟨w3, hw3⟩ : ∃ w3, w3 = w2.alloc (.cells #[.int .i64 2, .bool false, .int .i64 5, .float .f64 0, .string (st []), .slice none 0 0, .int .i64 4, .bool false, .int .i64 0, .float .f64 0, .string (st [97]), .slice none 0 0] 25) := ⟨_, rfl⟩
  have hp3 : Parts w3 (some ⟨w2.heap.size, 0, none⟩) [oneV 5, textV [97]] := row2 (flat_has w2 ⟨by omega, by omega⟩ ⟨by omega, by omega⟩ ⟨by omega⟩ (by simp)) (flat_has w2 ⟨by omega, by omega⟩ ⟨by omega, by omega⟩ ⟨by omega⟩ (by simp)) hw3
  have hb3 : Below w2.heap.size w2 w3 := hw3 ▸ below_alloc w2 _
  rw [← hw3]
  clear hw3
  have B3 := B2.trans (hb3.mono B2.size)
  generalize (⟨w2.heap.size, 0, none⟩ : Addr) = a0 at *
  have cl : Calls Try.prog 37 #[.slice (some a0) 2 2] w3 fun e w' => e = .returned (valV 5 false 0 0 [] (some a0) 2 2) ∧ Below w3.heap.size w3 w' := list_c (some a0) 2 2 w3
  have cp : ∀ w', Below w3.heap.size w3 w' → Calls Try.prog 14 #[valV 5 false 0 0 [] (some a0) 2 2] w' fun e w'' => e = .returned (.tuple #[.string (st [5, 0, 2, 2, 0, 0, 0, 0, 0, 0, 0, 5, 4, 0, 1, 97]), .int .i64 0]) ∧ Below w'.heap.size w' w'' := fun w' h =>
    put_two _ w' (Has.ofParts (hp3.keep h) ⟨by omega, by omega⟩ ⟨by omega, by omega⟩ ⟨by omega⟩ (by simp) (by simp) (Nat.le_refl 2) (by unfold maxLen; omega))
  have cg := fun w' => get_two w'
  clear hp3 hb1 hb2 hb3 B2
  generalize hL : ([5, 0, 2, 2, 0, 0, 0, 0, 0, 0, 0, 5, 4, 0, 1, 97] : List UInt8) = L at *
  have hLl : L.length = 16 := by rw [← hL]; rfl
  clear hL
  go_upto_region 3 with (first | ((with_reducible refine cl.mono ?_); rintro e w4 ⟨rfl, hb4⟩) | ((with_reducible refine (cp _ hb4).mono ?_); rintro e w5 ⟨rfl, hb5⟩) | ((with_reducible refine (cg _).mono ?_); rintro e w6 ⟨ad, c, k, b, f, s, B, len, c', rfl, hc2, hat, hb6⟩))
  have B4 := B3.trans (hb4.mono B3.size)
  have B5 := B4.trans (hb5.mono B4.size)
  have B6 := B5.trans (hb6.mono B5.size)
  obtain ⟨w7, hw7⟩ : ∃ w7, w7 = w6.alloc (.cells #[.int .i64 5, .bool false, .int .i64 0, .float .f64 0, .string (st []), .slice (some ad) 2 c] 25) := ⟨_, rfl⟩
  have hb7 : Below w6.heap.size w6 w7 := hw7 ▸ below_alloc w6 _
  have B7 := B6.trans (hb7.mono B6.size)
  obtain ⟨x6, x0, x1, x2, x3, x4, x5⟩ : Box w7 w6.heap.size 5 false 0 0 [] (some ad) 2 c := hw7 ▸ Box.new w6 5 false 0 0 [] (some ad) 2 c _
  obtain ⟨z6, z0, z1, z2, z3, z4, z5⟩ := hat.keep hb7
  rw [← hw7]
  have ci := fun w' => int_c 1 w'
  have cf := fun w' => float_c 4607182418800017408 w'
  have cc : ∀ w', Calls Try.prog 19 #[valV 2 false 1 0 [] none 0 0, valV 3 false 0 (canon 4607182418800017408) [] none 0 0] w' fun e w'' => e = .returned (.int .i64 (-1)) ∧ Below w'.heap.size w' w'' := fun w' => by
    have h := cmpv_c (oneV 1) (floatV (canon 4607182418800017408)) _ _ w' (flat_has w' (k := 2) (b := false) (n := 1) (f := 0) (s := []) ⟨by omega, by omega⟩ ⟨by omega, by omega⟩ ⟨by omega⟩ (by simp)) (flat_has w' (k := 3) (b := false) (n := 0) (f := canon 4607182418800017408) (s := []) ⟨by omega, by omega⟩ ⟨by omega, by omega⟩ ⟨by decide⟩ (by simp))
    unfold IntEnds at h
    rwa [two_cmp] at h
  clear hw7 hb7 hat cl cp cg hb4 hb5 hb6 B3 B4 B5 B6
  generalize canon 4607182418800017408 = F at *
  try simp only [List.append_eq, List.cons_append, List.nil_append]
  go_wp2_with (first | ((with_reducible refine (ci _).mono ?_); rintro e w8 ⟨rfl, hb8⟩) | ((with_reducible refine (cf _).mono ?_); rintro e w9 ⟨rfl, hb9⟩) | ((with_reducible refine (cc _).mono ?_); rintro e w10 ⟨rfl, hb10⟩))
  have B8 := B7.trans (hb8.mono B7.size)
  have B9 := B8.trans (hb9.mono B8.size)
  have B10 := B9.trans (hb10.mono B9.size)
  go_ret
  exact ⟨rfl, B10⟩
end Go.Proofs.Ytkbacjlnfmibaaa
