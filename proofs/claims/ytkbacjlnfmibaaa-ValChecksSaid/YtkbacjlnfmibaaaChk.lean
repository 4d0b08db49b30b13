
/-
  ValChecks: the walk.
-/
import Derived.Test.YtkbacjlnfmibaaaRcc
import Derived.Test.YtkbacjlnfmibaaaRpt
import Derived.Test.YtkbacjlnfmibaaaRnd
import Derived.Test.YtkbacjlnfmibaaaOrd
import Derived.Test.YtkbacjlnfmibaaaValS
import Derived.Test.YtkbacjlnfmibaaaAwk
set_option linter.unusedSimpArgs false
set_option linter.unusedVariables false
namespace Go.Proofs.Ytkbacjlnfmibaaa
open Go.RowKit Go.Deep

mutual
theorem norm_norm : ∀ a : Val, normV (normV a) = normV a
  | .mk k b n f s l => by
    have h := norm_normL l
    simp only [normV, canon_canon, h]
theorem norm_normL : ∀ l : List Val, normVL (normVL l) = normVL l
  | [] => rfl
  | a :: l => by simp only [normVL, norm_norm a, norm_normL l]
end
theorem norm_same (a : Val) : sameV (normV a) a = true := (same_norm _ _).2 (norm_norm a)
theorem check_fine {v : Val} (h : CheckV v = 0) : checkV v 1 = 0 ∧ bsz v ≤ 60000 := by
  unfold CheckV at h
  split at h
  · cases h
  · exact ⟨h, by omega⟩
/-- what may be is read again, whatever follows -/
theorem get_put {v : Val} (h : CheckV v = 0) (hs : Sound v) (x : List UInt8) : getV (putV v ++ x) = (normV v, ((putV v).length : Int), 0) := by
  obtain ⟨h1, h2⟩ := check_fine h
  have hg := getF_put (wsz v) v (Nat.le_refl _) 1 13 rfl h1 hs x
  have hl := putV_len v 1 h1
  unfold getV
  rw [hg]
  unfold getVr
  simp only [List.length_append]
  have e : (((putV v).length + x.length : Nat) : Int) - (x.length : Int) = ((putV v).length : Int) := by omega
  simp [e]
  omega
set_option maxRecDepth 8000 in
set_option maxHeartbeats 2000000 in
theorem valChecks_walk (u : Value) (v : Val) (w : World) (hu : Has w u v) :
    Calls Try.prog 3 #[u] w fun e w' => e = .returned (.bool true) ∧ Below w.heap.size w w' := by
  obtain ⟨na, hna⟩ := weighM v 3000 (by omega) 3000 rfl
  have cwa := fun w' h => hna u w' (hu.keep h)
  have c1 : ∀ w', Below w.heap.size w w' → Calls Try.prog 13 #[u] w' fun e w'' => e = .returned (.int .i64 (CheckV v)) ∧ Below w'.heap.size w' w'' := fun w' h => rCheck_c v u w' (hu.keep h)
  have c2 : ∀ w', Below w.heap.size w w' → Calls Try.prog 14 #[u] w' (PutEnds v w') := fun w' h => put_c v u w' (hu.keep h)
  have c3 : ∀ w', Below w.heap.size w w' → Calls Try.prog 15 #[u] w' fun e w'' => e = .returned (.int .i64 (CheckV v)) ∧ Below w'.heap.size w' w'' := fun w' h => Check_c v u w' (hu.keep h)
  have c4 : CheckV v = 0 → ∀ w', Below w.heap.size w w' → Calls Try.prog 17 #[u] w' fun e w'' => e = .returned (.string (st (putV v))) ∧ Below w'.heap.size w' w'' := fun he w' h => rput_c v u w' 1 (hu.keep h) (check_fine he).1 (check_fine he).2
  have c5 : CheckV v = 0 → ∀ w', Calls Try.prog 16 #[.string (st (putV v ++ [109, 111, 114, 101]))] w' fun e w'' => ∃ k b n f s' B len c, e = .returned (.tuple #[valV k b n f s' B len c, .int .i64 ((putV v).length : Int), .int .i64 0]) ∧ Has w'' (valV k b n f s' B len c) (normV v) ∧ Below w'.heap.size w' w'' := fun he w' => by
    have h2 := putV_len v 1 (check_fine he).1
    have h3 := (check_fine he).2
    have h := Get_c (putV v ++ [109, 111, 114, 101]) w' (by rw [List.length_append, h2]; simp; omega)
    unfold GetVEnds at h
    rwa [get_put he hu.sound] at h
  have hl2 : CheckV v = 0 → ¬ 9223372036854775807 < (putV v).length + 4 := fun he => by
    have h2 := putV_len v 1 (check_fine he).1
    have h3 := (check_fine he).2
    omega
  have hsm := norm_same v
  have hU := Lib.hid hu
  obtain ⟨A, capa, rfl, _⟩ := hu.open
  clear hna hu
  unfold PutEnds at c2
  have hL0 : CheckV v = 0 → (if CheckV v = 0 then putV v else []) = putV v := fun h1 => if_pos h1
  have hL1 : CheckV v ≠ 0 → (if CheckV v = 0 then putV v else []) = [] := fun h1 => if_neg h1
  generalize (if CheckV v = 0 then putV v else []) = La at *
  generalize CheckV v = ea at *
  generalize putV v = Pv at *
  go_enter Try.func3, Try.ntmps3
  go_upto_region 1 with fail
  obtain ⟨w1, hw1⟩ : ∃ w1, w1 = w.alloc (.cells #[.int .i64 v.k, .bool v.b, .int .i64 v.n, .float .f64 v.f, .string (st v.s), .slice A v.l.length capa] 25) := ⟨_, rfl⟩
  have bk : Below w.heap.size w w1 := hw1 ▸ below_alloc w _
  obtain ⟨x6, x0, x1, x2, x3, x4, x5⟩ : Box w1 w.heap.size v.k v.b v.n v.f v.s A v.l.length capa := hw1 ▸ Box.new w v.k v.b v.n v.f v.s A v.l.length capa _
  rw [← hw1]
  clear hw1
  have d1 := fun p : In w1 => c1 p.w (p.back bk)
  have d2 := fun p : In w1 => c2 p.w (p.back bk)
  have d3 := fun p : In w1 => c3 p.w (p.back bk)
  have aw := fun w => awake_c w
  by_cases hA : 3000 < na
  · have hA' : (3000 : Int) < na := by omega
    clear d1 d2 d3 c1 c2 c3 c4 c5 hl2
    go_wp2_with (first | ((with_reducible refine (cwa _ bk).mono ?_); rintro e w2 ⟨rfl, hb2⟩; (first | ((with_reducible obtain ⟨p, hw''⟩ := In.of2 p hb2); subst hw'') | (obtain ⟨p, hw''⟩ := In.of hb2; subst hw''))) | ((with_reducible refine (aw _).mono ?_); rintro e w3 ⟨rfl, hb3⟩; (first | ((with_reducible obtain ⟨p, hw''⟩ := In.of2 p hb3); subst hw'') | (obtain ⟨p, hw''⟩ := In.of hb3; subst hw''))))
    go_ret
    exact ⟨rfl, p.back bk⟩
  have hA' : ¬ (3000 : Int) < na := by omega
  by_cases hE : ea = 0
  case neg =>
    have hE2 : (ea != 0) = true := by simpa using hE
    have hLe := hL1 hE
    subst hLe
    clear c1 c2 c3 c4 c5 hl2 hL0 hL1
    go_wp2_with (first | ((with_reducible refine (cwa _ bk).mono ?_); rintro e w2 ⟨rfl, hb2⟩; (first | ((with_reducible obtain ⟨p, hw''⟩ := In.of2 p hb2); subst hw'') | (obtain ⟨p, hw''⟩ := In.of hb2; subst hw''))) | ((with_reducible refine (aw _).mono ?_); rintro e w3 ⟨rfl, hb3⟩; (first | ((with_reducible obtain ⟨p, hw''⟩ := In.of2 p hb3); subst hw'') | (obtain ⟨p, hw''⟩ := In.of hb3; subst hw''))) | ((with_reducible refine (d1 _).mono ?_); rintro e w3 ⟨rfl, hb3⟩; (first | ((with_reducible obtain ⟨p, hw''⟩ := In.of2 p hb3); subst hw'') | (obtain ⟨p, hw''⟩ := In.of hb3; subst hw''))) | ((with_reducible refine (d2 _).mono ?_); rintro e w3 ⟨rfl, hb3⟩; (first | ((with_reducible obtain ⟨p, hw''⟩ := In.of2 p hb3); subst hw'') | (obtain ⟨p, hw''⟩ := In.of hb3; subst hw''))) | ((with_reducible refine (d3 _).mono ?_); rintro e w3 ⟨rfl, hb3⟩; (first | ((with_reducible obtain ⟨p, hw''⟩ := In.of2 p hb3); subst hw'') | (obtain ⟨p, hw''⟩ := In.of hb3; subst hw''))))
    go_ret
    exact ⟨rfl, p.back bk⟩
  subst hE
  have hLe := hL0 rfl
  subst hLe
  have d4 := fun p : In w1 => c4 rfl p.w (p.back bk)
  have d5 := c5 rfl
  have hl3 := hl2 rfl
  clear c1 c2 c3 c4 c5 hl2 hL0 hL1
  go_upto_region 9 with (first | ((with_reducible refine (cwa _ bk).mono ?_); rintro e w2 ⟨rfl, hb2⟩; (first | ((with_reducible obtain ⟨p, hw''⟩ := In.of2 p hb2); subst hw'') | (obtain ⟨p, hw''⟩ := In.of hb2; subst hw''))) | ((with_reducible refine (aw _).mono ?_); rintro e w3 ⟨rfl, hb3⟩; (first | ((with_reducible obtain ⟨p, hw''⟩ := In.of2 p hb3); subst hw'') | (obtain ⟨p, hw''⟩ := In.of hb3; subst hw''))) | ((with_reducible refine (d1 _).mono ?_); rintro e w3 ⟨rfl, hb3⟩; (first | ((with_reducible obtain ⟨p, hw''⟩ := In.of2 p hb3); subst hw'') | (obtain ⟨p, hw''⟩ := In.of hb3; subst hw''))) | ((with_reducible refine (d2 _).mono ?_); rintro e w3 ⟨rfl, hb3⟩; (first | ((with_reducible obtain ⟨p, hw''⟩ := In.of2 p hb3); subst hw'') | (obtain ⟨p, hw''⟩ := In.of hb3; subst hw''))) | ((with_reducible refine (d3 _).mono ?_); rintro e w3 ⟨rfl, hb3⟩; (first | ((with_reducible obtain ⟨p, hw''⟩ := In.of2 p hb3); subst hw'') | (obtain ⟨p, hw''⟩ := In.of hb3; subst hw''))))
  have B2 := p.back bk
  have hbx := Lib.hid (Box.keep ⟨x6, x0, x1, x2, x3, x4, x5⟩ p.h)
  have d4 : ∀ wx, Below p.w.heap.size p.w wx → Calls Try.prog 17 #[valV v.k v.b v.n v.f v.s A v.l.length capa] wx fun e w'' => e = .returned (.string (st La)) ∧ Below wx.heap.size wx w'' := fun wx h => d4 ⟨wx, p.h.trans (h.mono p.h.size)⟩
  clear x0 x1 x2 x3 x4 x5 x6 cwa d1 d2 d3
  generalize p.w = w2 at *
  clear p
  go_upto_region 10 with ((with_reducible refine (d5 _).mono ?_); rintro e w5 ⟨k, b, n, f, s', B, len, c, rfl, hv5, hb5⟩)
  obtain ⟨w6, hw6⟩ : ∃ w6, w6 = w5.alloc (.cells #[.int .i64 k, .bool b, .int .i64 n, .float .f64 f, .string (st s'), .slice B len c] 25) := ⟨_, rfl⟩
  have k6 : Below w5.heap.size w5 w6 := hw6 ▸ below_alloc w5 _
  obtain ⟨y6, y0, y1, y2, y3, y4, y5⟩ : Box w6 w5.heap.size k b n f s' B len c := hw6 ▸ Box.new w5 k b n f s' B len c _
  rw [← hw6]
  clear hw6
  have k26 := hb5.trans (k6.mono hb5.size)
  obtain ⟨x6, x0, x1, x2, x3, x4, x5⟩ := hbx.out.keep k26
  have B6 := B2.trans (k26.mono B2.size)
  have hv6 := hv5.keep k6
  have hu6 := hU.out.keep B6
  have d40 := d4 w6 k26
  clear d4
  have d6 : ∀ q : In w6, Calls Try.prog 18 #[valV k b n f s' B len c, valV v.k v.b v.n v.f v.s A v.l.length capa] q.w fun e w' => e = .returned (.bool true) ∧ Below q.w.heap.size q.w w' := fun q => by
    have := rsame_c (normV v) v _ _ q.w (hv6.keep q.h) (hu6.keep q.h)
    rwa [hsm] at this
  clear hv5 hb5 k6 d5 hbx hv6 hu6
  go_wp2_with (first | ((with_reducible refine d40.mono ?_); rintro e w3 ⟨rfl, hb3⟩; (first | ((with_reducible obtain ⟨p, hw''⟩ := In.of2 p hb3); subst hw'') | (obtain ⟨p, hw''⟩ := In.of hb3; subst hw''))) | ((with_reducible refine (d6 _).mono ?_); rintro e w3 ⟨rfl, hb3⟩; (first | ((with_reducible obtain ⟨p, hw''⟩ := In.of2 p hb3); subst hw'') | (obtain ⟨p, hw''⟩ := In.of hb3; subst hw''))))
  go_ret
  exact ⟨rfl, p.back B6⟩
end Go.Proofs.Ytkbacjlnfmibaaa
