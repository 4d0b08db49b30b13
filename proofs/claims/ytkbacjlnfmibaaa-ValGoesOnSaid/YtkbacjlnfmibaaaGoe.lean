
/-
  ValGoesOn's walk.
-/
import Derived.Test.YtkbacjlnfmibaaaOrd
import Derived.Test.YtkbacjlnfmibaaaTra
set_option linter.unusedSimpArgs false
set_option linter.unusedVariables false
namespace Go.Proofs.Ytkbacjlnfmibaaa
open Go.RowKit Go.Deep

set_option maxRecDepth 8000 in
set_option maxHeartbeats 2000000 in
theorem valGoesOn_walk (u : Value) (a : Val) (v : Value) (b : Val) (x : Value) (c : Val) (w : World) (hu : Has w u a) (hv : Has w v b) (hx : Has w x c) :
    Calls Try.prog 4 #[u, v, x] w fun e w' => e = .returned (.bool true) ∧ Below w.heap.size w w' := by
  obtain ⟨na, hna⟩ := weighM a 1000 (by omega) 1000 rfl
  obtain ⟨nb, hnb⟩ := weighM b 1000 (by omega) 1000 rfl
  obtain ⟨nc, hnc⟩ := weighM c 1000 (by omega) 1000 rfl
  have cwa := fun w' h => hna u w' (hu.keep h)
  have cwb := fun w' h => hnb v w' (hv.keep h)
  have cwc := fun w' h => hnc x w' (hx.keep h)
  have hT : cmpV a b ≤ 0 → cmpV b c ≤ 0 → cmpV a c ≤ 0 := cmpV_goes ⟨w, u, hu⟩ ⟨w, v, hv⟩ ⟨w, x, hx⟩
  have c1 : ∀ w', Below w.heap.size w w' → Calls Try.prog 19 #[u, v] w' (IntEnds (cmpV a b) w') := fun w' h => cmpv_c a b u v w' (hu.keep h) (hv.keep h)
  have c2 : ∀ w', Below w.heap.size w w' → Calls Try.prog 19 #[v, x] w' (IntEnds (cmpV b c) w') := fun w' h => cmpv_c b c v x w' (hv.keep h) (hx.keep h)
  have c3 : ∀ w', Below w.heap.size w w' → Calls Try.prog 19 #[u, x] w' (IntEnds (cmpV a c) w') := fun w' h => cmpv_c a c u x w' (hu.keep h) (hx.keep h)
  obtain ⟨A, capa, rfl, _⟩ := hu.open
  obtain ⟨B, capb, rfl, _⟩ := hv.open
  obtain ⟨C, capc, rfl, _⟩ := hx.open
  clear hna hnb hnc hu hv hx
  generalize cmpV a b = k1 at *
  generalize cmpV b c = k2 at *
  generalize cmpV a c = k3 at *
  have hT' := Lib.hid hT
  clear hT
  unfold IntEnds at c1 c2 c3
  go_enter Try.func4, Try.ntmps4
  go_upto_region 1 with fail
  obtain ⟨w1, hw1⟩ : ∃ w1, w1 = ((w.alloc (.cells #[.int .i64 a.k, .bool a.b, .int .i64 a.n, .float .f64 a.f, .string (st a.s), .slice A a.l.length capa] 25)).alloc (.cells #[.int .i64 b.k, .bool b.b, .int .i64 b.n, .float .f64 b.f, .string (st b.s), .slice B b.l.length capb] 25)).alloc (.cells #[.int .i64 c.k, .bool c.b, .int .i64 c.n, .float .f64 c.f, .string (st c.s), .slice C c.l.length capc] 25) := ⟨_, rfl⟩
  have bk : Below w.heap.size w w1 := hw1 ▸ ((below_alloc w _).alloc (by simp) _).alloc (by simp; omega) _
  obtain ⟨x6, x0, x1, x2, x3, x4, x5⟩ : Box w1 w.heap.size a.k a.b a.n a.f a.s A a.l.length capa := hw1 ▸ ((Box.new w a.k a.b a.n a.f a.s A a.l.length capa _).keep (below_alloc _ _)).keep (below_alloc _ _)
  obtain ⟨y6, y0, y1, y2, y3, y4, y5⟩ : Box w1 (w.heap.size + 1) b.k b.b b.n b.f b.s B b.l.length capb := hw1 ▸ (Box.new2 w b.k b.b b.n b.f b.s B b.l.length capb _ _).keep (below_alloc _ _)
  obtain ⟨z6, z0, z1, z2, z3, z4, z5⟩ : Box w1 (w.heap.size + 1 + 1) c.k c.b c.n c.f c.s C c.l.length capc := by
    have h := Box.new2 (w.alloc (.cells #[.int .i64 a.k, .bool a.b, .int .i64 a.n, .float .f64 a.f, .string (st a.s), .slice A a.l.length capa] 25)) c.k c.b c.n c.f c.s C c.l.length capc 25 (.cells #[.int .i64 b.k, .bool b.b, .int .i64 b.n, .float .f64 b.f, .string (st b.s), .slice B b.l.length capb] 25)
    rw [hw1]
    rwa [show (w.alloc (.cells #[.int .i64 a.k, .bool a.b, .int .i64 a.n, .float .f64 a.f, .string (st a.s), .slice A a.l.length capa] 25)).heap.size = w.heap.size + 1 from by simp] at h
  rw [← hw1]
  clear hw1
  have cwb2 := fun p : In w1 => cwb p.w (p.back bk)
  have cwc2 := fun p : In w1 => cwc p.w (p.back bk)
  have d1 := fun p : In w1 => c1 p.w (p.back bk)
  have d2 := fun p : In w1 => c2 p.w (p.back bk)
  have d3 := fun p : In w1 => c3 p.w (p.back bk)
  clear cwb cwc c1 c2 c3
  have aw := fun w => awake_c w
  by_cases hA : 1000 < na
  · have hA' : (1000 : Int) < na := by omega
    go_wp2_with (first | ((with_reducible refine (cwa _ bk).mono ?_); rintro e w2 ⟨rfl, hb2⟩; (first | ((with_reducible obtain ⟨p, hw''⟩ := In.of2 p hb2); subst hw'') | (obtain ⟨p, hw''⟩ := In.of hb2; subst hw''))) | ((with_reducible refine (aw _).mono ?_); rintro e w3 ⟨rfl, hb3⟩; (first | ((with_reducible obtain ⟨p, hw''⟩ := In.of2 p hb3); subst hw'') | (obtain ⟨p, hw''⟩ := In.of hb3; subst hw''))))
    go_ret
    exact ⟨rfl, p.back bk⟩
  have hA' : ¬ (1000 : Int) < na := by omega
  by_cases hB : 1000 < nb
  · have hB' : (1000 : Int) < nb := by omega
    go_wp2_with (first | ((with_reducible refine (cwa _ bk).mono ?_); rintro e w2 ⟨rfl, hb2⟩; (first | ((with_reducible obtain ⟨p, hw''⟩ := In.of2 p hb2); subst hw'') | (obtain ⟨p, hw''⟩ := In.of hb2; subst hw''))) | ((with_reducible refine (cwb2 _).mono ?_); rintro e w2 ⟨rfl, hb2⟩; (first | ((with_reducible obtain ⟨p, hw''⟩ := In.of2 p hb2); subst hw'') | (obtain ⟨p, hw''⟩ := In.of hb2; subst hw''))) | ((with_reducible refine (aw _).mono ?_); rintro e w3 ⟨rfl, hb3⟩; (first | ((with_reducible obtain ⟨p, hw''⟩ := In.of2 p hb3); subst hw'') | (obtain ⟨p, hw''⟩ := In.of hb3; subst hw''))))
    go_ret
    exact ⟨rfl, p.back bk⟩
  have hB' : ¬ (1000 : Int) < nb := by omega
  by_cases hC : 1000 < nc
  · have hC' : (1000 : Int) < nc := by omega
    go_wp2_with (first | ((with_reducible refine (cwa _ bk).mono ?_); rintro e w2 ⟨rfl, hb2⟩; (first | ((with_reducible obtain ⟨p, hw''⟩ := In.of2 p hb2); subst hw'') | (obtain ⟨p, hw''⟩ := In.of hb2; subst hw''))) | ((with_reducible refine (cwb2 _).mono ?_); rintro e w2 ⟨rfl, hb2⟩; (first | ((with_reducible obtain ⟨p, hw''⟩ := In.of2 p hb2); subst hw'') | (obtain ⟨p, hw''⟩ := In.of hb2; subst hw''))) | ((with_reducible refine (cwc2 _).mono ?_); rintro e w2 ⟨rfl, hb2⟩; (first | ((with_reducible obtain ⟨p, hw''⟩ := In.of2 p hb2); subst hw'') | (obtain ⟨p, hw''⟩ := In.of hb2; subst hw''))) | ((with_reducible refine (aw _).mono ?_); rintro e w3 ⟨rfl, hb3⟩; (first | ((with_reducible obtain ⟨p, hw''⟩ := In.of2 p hb3); subst hw'') | (obtain ⟨p, hw''⟩ := In.of hb3; subst hw''))))
    go_ret
    exact ⟨rfl, p.back bk⟩
  have hC' : ¬ (1000 : Int) < nc := by omega
  by_cases h1 : 0 < k1
  · skip
    go_wp2_with (first | ((with_reducible refine (cwa _ bk).mono ?_); rintro e w2 ⟨rfl, hb2⟩; (first | ((with_reducible obtain ⟨p, hw''⟩ := In.of2 p hb2); subst hw'') | (obtain ⟨p, hw''⟩ := In.of hb2; subst hw''))) | ((with_reducible refine (cwb2 _).mono ?_); rintro e w2 ⟨rfl, hb2⟩; (first | ((with_reducible obtain ⟨p, hw''⟩ := In.of2 p hb2); subst hw'') | (obtain ⟨p, hw''⟩ := In.of hb2; subst hw''))) | ((with_reducible refine (cwc2 _).mono ?_); rintro e w2 ⟨rfl, hb2⟩; (first | ((with_reducible obtain ⟨p, hw''⟩ := In.of2 p hb2); subst hw'') | (obtain ⟨p, hw''⟩ := In.of hb2; subst hw''))) | ((with_reducible refine (aw _).mono ?_); rintro e w3 ⟨rfl, hb3⟩; (first | ((with_reducible obtain ⟨p, hw''⟩ := In.of2 p hb3); subst hw'') | (obtain ⟨p, hw''⟩ := In.of hb3; subst hw''))) | ((with_reducible refine (d1 _).mono ?_); rintro e w3 ⟨rfl, hb3⟩; (first | ((with_reducible obtain ⟨p, hw''⟩ := In.of2 p hb3); subst hw'') | (obtain ⟨p, hw''⟩ := In.of hb3; subst hw''))) | ((with_reducible refine (d2 _).mono ?_); rintro e w3 ⟨rfl, hb3⟩; (first | ((with_reducible obtain ⟨p, hw''⟩ := In.of2 p hb3); subst hw'') | (obtain ⟨p, hw''⟩ := In.of hb3; subst hw''))) | ((with_reducible refine (d3 _).mono ?_); rintro e w3 ⟨rfl, hb3⟩; (first | ((with_reducible obtain ⟨p, hw''⟩ := In.of2 p hb3); subst hw'') | (obtain ⟨p, hw''⟩ := In.of hb3; subst hw''))))
    go_ret
    exact ⟨rfl, p.back bk⟩
  by_cases h2 : 0 < k2
  · skip
    go_wp2_with (first | ((with_reducible refine (cwa _ bk).mono ?_); rintro e w2 ⟨rfl, hb2⟩; (first | ((with_reducible obtain ⟨p, hw''⟩ := In.of2 p hb2); subst hw'') | (obtain ⟨p, hw''⟩ := In.of hb2; subst hw''))) | ((with_reducible refine (cwb2 _).mono ?_); rintro e w2 ⟨rfl, hb2⟩; (first | ((with_reducible obtain ⟨p, hw''⟩ := In.of2 p hb2); subst hw'') | (obtain ⟨p, hw''⟩ := In.of hb2; subst hw''))) | ((with_reducible refine (cwc2 _).mono ?_); rintro e w2 ⟨rfl, hb2⟩; (first | ((with_reducible obtain ⟨p, hw''⟩ := In.of2 p hb2); subst hw'') | (obtain ⟨p, hw''⟩ := In.of hb2; subst hw''))) | ((with_reducible refine (aw _).mono ?_); rintro e w3 ⟨rfl, hb3⟩; (first | ((with_reducible obtain ⟨p, hw''⟩ := In.of2 p hb3); subst hw'') | (obtain ⟨p, hw''⟩ := In.of hb3; subst hw''))) | ((with_reducible refine (d1 _).mono ?_); rintro e w3 ⟨rfl, hb3⟩; (first | ((with_reducible obtain ⟨p, hw''⟩ := In.of2 p hb3); subst hw'') | (obtain ⟨p, hw''⟩ := In.of hb3; subst hw''))) | ((with_reducible refine (d2 _).mono ?_); rintro e w3 ⟨rfl, hb3⟩; (first | ((with_reducible obtain ⟨p, hw''⟩ := In.of2 p hb3); subst hw'') | (obtain ⟨p, hw''⟩ := In.of hb3; subst hw''))) | ((with_reducible refine (d3 _).mono ?_); rintro e w3 ⟨rfl, hb3⟩; (first | ((with_reducible obtain ⟨p, hw''⟩ := In.of2 p hb3); subst hw'') | (obtain ⟨p, hw''⟩ := In.of hb3; subst hw''))))
    go_ret
    exact ⟨rfl, p.back bk⟩
  have h3 : k3 ≤ 0 := hT'.out (by omega) (by omega)
  go_wp2_with (first | ((with_reducible refine (cwa _ bk).mono ?_); rintro e w2 ⟨rfl, hb2⟩; (first | ((with_reducible obtain ⟨p, hw''⟩ := In.of2 p hb2); subst hw'') | (obtain ⟨p, hw''⟩ := In.of hb2; subst hw''))) | ((with_reducible refine (cwb2 _).mono ?_); rintro e w2 ⟨rfl, hb2⟩; (first | ((with_reducible obtain ⟨p, hw''⟩ := In.of2 p hb2); subst hw'') | (obtain ⟨p, hw''⟩ := In.of hb2; subst hw''))) | ((with_reducible refine (cwc2 _).mono ?_); rintro e w2 ⟨rfl, hb2⟩; (first | ((with_reducible obtain ⟨p, hw''⟩ := In.of2 p hb2); subst hw'') | (obtain ⟨p, hw''⟩ := In.of hb2; subst hw''))) | ((with_reducible refine (aw _).mono ?_); rintro e w3 ⟨rfl, hb3⟩; (first | ((with_reducible obtain ⟨p, hw''⟩ := In.of2 p hb3); subst hw'') | (obtain ⟨p, hw''⟩ := In.of hb3; subst hw''))) | ((with_reducible refine (d1 _).mono ?_); rintro e w3 ⟨rfl, hb3⟩; (first | ((with_reducible obtain ⟨p, hw''⟩ := In.of2 p hb3); subst hw'') | (obtain ⟨p, hw''⟩ := In.of hb3; subst hw''))) | ((with_reducible refine (d2 _).mono ?_); rintro e w3 ⟨rfl, hb3⟩; (first | ((with_reducible obtain ⟨p, hw''⟩ := In.of2 p hb3); subst hw'') | (obtain ⟨p, hw''⟩ := In.of hb3; subst hw''))) | ((with_reducible refine (d3 _).mono ?_); rintro e w3 ⟨rfl, hb3⟩; (first | ((with_reducible obtain ⟨p, hw''⟩ := In.of2 p hb3); subst hw'') | (obtain ⟨p, hw''⟩ := In.of hb3; subst hw''))))
  go_ret
  exact ⟨rfl, p.back bk⟩
end Go.Proofs.Ytkbacjlnfmibaaa
