
/-
  ValOrder's walk.
-/
import Derived.Test.YtkbacjlnfmibaaaAwk
import Derived.Test.YtkbacjlnfmibaaaWgh
import Derived.Test.YtkbacjlnfmibaaaValP
set_option linter.unusedSimpArgs false
set_option linter.unusedVariables false
namespace Go.Proofs.Ytkbacjlnfmibaaa
open Go.RowKit Go.Deep

theorem weighM (v : Val) (m : Nat) (hm : m ≤ 10000) (M : Int) (hM : (m : Int) = M) : ∃ n : Nat, ∀ (u : Value) (w : World), Has w u v → Calls Try.prog 11 #[u, .int .i64 M] w fun e w' => e = .returned (.int .i64 n) ∧ Below w.heap.size w w' :=
  ⟨min (wsz v) (m + 1), fun u w h => hM ▸ weighN_c v u w m h hm⟩
set_option maxRecDepth 8000 in
set_option maxHeartbeats 2000000 in
theorem valOrder_walk (u : Value) (a : Val) (v : Value) (b : Val) (w : World) (hu : Has w u a) (hv : Has w v b) :
    Calls Try.prog 7 #[u, v] w fun e w' => e = .returned (.bool true) ∧ Below w.heap.size w w' := by
  obtain ⟨na, hna⟩ := weighM a 3000 (by omega) 3000 rfl
  obtain ⟨nb, hnb⟩ := weighM b 3000 (by omega) 3000 rfl
  have cwa := fun w' h => hna u w' (hu.keep h)
  have cwb := fun w' h => hnb v w' (hv.keep h)
  have hN := cmpV_anti a b
  have c1 : ∀ w', Below w.heap.size w w' → Calls Try.prog 26 #[u, v] w' (IntEnds (cmpV a b) w') := fun w' h => rcmpv_c a b u v w' (hu.keep h) (hv.keep h)
  have c2 : ∀ w', Below w.heap.size w w' → Calls Try.prog 19 #[u, v] w' (IntEnds (cmpV a b) w') := fun w' h => cmpv_c a b u v w' (hu.keep h) (hv.keep h)
  have c3 : ∀ w', Below w.heap.size w w' → Calls Try.prog 19 #[v, u] w' (IntEnds (cmpV b a) w') := fun w' h => cmpv_c b a v u w' (hv.keep h) (hu.keep h)
  have c4 : ∀ w', Below w.heap.size w w' → Calls Try.prog 27 #[u, v] w' fun e w'' => e = .returned (.bool (cmpV a b == 0)) ∧ Below w'.heap.size w' w'' := fun w' h => samev_c a b u v w' (hu.keep h) (hv.keep h)
  obtain ⟨A, capa, rfl, _⟩ := hu.open
  obtain ⟨B, capb, rfl, _⟩ := hv.open
  clear hna hnb hu hv
  generalize cmpV a b = c at *
  generalize cmpV b a = d at *
  have hd : decide (d < 0) = decide (0 < c) := by rw [hN, decide_eq_decide]; omega
  clear hN
  unfold IntEnds at c1 c2 c3
  go_enter Try.func7, Try.ntmps7
  go_upto_region 1 with fail
  obtain ⟨w1, hw1⟩ : ∃ w1, w1 = (w.alloc (.cells #[.int .i64 a.k, .bool a.b, .int .i64 a.n, .float .f64 a.f, .string (st a.s), .slice A a.l.length capa] 25)).alloc (.cells #[.int .i64 b.k, .bool b.b, .int .i64 b.n, .float .f64 b.f, .string (st b.s), .slice B b.l.length capb] 25) := ⟨_, rfl⟩
  have bk : Below w.heap.size w w1 := hw1 ▸ (below_alloc w _).alloc (by simp) _
  obtain ⟨x6, x0, x1, x2, x3, x4, x5⟩ : Box w1 w.heap.size a.k a.b a.n a.f a.s A a.l.length capa := hw1 ▸ (Box.new w a.k a.b a.n a.f a.s A a.l.length capa _).keep (below_alloc _ _)
  obtain ⟨y6, y0, y1, y2, y3, y4, y5⟩ : Box w1 (w.heap.size + 1) b.k b.b b.n b.f b.s B b.l.length capb := hw1 ▸ Box.new2 w b.k b.b b.n b.f b.s B b.l.length capb _ _
  rw [← hw1]
  clear hw1
  have cwa2 := fun p : In w1 => cwa p.w (p.back bk)
  have cwb2 := fun p : In w1 => cwb p.w (p.back bk)
  have d1 := fun p : In w1 => c1 p.w (p.back bk)
  have d2 := fun p : In w1 => c2 p.w (p.back bk)
  have d3 := fun p : In w1 => c3 p.w (p.back bk)
  have d4 := fun p : In w1 => c4 p.w (p.back bk)
  clear cwb c1 c2 c3 c4
  have aw := fun w => awake_c w
  by_cases hA : 3000 < na
  · have hA' : (3000 : Int) < na := by omega
    go_wp2_with (first | ((with_reducible refine (cwa _ bk).mono ?_); rintro e w2 ⟨rfl, hb2⟩; (first | ((with_reducible obtain ⟨p, hw''⟩ := In.of2 p hb2); subst hw'') | (obtain ⟨p, hw''⟩ := In.of hb2; subst hw''))) | ((with_reducible refine (aw _).mono ?_); rintro e w3 ⟨rfl, hb3⟩; (first | ((with_reducible obtain ⟨p, hw''⟩ := In.of2 p hb3); subst hw'') | (obtain ⟨p, hw''⟩ := In.of hb3; subst hw''))))
    go_ret
    exact ⟨rfl, p.back bk⟩
  · have hA' : ¬ (3000 : Int) < na := by omega
    by_cases hB : 3000 < nb
    · have hB' : (3000 : Int) < nb := by omega
      go_wp2_with (first | ((with_reducible refine (cwa _ bk).mono ?_); rintro e w2 ⟨rfl, hb2⟩; (first | ((with_reducible obtain ⟨p, hw''⟩ := In.of2 p hb2); subst hw'') | (obtain ⟨p, hw''⟩ := In.of hb2; subst hw''))) | ((with_reducible refine (cwb2 _).mono ?_); rintro e w2 ⟨rfl, hb2⟩; (first | ((with_reducible obtain ⟨p, hw''⟩ := In.of2 p hb2); subst hw'') | (obtain ⟨p, hw''⟩ := In.of hb2; subst hw''))) | ((with_reducible refine (aw _).mono ?_); rintro e w3 ⟨rfl, hb3⟩; (first | ((with_reducible obtain ⟨p, hw''⟩ := In.of2 p hb3); subst hw'') | (obtain ⟨p, hw''⟩ := In.of hb3; subst hw''))))
      go_ret
      exact ⟨rfl, p.back bk⟩
    · have hB' : ¬ (3000 : Int) < nb := by omega
      try simp only [List.append_eq, List.cons_append, List.nil_append]
      go_wp2_with (first | ((with_reducible refine (cwa _ bk).mono ?_); rintro e w2 ⟨rfl, hb2⟩; (first | ((with_reducible obtain ⟨p, hw''⟩ := In.of2 p hb2); subst hw'') | (obtain ⟨p, hw''⟩ := In.of hb2; subst hw''))) | ((with_reducible refine (cwb2 _).mono ?_); rintro e w2 ⟨rfl, hb2⟩; (first | ((with_reducible obtain ⟨p, hw''⟩ := In.of2 p hb2); subst hw'') | (obtain ⟨p, hw''⟩ := In.of hb2; subst hw''))) | ((with_reducible refine (aw _).mono ?_); rintro e w3 ⟨rfl, hb3⟩; (first | ((with_reducible obtain ⟨p, hw''⟩ := In.of2 p hb3); subst hw'') | (obtain ⟨p, hw''⟩ := In.of hb3; subst hw''))) | ((with_reducible refine (d1 _).mono ?_); rintro e w3 ⟨rfl, hb3⟩; (first | ((with_reducible obtain ⟨p, hw''⟩ := In.of2 p hb3); subst hw'') | (obtain ⟨p, hw''⟩ := In.of hb3; subst hw''))) | ((with_reducible refine (d2 _).mono ?_); rintro e w3 ⟨rfl, hb3⟩; (first | ((with_reducible obtain ⟨p, hw''⟩ := In.of2 p hb3); subst hw'') | (obtain ⟨p, hw''⟩ := In.of hb3; subst hw''))) | ((with_reducible refine (d3 _).mono ?_); rintro e w3 ⟨rfl, hb3⟩; (first | ((with_reducible obtain ⟨p, hw''⟩ := In.of2 p hb3); subst hw'') | (obtain ⟨p, hw''⟩ := In.of hb3; subst hw''))) | ((with_reducible refine (d4 _).mono ?_); rintro e w3 ⟨rfl, hb3⟩; (first | ((with_reducible obtain ⟨p, hw''⟩ := In.of2 p hb3); subst hw'') | (obtain ⟨p, hw''⟩ := In.of hb3; subst hw''))))
      go_ret
      exact ⟨rfl, p.back bk⟩
end Go.Proofs.Ytkbacjlnfmibaaa
