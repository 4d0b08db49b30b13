
/-
  PredChecks, walked.
-/
import Derived.Test.YtglcnnnjdkjggaaPrz
import Derived.Test.YtglcnnnjdkjggaaPrx
import Derived.Test.YtglcnnnjdkjggaaPra
import Derived.Test.YtglcnnnjdkjggaaPrdF
set_option linter.unusedSimpArgs false
set_option linter.unusedVariables false
namespace Go.Proofs.Ytglcnnnjdkjggaa
open Go.RowKit

set_option maxRecDepth 8000 in
set_option maxHeartbeats 1000000 in
theorem pCheckQ_c (q : Pr) (u : Value) (w : World) (hv : HasQ w u q) : Calls Try.prog 9 #[u] w fun e w' => e = .returned (.bool (checkQ q 1)) ∧ Below w.heap.size w w' := by
  have cs : ∀ w', Below w.heap.size w w' → Calls Try.prog 15 #[u, .int .i64 1] w' fun e w'' => e = .returned (.bool (checkQ q 1)) ∧ Below w'.heap.size w' w'' := fun w' hb => pcheckQ_c q u w' 1 (hv.keep hb) (by omega)
  obtain ⟨A, cap, K, kcap, rfl, _⟩ := hv.open
  clear hv
  generalize checkQ q 1 = r at *
  go_enter Try.func9, Try.ntmps9
  go_wp2_with ((with_reducible refine (cs _ (below_alloc _ _)).mono ?_); rintro e w2 ⟨rfl, hb2⟩)
  go_ret
  exact ⟨rfl, (below_alloc _ _).trans (hb2.mono (below_alloc _ _).size)⟩
set_option maxRecDepth 8000 in
set_option maxHeartbeats 1000000 in
theorem rCheckQ_c (q : Pr) (u : Value) (w : World) (hv : HasQ w u q) : Calls Try.prog 10 #[u] w fun e w' => e = .returned (.bool (checkQ q 1)) ∧ Below w.heap.size w w' := by
  have cs : ∀ w', Below w.heap.size w w' → Calls Try.prog 16 #[u, .int .i64 1] w' fun e w'' => e = .returned (.bool (checkQ q 1)) ∧ Below w'.heap.size w' w'' := fun w' hb => rcheckQ_c q u w' 1 (hv.keep hb) (by omega)
  obtain ⟨A, cap, K, kcap, rfl, _⟩ := hv.open
  clear hv
  generalize checkQ q 1 = r at *
  go_enter Try.func10, Try.ntmps10
  go_wp2_with ((with_reducible refine (cs _ (below_alloc _ _)).mono ?_); rintro e w2 ⟨rfl, hb2⟩)
  go_ret
  exact ⟨rfl, (below_alloc _ _).trans (hb2.mono (below_alloc _ _).size)⟩
set_option maxRecDepth 8000 in
set_option maxHeartbeats 2000000 in
theorem predChecks_walk (u : Value) (q : Pr) (w : World) (hv : HasQ w u q) :
    Calls Try.prog 3 #[u] w fun e w' => e = .returned (.bool true) ∧ Below w.heap.size w w' := by
  have aw := fun w => awake_c w
  have c1 : ∀ w', Below w.heap.size w w' → Calls Try.prog 8 #[u, .int .i64 500] w' (SomeEnds q 500 w') := fun w' hb => weighQ_c q u w' 500 (hv.keep hb) (by omega)
  have c2 : ∀ w', Below w.heap.size w w' → Calls Try.prog 9 #[u] w' fun e w'' => e = .returned (.bool (checkQ q 1)) ∧ Below w'.heap.size w' w'' := fun w' hb => pCheckQ_c q u w' (hv.keep hb)
  have c3 : ∀ w', Below w.heap.size w w' → Calls Try.prog 10 #[u] w' fun e w'' => e = .returned (.bool (checkQ q 1)) ∧ Below w'.heap.size w' w'' := fun w' hb => rCheckQ_c q u w' (hv.keep hb)
  unfold SomeEnds at c1
  obtain ⟨A, cap, K, kcap, rfl, _⟩ := hv.open
  clear hv
  generalize checkQ q 1 = r at *
  generalize min (qwt q) (500 + 1) = N at *
  go_enter Try.func3, Try.ntmps3
  go_upto_region 1 with fail
  obtain ⟨w1, hw1⟩ : ∃ w1, w1 = w.alloc (.cells #[.string (st q.op), .slice A q.l.length cap, .slice K q.kids.length kcap] 25) := ⟨_, rfl⟩
  have bk : Below w.heap.size w w1 := hw1 ▸ below_alloc w _
  have x0 : w1.cell? ⟨w.heap.size, 0, none⟩ = some (.string (st q.op)) := by rw [hw1]; simp [go_sem]
  have x1 : w1.cell? ⟨w.heap.size, 1, none⟩ = some (.slice A q.l.length cap) := by rw [hw1]; simp [go_sem]
  have x2 : w1.cell? ⟨w.heap.size, 2, none⟩ = some (.slice K q.kids.length kcap) := by rw [hw1]; simp [go_sem]
  have x6 : w.heap.size < w1.heap.size := by rw [hw1]; simp
  rw [← hw1]
  clear hw1
  have d1 := fun p : In w1 => c1 p.w (p.back bk)
  have d2 := fun p : In w1 => c2 p.w (p.back bk)
  have d3 := fun p : In w1 => c3 p.w (p.back bk)
  clear c1 c2 c3
  have aw := fun p : In w1 => awake_c p.w
  by_cases hN : 500 < N
  · have hN' : (500 : Int) < N := by omega
    clear d2 d3
    (refine wp_region_flow [] (by kernel_rfl) (by kernel_rfl) ?_; (repeat (((with_reducible refine wpFlow_steps ?_); intro K hK; go_simp; first | (with_reducible refine hK _ ?_; clear hK K) | (apply Exists.intro; (with_reducible refine ⟨fun _ => ⟨?_, _, rfl⟩, hK _ ?_⟩); (· exact rfl); clear hK K) | (apply Exists.intro; (with_reducible refine ⟨fun _ => ⟨_, rfl⟩, hK _ ?_⟩); clear hK K) | (apply Exists.intro; (with_reducible refine ⟨fun _ => ?_, hK _ ?_⟩); (· (with_reducible (first | exact aw _ | exact d1 _))); clear hK K)))); (refine wpFlow_nil ?_; rintro w1 ⟨q0, hq0⟩; have hb := In.h q0; rw [← hq0] at hb; clear hq0 q0; (first | ((with_reducible obtain ⟨p, hw''⟩ := In.of2 p hb); subst hw'') | (obtain ⟨p, hw''⟩ := In.of hb; subst hw'')); go_simp; intros))
    go_wp2_with fail
    go_ret
    exact ⟨rfl, p.back bk⟩
  · have hN' : ¬ (500 : Int) < N := by omega
    (refine wp_region_flow [] (by kernel_rfl) (by kernel_rfl) ?_; (repeat (((with_reducible refine wpFlow_steps ?_); intro K hK; go_simp; first | (with_reducible refine hK _ ?_; clear hK K) | (apply Exists.intro; (with_reducible refine ⟨fun _ => ⟨?_, _, rfl⟩, hK _ ?_⟩); (· exact rfl); clear hK K) | (apply Exists.intro; (with_reducible refine ⟨fun _ => ⟨_, rfl⟩, hK _ ?_⟩); clear hK K) | (apply Exists.intro; (with_reducible refine ⟨fun _ => ?_, hK _ ?_⟩); (· (with_reducible (first | exact aw _ | exact d1 _ | exact d2 _ | exact d3 _))); clear hK K)))); (refine wpFlow_nil ?_; rintro w1 ⟨q0, hq0⟩; have hb := In.h q0; rw [← hq0] at hb; clear hq0 q0; (first | ((with_reducible obtain ⟨p, hw''⟩ := In.of2 p hb); subst hw'') | (obtain ⟨p, hw''⟩ := In.of hb; subst hw'')); go_simp; intros))
    go_wp2_with fail
    go_ret
    exact ⟨rfl, p.back bk⟩
end Go.Proofs.Ytglcnnnjdkjggaa
