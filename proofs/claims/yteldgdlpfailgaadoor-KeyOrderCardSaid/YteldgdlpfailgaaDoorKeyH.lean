
/-
  KeyOrder, walked.
-/
import Derived.Test.YteldgdlpfailgaaDoorKeyO
import Derived.Test.YteldgdlpfailgaaDoorKeyG
set_option linter.unusedSimpArgs false
set_option linter.unusedVariables false
namespace Go.Proofs.YteldgdlpfailgaaDoor
open Go.RowKit

set_option maxRecDepth 8000 in
set_option maxHeartbeats 4000000 in
theorem keyOrder_walk (u : Value) (a : Val) (v : Value) (b : Val) (w : World) (hsh : w.ShapedOpen Tryd.prog) (hu : Has w u a) (hv : Has w v b) :
    Calls Tryd.prog 6 #[u, v] w fun e w' => e = .returned (.bool true) ∧ Below w.heap.size w w' := by
  obtain ⟨m, hm⟩ := Tryd.laysM155.s1_3 w hsh
  have hg := World.block_lt_of_cell? w ⟨maxG, 0, none⟩ hm
  have c1 : ∀ w', Below w.heap.size w w' → Calls Tryd.prog 16 #[u] w' fun e w'' => e = .returned (.bool (mayV a)) ∧ Below w'.heap.size w' w'' := fun w' h => may_c a u w' (hu.keep h)
  have c2 : ∀ w', Below w.heap.size w w' → Calls Tryd.prog 16 #[v] w' fun e w'' => e = .returned (.bool (mayV b)) ∧ Below w'.heap.size w' w'' := fun w' h => may_c b v w' (hv.keep h)
  have c3 : ∀ w', Below w.heap.size w w' → Calls Tryd.prog 19 #[u, v] w' fun e w'' => e = .returned (.int .i64 (cmpV a b)) ∧ Below w'.heap.size w' w'' := fun w' h => rcmpv_c a b u v w' (hu.keep h) (hv.keep h)
  have c4 : mayV a = true → ∀ w', Below w.heap.size w w' → Calls Tryd.prog 17 #[u] w' fun e w'' => e = .returned (.string (st (keyV a))) ∧ Below w'.heap.size w' w'' := fun hy w' h => of_c m a u w' 1 (hu.keep h) (may_of hy).1 (may_of hy).2 ((h.cell (p := ⟨maxG, 0, none⟩) hg).trans hm)
  have c5 : mayV b = true → ∀ w', Below w.heap.size w w' → Calls Tryd.prog 17 #[v] w' fun e w'' => e = .returned (.string (st (keyV b))) ∧ Below w'.heap.size w' w'' := fun hy w' h => of_c m b v w' 1 (hv.keep h) (may_of hy).1 (may_of hy).2 ((h.cell (p := ⟨maxG, 0, none⟩) hg).trans hm)
  have la : Lies a := ⟨w, u, hu⟩
  have lb : Lies b := ⟨w, v, hv⟩
  have hg1 : mayV a = true → mayV b = true → Goes a b := fun h1 h2 => goes_of _ a b 1 1 (Nat.le_refl _) la lb (may_of h1).1 (may_of h2).1
  have hg2 : mayV a = true → mayV b = true → Goes b a := fun h1 h2 => goes_of _ b a 1 1 (Nat.le_refl _) lb la (may_of h2).1 (may_of h1).1
  have hl1 : mayV a = true → (keyV a).length ≤ 16000 := fun h => by have h1 := keyV_len a; have h2 := (may_of h).2; omega
  have hl2 : mayV b = true → (keyV b).length ≤ 16000 := fun h => by have h1 := keyV_len b; have h2 := (may_of h).2; omega
  obtain ⟨A, capa, rfl, _⟩ := hu.open
  obtain ⟨B, capb, rfl, _⟩ := hv.open
  clear hu hv hm hg hsh la lb
  go_enter Tryd.func6, Tryd.ntmps6
  go_upto_region 1 with fail
  obtain ⟨w1, hw1⟩ : ∃ w1, w1 = (w.alloc (.cells #[.int .i64 a.k, .bool a.b, .int .i64 a.n, .float .f64 a.f, .string (st a.s), .slice A a.l.length capa] 37)).alloc (.cells #[.int .i64 b.k, .bool b.b, .int .i64 b.n, .float .f64 b.f, .string (st b.s), .slice B b.l.length capb] 37) := ⟨_, rfl⟩
  have bk : Below w.heap.size w w1 := hw1 ▸ (below_alloc w _).alloc (by simp) _
  obtain ⟨x6, x0, x1, x2, x3, x4, x5⟩ : Box w1 w.heap.size a.k a.b a.n a.f a.s A a.l.length capa := hw1 ▸ (Box.new w a.k a.b a.n a.f a.s A a.l.length capa _).keep (below_alloc _ _)
  obtain ⟨y6, y0, y1, y2, y3, y4, y5⟩ : Box w1 (w.heap.size + 1) b.k b.b b.n b.f b.s B b.l.length capb := hw1 ▸ Box.new2 w b.k b.b b.n b.f b.s B b.l.length capb _ _
  rw [← hw1]
  clear hw1
  have aw := fun p : In w1 => awake_c p.w
  have e1 := c1 w1 bk
  have d2 := fun p : In w1 => c2 p.w (p.back bk)
  have d3 := fun p : In w1 => c3 p.w (p.back bk)
  have d4 := fun (h : mayV a = true) (p : In w1) => c4 h p.w (p.back bk)
  have d5 := fun (h : mayV b = true) (p : In w1) => c5 h p.w (p.back bk)
  clear c1 c2 c3 c4 c5
  by_cases ha : mayV a = true
  · by_cases hb : mayV b = true
    · have d4 := d4 ha
      have d5 := d5 hb
      have hg1 := hg1 ha hb
      have hg2 := hg2 ha hb
      have hl1 := hl1 ha
      have hl2 := hl2 hb
      rw [ha] at e1
      rw [hb] at d2
      have h1 := keyV_less hg1
      have h2 := keyV_eq hg1 hg2
      have h3 := keyV_part hg1 hg2
      have hP : cmpV a b = 0 ∨ (cmpV a b ≠ 0 ∧ ((keyV b).length < (keyV a).length ∨ ((keyV a).length ≤ (keyV b).length ∧ (keyV b).take (keyV a).length ≠ keyV a))) := by
        by_cases he : cmpV a b = 0
        · exact .inl he
        · refine .inr ⟨he, ?_⟩
          by_cases hlt : (keyV b).length < (keyV a).length
          · exact .inl hlt
          · refine .inr ⟨by omega, fun e => he (h3 ?_)⟩
            rw [List.prefix_iff_eq_take]
            exact e.symm
      clear hg1 hg2 h3 ha hb
      generalize cmpV a b = c at *
      generalize keyV a = X at *
      generalize keyV b = Y at *
      rcases hP with he | ⟨he, hlt | ⟨hle, htk⟩⟩
      · subst he
        rw [decide_eq_false (by omega)] at h1
        rw [decide_eq_true rfl] at h2
        go_upto_region 4 with (first | ((with_reducible refine e1.mono ?_); rintro e w2 ⟨rfl, hb2⟩; (first | ((with_reducible obtain ⟨p, hw''⟩ := In.of2 p hb2); subst hw'') | (obtain ⟨p, hw''⟩ := In.of hb2; subst hw''))) | ((with_reducible refine (d2 _).mono ?_); rintro e w2 ⟨rfl, hb2⟩; (first | ((with_reducible obtain ⟨p, hw''⟩ := In.of2 p hb2); subst hw'') | (obtain ⟨p, hw''⟩ := In.of hb2; subst hw''))) | ((with_reducible refine (aw _).mono ?_); rintro e w3 ⟨rfl, hb3⟩; (first | ((with_reducible obtain ⟨p, hw''⟩ := In.of2 p hb3); subst hw'') | (obtain ⟨p, hw''⟩ := In.of hb3; subst hw''))) | ((with_reducible refine (d3 _).mono ?_); rintro e w3 ⟨rfl, hb3⟩; (first | ((with_reducible obtain ⟨p, hw''⟩ := In.of2 p hb3); subst hw'') | (obtain ⟨p, hw''⟩ := In.of hb3; subst hw''))))
        try simp only [List.append_eq, List.cons_append, List.nil_append]
        have f4 := fun q : In p.w => d4 (⟨q.w, p.h.trans (q.h.mono p.h.size)⟩ : In w1)
        have f5 := fun q : In p.w => d5 (⟨q.w, p.h.trans (q.h.mono p.h.size)⟩ : In w1)
        (refine wp_region_flow [] (by kernel_rfl) (by kernel_rfl) ?_; (repeat (((with_reducible refine wpFlow_steps ?_); intro K hK; go_simp; first | (with_reducible refine hK _ ?_; clear hK K) | (apply Exists.intro; (with_reducible refine ⟨fun _ => ⟨?_, _, rfl⟩, hK _ ?_⟩); (· exact rfl); clear hK K) | (apply Exists.intro; (with_reducible refine ⟨fun _ => ⟨_, rfl⟩, hK _ ?_⟩); clear hK K) | (apply Exists.intro; (with_reducible refine ⟨fun _ => ?_, hK _ ?_⟩); (· (with_reducible (first | exact f4 _ | exact f5 _))); clear hK K)))); (refine wpFlow_nil ?_; rintro w1 ⟨q0, hq0⟩; have hb := In.h q0; rw [← hq0] at hb; clear hq0 q0; (first | ((with_reducible obtain ⟨p, hw''⟩ := In.of2 p hb); subst hw'') | (obtain ⟨p, hw''⟩ := In.of hb; subst hw'')); go_simp; intros))
        go_wp2_with ((with_reducible refine (aw _).mono ?_); rintro e w3 ⟨rfl, hb3⟩; (first | ((with_reducible obtain ⟨p, hw''⟩ := In.of2 p hb3); subst hw'') | (obtain ⟨p, hw''⟩ := In.of hb3; subst hw'')))
        go_ret
        exact ⟨rfl, p.back bk⟩
      · have hlt' : (Y.length : Int) < X.length := by omega
        have he' : (c == 0) = false := by simpa using he
        rw [decide_eq_false he] at h2
        go_upto_region 4 with (first | ((with_reducible refine e1.mono ?_); rintro e w2 ⟨rfl, hb2⟩; (first | ((with_reducible obtain ⟨p, hw''⟩ := In.of2 p hb2); subst hw'') | (obtain ⟨p, hw''⟩ := In.of hb2; subst hw''))) | ((with_reducible refine (d2 _).mono ?_); rintro e w2 ⟨rfl, hb2⟩; (first | ((with_reducible obtain ⟨p, hw''⟩ := In.of2 p hb2); subst hw'') | (obtain ⟨p, hw''⟩ := In.of hb2; subst hw''))) | ((with_reducible refine (aw _).mono ?_); rintro e w3 ⟨rfl, hb3⟩; (first | ((with_reducible obtain ⟨p, hw''⟩ := In.of2 p hb3); subst hw'') | (obtain ⟨p, hw''⟩ := In.of hb3; subst hw''))) | ((with_reducible refine (d3 _).mono ?_); rintro e w3 ⟨rfl, hb3⟩; (first | ((with_reducible obtain ⟨p, hw''⟩ := In.of2 p hb3); subst hw'') | (obtain ⟨p, hw''⟩ := In.of hb3; subst hw''))))
        try simp only [List.append_eq, List.cons_append, List.nil_append]
        have f4 := fun q : In p.w => d4 (⟨q.w, p.h.trans (q.h.mono p.h.size)⟩ : In w1)
        have f5 := fun q : In p.w => d5 (⟨q.w, p.h.trans (q.h.mono p.h.size)⟩ : In w1)
        (refine wp_region_flow [] (by kernel_rfl) (by kernel_rfl) ?_; (repeat (((with_reducible refine wpFlow_steps ?_); intro K hK; go_simp; first | (with_reducible refine hK _ ?_; clear hK K) | (apply Exists.intro; (with_reducible refine ⟨fun _ => ⟨?_, _, rfl⟩, hK _ ?_⟩); (· exact rfl); clear hK K) | (apply Exists.intro; (with_reducible refine ⟨fun _ => ⟨_, rfl⟩, hK _ ?_⟩); clear hK K) | (apply Exists.intro; (with_reducible refine ⟨fun _ => ?_, hK _ ?_⟩); (· (with_reducible (first | exact f4 _ | exact f5 _))); clear hK K)))); (refine wpFlow_nil ?_; rintro w1 ⟨q0, hq0⟩; have hb := In.h q0; rw [← hq0] at hb; clear hq0 q0; (first | ((with_reducible obtain ⟨p, hw''⟩ := In.of2 p hb); subst hw'') | (obtain ⟨p, hw''⟩ := In.of hb; subst hw'')); go_simp; intros))
        go_wp2_with ((with_reducible refine (aw _).mono ?_); rintro e w3 ⟨rfl, hb3⟩; (first | ((with_reducible obtain ⟨p, hw''⟩ := In.of2 p hb3); subst hw'') | (obtain ⟨p, hw''⟩ := In.of hb3; subst hw'')))
        go_ret
        exact ⟨rfl, p.back bk⟩
      · have hle' : ¬ (Y.length : Int) < X.length := by omega
        have hle2 : (X.length : Int) ≤ Y.length := by omega
        have hex := take_st Y X.length
        have htk1 : (Y.take X.length != X) = true := by simpa using htk
        have htk2 : (Y.take X.length == X) = false := by simpa using htk
        have he' : (c == 0) = false := by simpa using he
        rw [decide_eq_false he] at h2
        generalize Y.take X.length = T at *
        go_upto_region 4 with (first | ((with_reducible refine e1.mono ?_); rintro e w2 ⟨rfl, hb2⟩; (first | ((with_reducible obtain ⟨p, hw''⟩ := In.of2 p hb2); subst hw'') | (obtain ⟨p, hw''⟩ := In.of hb2; subst hw''))) | ((with_reducible refine (d2 _).mono ?_); rintro e w2 ⟨rfl, hb2⟩; (first | ((with_reducible obtain ⟨p, hw''⟩ := In.of2 p hb2); subst hw'') | (obtain ⟨p, hw''⟩ := In.of hb2; subst hw''))) | ((with_reducible refine (aw _).mono ?_); rintro e w3 ⟨rfl, hb3⟩; (first | ((with_reducible obtain ⟨p, hw''⟩ := In.of2 p hb3); subst hw'') | (obtain ⟨p, hw''⟩ := In.of hb3; subst hw''))) | ((with_reducible refine (d3 _).mono ?_); rintro e w3 ⟨rfl, hb3⟩; (first | ((with_reducible obtain ⟨p, hw''⟩ := In.of2 p hb3); subst hw'') | (obtain ⟨p, hw''⟩ := In.of hb3; subst hw''))))
        try simp only [List.append_eq, List.cons_append, List.nil_append]
        have f4 := fun q : In p.w => d4 (⟨q.w, p.h.trans (q.h.mono p.h.size)⟩ : In w1)
        have f5 := fun q : In p.w => d5 (⟨q.w, p.h.trans (q.h.mono p.h.size)⟩ : In w1)
        (refine wp_region_flow [] (by kernel_rfl) (by kernel_rfl) ?_; (repeat (((with_reducible refine wpFlow_steps ?_); intro K hK; go_simp; first | (with_reducible refine hK _ ?_; clear hK K) | (apply Exists.intro; (with_reducible refine ⟨fun _ => ⟨?_, _, rfl⟩, hK _ ?_⟩); (· exact rfl); clear hK K) | (apply Exists.intro; (with_reducible refine ⟨fun _ => ⟨_, rfl⟩, hK _ ?_⟩); clear hK K) | (apply Exists.intro; (with_reducible refine ⟨fun _ => ?_, hK _ ?_⟩); (· (with_reducible (first | exact f4 _ | exact f5 _))); clear hK K)))); (refine wpFlow_nil ?_; rintro w1 ⟨q0, hq0⟩; have hb := In.h q0; rw [← hq0] at hb; clear hq0 q0; (first | ((with_reducible obtain ⟨p, hw''⟩ := In.of2 p hb); subst hw'') | (obtain ⟨p, hw''⟩ := In.of hb; subst hw'')); go_simp; intros))
        go_wp2_with ((with_reducible refine (aw _).mono ?_); rintro e w3 ⟨rfl, hb3⟩; (first | ((with_reducible obtain ⟨p, hw''⟩ := In.of2 p hb3); subst hw'') | (obtain ⟨p, hw''⟩ := In.of hb3; subst hw'')))
        go_ret
        exact ⟨rfl, p.back bk⟩
    · have hb : mayV b = false := by simpa using hb
      rw [ha] at e1
      rw [hb] at d2
      clear d3 d4 d5 hg1 hg2 hl1 hl2 ha hb
      go_wp2_with (first | ((with_reducible refine e1.mono ?_); rintro e w2 ⟨rfl, hb2⟩; (first | ((with_reducible obtain ⟨p, hw''⟩ := In.of2 p hb2); subst hw'') | (obtain ⟨p, hw''⟩ := In.of hb2; subst hw''))) | ((with_reducible refine (d2 _).mono ?_); rintro e w2 ⟨rfl, hb2⟩; (first | ((with_reducible obtain ⟨p, hw''⟩ := In.of2 p hb2); subst hw'') | (obtain ⟨p, hw''⟩ := In.of hb2; subst hw''))) | ((with_reducible refine (aw _).mono ?_); rintro e w3 ⟨rfl, hb3⟩; (first | ((with_reducible obtain ⟨p, hw''⟩ := In.of2 p hb3); subst hw'') | (obtain ⟨p, hw''⟩ := In.of hb3; subst hw''))))
      go_ret
      exact ⟨rfl, p.back bk⟩
  · have ha : mayV a = false := by simpa using ha
    rw [ha] at e1
    clear d2 d3 d4 d5 hg1 hg2 hl1 hl2 ha
    go_wp2_with (first | ((with_reducible refine e1.mono ?_); rintro e w2 ⟨rfl, hb2⟩; (first | ((with_reducible obtain ⟨p, hw''⟩ := In.of2 p hb2); subst hw'') | (obtain ⟨p, hw''⟩ := In.of hb2; subst hw''))) | ((with_reducible refine (aw _).mono ?_); rintro e w3 ⟨rfl, hb3⟩; (first | ((with_reducible obtain ⟨p, hw''⟩ := In.of2 p hb3); subst hw'') | (obtain ⟨p, hw''⟩ := In.of hb3; subst hw''))))
    go_ret
    exact ⟨rfl, p.back bk⟩
end Go.Proofs.YteldgdlpfailgaaDoor
