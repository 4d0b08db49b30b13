
/-
  Which predicates may be, of any: pred.check, walked.
-/
import Derived.Test.YtglcnnnjdkjggaaPry
set_option linter.unusedSimpArgs false
set_option linter.unusedVariables false
namespace Go.Proofs.Ytglcnnnjdkjggaa
open Go.RowKit

set_option maxRecDepth 8000 in
set_option maxHeartbeats 8000000 in
theorem pcheckQ_c (q : Pr) : ∀ (u : Value) (w : World) (d : Nat), HasQ w u q → d ≤ 81 → Calls Try.prog 15 #[u, .int .i64 (d : Int)] w fun e w' => e = .returned (.bool (checkQ q d)) ∧ Below w.heap.size w w' := by
  generalize hz : qsz q = z
  induction z using Nat.strongRecOn generalizing q with
  | _ z ih =>
    intro u w d hv hd
    obtain ⟨A, cap, K, kcap, rfl, hs, hp, hl, hm, hkl, hkm, hk⟩ := hv.open
    have hpart := fun i x => qsz_part (q := q) (x := x) (i := i)
    rw [hz] at hpart
    obtain ⟨op, l, kids⟩ := q
    dsimp only [Pr.op, Pr.l, Pr.kids] at *
    have hK : KidsAt w K kids := hk
    have hq := Lib.hid (show checkQ (.mk op l kids) d = (decide (d ≤ 80) && shapeQ op l.length kids.length && !anyBad l && checkQL kids (d + 1)) by rw [checkQ])
    have hml : l.length ≤ maxLen := Nat.le_trans hl hm
    have hmk : kids.length ≤ maxLen := Nat.le_trans hkl hkm
    have cp := fun w => predsAll_c op w
    have cb : ∀ w', Below w.heap.size w w' → Calls Try.prog 24 #[.slice A l.length cap, .func (.func 22) #[] #[]] w' fun e w'' => e = .returned (.bool (anyBad l)) ∧ Below w'.heap.size w' w'' := fun w' hb => containsBad_c l A cap w' (hp.keep hb) hml
    have ck : d ≤ 80 → ∀ w' g, Below w.heap.size w w' → w'.cell? ⟨g, 0, none⟩ = some (.int .i64 (d : Int)) → Calls Try.prog 25 #[.slice K kids.length kcap, kidF g] w' fun e w'' => e = .returned (.bool (!checkQL kids (d + 1))) ∧ Below w'.heap.size w' w'' := fun h80 w' g hb hc =>
      containsKid_c g d kids K kcap w' h80 hc (hK.keep hb) hmk fun i x hx u w'' hu => by
        have := ih (qsz x) (hpart i x hx) x rfl u w'' (d + 1) hu (by omega)
        simpa using this
    clear hv hz hp hK hk ih hpart
    generalize hR : checkQ (.mk op l kids) d = R at *
    clear hR
    go_enter Try.func15, Try.ntmps15
    go_upto_region 1 with fail
    obtain ⟨w1, hw1⟩ : ∃ w1, w1 = (w.alloc (.cells #[.string (st op), .slice A l.length cap, .slice K kids.length kcap] 25)).alloc (.cells #[.int .i64 (d : Int)] 3) := ⟨_, rfl⟩
    have bk : Below w.heap.size w w1 := hw1 ▸ (below_alloc w _).alloc (by simp) _
    have x6 : w.heap.size + 1 < w1.heap.size := by rw [hw1]; simp
    have x0 : w1.cell? ⟨w.heap.size, 0, none⟩ = some (.string (st op)) := by rw [hw1]; simp [go_sem]
    have x1 : w1.cell? ⟨w.heap.size, 1, none⟩ = some (.slice A l.length cap) := by rw [hw1]; simp [go_sem]
    have x2 : w1.cell? ⟨w.heap.size, 2, none⟩ = some (.slice K kids.length kcap) := by rw [hw1]; simp [go_sem]
    have y0 : w1.cell? ⟨w.heap.size + 1, 0, none⟩ = some (.int .i64 (d : Int)) := by rw [hw1]; simp [go_sem]
    have x7 : w.heap.size < w1.heap.size := by omega
    rw [← hw1]
    clear hw1
    by_cases h80 : 80 < d
    · have h80' : (80 : Int) < d := by omega
      have hR := Lib.hid (show R = false by rw [hq.out, decide_eq_false (by omega : ¬ d ≤ 80)]; rfl)
      clear hq cp cb ck
      go_wp2_with fail
      go_ret
      exact ⟨ret_bool hR.out.symm, bk⟩
    · have h80' : ¬ (80 : Int) < d := by omega
      have ck := ck (by omega)
      have db := fun p : In w1 => cb p.w (p.back bk)
      have dk := fun p : In w1 => ck p.w (w.heap.size + 1) (p.back bk) ((p.h.cell (p := ⟨w.heap.size + 1, 0, none⟩) x6).trans y0)
      have d0 := cb w1 bk
      clear cb ck
      have hq' := Lib.hid (show R = (shapeQ op l.length kids.length && !anyBad l && checkQL kids (d + 1)) by rw [hq.out, decide_eq_true (by omega : d ≤ 80), Bool.true_and])
      clear hq
      generalize anyBad l = ab at *
      generalize checkQL kids (d + 1) = kb at *
      have hq := hq'
      clear hq'
      by_cases o1 : op = [97, 110, 100]
      · subst o1
        clear cp
        by_cases hk2 : kids.length = 2
        · have hk2' : ((kids.length : Int) != 2) = false := by rw [bne_eq_false_iff_eq]; omega
          by_cases hl0 : l.length = 0
          · have hl0' : ((l.length : Int) != 0) = false := by rw [bne_eq_false_iff_eq]; omega
            have hl12 : ¬ (12 : Int) < l.length := by omega
            have hR := Lib.hid (show R = (!ab && kb) by rw [hq.out, show shapeQ [97, 110, 100] l.length kids.length = true by simp [shapeQ, hk2, hl0]]; simp)
            clear hq hk2 hl0
            cases ab
            · go_wp2_with (first | ((with_reducible refine (cp _).mono ?_); rintro e w2 ⟨rfl, hb2⟩; (first | ((with_reducible obtain ⟨p, hw''⟩ := In.of2 p hb2); subst hw'') | (obtain ⟨p, hw''⟩ := In.of hb2; subst hw''))) | ((with_reducible refine d0.mono ?_); rintro e w3 ⟨rfl, hb3⟩; (first | ((with_reducible obtain ⟨p, hw''⟩ := In.of2 p hb3); subst hw'') | (obtain ⟨p, hw''⟩ := In.of hb3; subst hw''))) | ((with_reducible refine (db _).mono ?_); rintro e w3 ⟨rfl, hb3⟩; (first | ((with_reducible obtain ⟨p, hw''⟩ := In.of2 p hb3); subst hw'') | (obtain ⟨p, hw''⟩ := In.of hb3; subst hw''))) | ((with_reducible refine (dk _).mono ?_); rintro e w4 ⟨rfl, hb4⟩; (first | ((with_reducible obtain ⟨p, hw''⟩ := In.of2 p hb4); subst hw'') | (obtain ⟨p, hw''⟩ := In.of hb4; subst hw''))))
              go_ret
              exact ⟨ret_bool (by rw [hR.out]; cases kb <;> rfl), p.back bk⟩
            · go_wp2_with (first | ((with_reducible refine (cp _).mono ?_); rintro e w2 ⟨rfl, hb2⟩; (first | ((with_reducible obtain ⟨p, hw''⟩ := In.of2 p hb2); subst hw'') | (obtain ⟨p, hw''⟩ := In.of hb2; subst hw''))) | ((with_reducible refine d0.mono ?_); rintro e w3 ⟨rfl, hb3⟩; (first | ((with_reducible obtain ⟨p, hw''⟩ := In.of2 p hb3); subst hw'') | (obtain ⟨p, hw''⟩ := In.of hb3; subst hw''))) | ((with_reducible refine (db _).mono ?_); rintro e w3 ⟨rfl, hb3⟩; (first | ((with_reducible obtain ⟨p, hw''⟩ := In.of2 p hb3); subst hw'') | (obtain ⟨p, hw''⟩ := In.of hb3; subst hw''))) | ((with_reducible refine (dk _).mono ?_); rintro e w4 ⟨rfl, hb4⟩; (first | ((with_reducible obtain ⟨p, hw''⟩ := In.of2 p hb4); subst hw'') | (obtain ⟨p, hw''⟩ := In.of hb4; subst hw''))))
              go_ret
              exact ⟨ret_bool (by rw [hR.out]; rfl), p.back bk⟩
          · have hl0' : ((l.length : Int) != 0) = true := by rw [bne_iff_ne]; omega
            have hR := Lib.hid (show R = false by rw [hq.out, show shapeQ [97, 110, 100] l.length kids.length = false by simp [shapeQ, hl0]]; simp)
            clear hq hk2 hl0
            go_wp2_with (first | ((with_reducible refine (cp _).mono ?_); rintro e w2 ⟨rfl, hb2⟩; (first | ((with_reducible obtain ⟨p, hw''⟩ := In.of2 p hb2); subst hw'') | (obtain ⟨p, hw''⟩ := In.of hb2; subst hw''))) | ((with_reducible refine d0.mono ?_); rintro e w3 ⟨rfl, hb3⟩; (first | ((with_reducible obtain ⟨p, hw''⟩ := In.of2 p hb3); subst hw'') | (obtain ⟨p, hw''⟩ := In.of hb3; subst hw''))) | ((with_reducible refine (db _).mono ?_); rintro e w3 ⟨rfl, hb3⟩; (first | ((with_reducible obtain ⟨p, hw''⟩ := In.of2 p hb3); subst hw'') | (obtain ⟨p, hw''⟩ := In.of hb3; subst hw''))) | ((with_reducible refine (dk _).mono ?_); rintro e w4 ⟨rfl, hb4⟩; (first | ((with_reducible obtain ⟨p, hw''⟩ := In.of2 p hb4); subst hw'') | (obtain ⟨p, hw''⟩ := In.of hb4; subst hw''))))
            go_ret
            exact ⟨ret_bool hR.out.symm, bk⟩
        · have hk2' : ((kids.length : Int) != 2) = true := by rw [bne_iff_ne]; omega
          have hR := Lib.hid (show R = false by rw [hq.out, show shapeQ [97, 110, 100] l.length kids.length = false by simp [shapeQ, hk2]]; simp)
          clear hq hk2
          go_wp2_with (first | ((with_reducible refine (cp _).mono ?_); rintro e w2 ⟨rfl, hb2⟩; (first | ((with_reducible obtain ⟨p, hw''⟩ := In.of2 p hb2); subst hw'') | (obtain ⟨p, hw''⟩ := In.of hb2; subst hw''))) | ((with_reducible refine d0.mono ?_); rintro e w3 ⟨rfl, hb3⟩; (first | ((with_reducible obtain ⟨p, hw''⟩ := In.of2 p hb3); subst hw'') | (obtain ⟨p, hw''⟩ := In.of hb3; subst hw''))) | ((with_reducible refine (db _).mono ?_); rintro e w3 ⟨rfl, hb3⟩; (first | ((with_reducible obtain ⟨p, hw''⟩ := In.of2 p hb3); subst hw'') | (obtain ⟨p, hw''⟩ := In.of hb3; subst hw''))) | ((with_reducible refine (dk _).mono ?_); rintro e w4 ⟨rfl, hb4⟩; (first | ((with_reducible obtain ⟨p, hw''⟩ := In.of2 p hb4); subst hw'') | (obtain ⟨p, hw''⟩ := In.of hb4; subst hw''))))
          go_ret
          exact ⟨ret_bool hR.out.symm, bk⟩
      by_cases o2 : op = [111, 114]
      · subst o2
        clear cp
        by_cases hk2 : kids.length = 2
        · have hk2' : ((kids.length : Int) != 2) = false := by rw [bne_eq_false_iff_eq]; omega
          by_cases hl0 : l.length = 0
          · have hl0' : ((l.length : Int) != 0) = false := by rw [bne_eq_false_iff_eq]; omega
            have hl12 : ¬ (12 : Int) < l.length := by omega
            have hR := Lib.hid (show R = (!ab && kb) by rw [hq.out, show shapeQ [111, 114] l.length kids.length = true by simp [shapeQ, hk2, hl0]]; simp)
            clear hq hk2 hl0
            cases ab
            · go_wp2_with (first | ((with_reducible refine (cp _).mono ?_); rintro e w2 ⟨rfl, hb2⟩; (first | ((with_reducible obtain ⟨p, hw''⟩ := In.of2 p hb2); subst hw'') | (obtain ⟨p, hw''⟩ := In.of hb2; subst hw''))) | ((with_reducible refine d0.mono ?_); rintro e w3 ⟨rfl, hb3⟩; (first | ((with_reducible obtain ⟨p, hw''⟩ := In.of2 p hb3); subst hw'') | (obtain ⟨p, hw''⟩ := In.of hb3; subst hw''))) | ((with_reducible refine (db _).mono ?_); rintro e w3 ⟨rfl, hb3⟩; (first | ((with_reducible obtain ⟨p, hw''⟩ := In.of2 p hb3); subst hw'') | (obtain ⟨p, hw''⟩ := In.of hb3; subst hw''))) | ((with_reducible refine (dk _).mono ?_); rintro e w4 ⟨rfl, hb4⟩; (first | ((with_reducible obtain ⟨p, hw''⟩ := In.of2 p hb4); subst hw'') | (obtain ⟨p, hw''⟩ := In.of hb4; subst hw''))))
              go_ret
              exact ⟨ret_bool (by rw [hR.out]; cases kb <;> rfl), p.back bk⟩
            · go_wp2_with (first | ((with_reducible refine (cp _).mono ?_); rintro e w2 ⟨rfl, hb2⟩; (first | ((with_reducible obtain ⟨p, hw''⟩ := In.of2 p hb2); subst hw'') | (obtain ⟨p, hw''⟩ := In.of hb2; subst hw''))) | ((with_reducible refine d0.mono ?_); rintro e w3 ⟨rfl, hb3⟩; (first | ((with_reducible obtain ⟨p, hw''⟩ := In.of2 p hb3); subst hw'') | (obtain ⟨p, hw''⟩ := In.of hb3; subst hw''))) | ((with_reducible refine (db _).mono ?_); rintro e w3 ⟨rfl, hb3⟩; (first | ((with_reducible obtain ⟨p, hw''⟩ := In.of2 p hb3); subst hw'') | (obtain ⟨p, hw''⟩ := In.of hb3; subst hw''))) | ((with_reducible refine (dk _).mono ?_); rintro e w4 ⟨rfl, hb4⟩; (first | ((with_reducible obtain ⟨p, hw''⟩ := In.of2 p hb4); subst hw'') | (obtain ⟨p, hw''⟩ := In.of hb4; subst hw''))))
              go_ret
              exact ⟨ret_bool (by rw [hR.out]; rfl), p.back bk⟩
          · have hl0' : ((l.length : Int) != 0) = true := by rw [bne_iff_ne]; omega
            have hR := Lib.hid (show R = false by rw [hq.out, show shapeQ [111, 114] l.length kids.length = false by simp [shapeQ, hl0]]; simp)
            clear hq hk2 hl0
            go_wp2_with (first | ((with_reducible refine (cp _).mono ?_); rintro e w2 ⟨rfl, hb2⟩; (first | ((with_reducible obtain ⟨p, hw''⟩ := In.of2 p hb2); subst hw'') | (obtain ⟨p, hw''⟩ := In.of hb2; subst hw''))) | ((with_reducible refine d0.mono ?_); rintro e w3 ⟨rfl, hb3⟩; (first | ((with_reducible obtain ⟨p, hw''⟩ := In.of2 p hb3); subst hw'') | (obtain ⟨p, hw''⟩ := In.of hb3; subst hw''))) | ((with_reducible refine (db _).mono ?_); rintro e w3 ⟨rfl, hb3⟩; (first | ((with_reducible obtain ⟨p, hw''⟩ := In.of2 p hb3); subst hw'') | (obtain ⟨p, hw''⟩ := In.of hb3; subst hw''))) | ((with_reducible refine (dk _).mono ?_); rintro e w4 ⟨rfl, hb4⟩; (first | ((with_reducible obtain ⟨p, hw''⟩ := In.of2 p hb4); subst hw'') | (obtain ⟨p, hw''⟩ := In.of hb4; subst hw''))))
            go_ret
            exact ⟨ret_bool hR.out.symm, bk⟩
        · have hk2' : ((kids.length : Int) != 2) = true := by rw [bne_iff_ne]; omega
          have hR := Lib.hid (show R = false by rw [hq.out, show shapeQ [111, 114] l.length kids.length = false by simp [shapeQ, hk2]]; simp)
          clear hq hk2
          go_wp2_with (first | ((with_reducible refine (cp _).mono ?_); rintro e w2 ⟨rfl, hb2⟩; (first | ((with_reducible obtain ⟨p, hw''⟩ := In.of2 p hb2); subst hw'') | (obtain ⟨p, hw''⟩ := In.of hb2; subst hw''))) | ((with_reducible refine d0.mono ?_); rintro e w3 ⟨rfl, hb3⟩; (first | ((with_reducible obtain ⟨p, hw''⟩ := In.of2 p hb3); subst hw'') | (obtain ⟨p, hw''⟩ := In.of hb3; subst hw''))) | ((with_reducible refine (db _).mono ?_); rintro e w3 ⟨rfl, hb3⟩; (first | ((with_reducible obtain ⟨p, hw''⟩ := In.of2 p hb3); subst hw'') | (obtain ⟨p, hw''⟩ := In.of hb3; subst hw''))) | ((with_reducible refine (dk _).mono ?_); rintro e w4 ⟨rfl, hb4⟩; (first | ((with_reducible obtain ⟨p, hw''⟩ := In.of2 p hb4); subst hw'') | (obtain ⟨p, hw''⟩ := In.of hb4; subst hw''))))
          go_ret
          exact ⟨ret_bool hR.out.symm, bk⟩
      by_cases o3 : op = [110, 111, 116]
      · subst o3
        clear cp
        by_cases hk2 : kids.length = 1
        · have hk2' : ((kids.length : Int) != 1) = false := by rw [bne_eq_false_iff_eq]; omega
          by_cases hl0 : l.length = 0
          · have hl0' : ((l.length : Int) != 0) = false := by rw [bne_eq_false_iff_eq]; omega
            have hl12 : ¬ (12 : Int) < l.length := by omega
            have hR := Lib.hid (show R = (!ab && kb) by rw [hq.out, show shapeQ [110, 111, 116] l.length kids.length = true by simp [shapeQ, hk2, hl0]]; simp)
            clear hq hk2 hl0
            cases ab
            · go_wp2_with (first | ((with_reducible refine (cp _).mono ?_); rintro e w2 ⟨rfl, hb2⟩; (first | ((with_reducible obtain ⟨p, hw''⟩ := In.of2 p hb2); subst hw'') | (obtain ⟨p, hw''⟩ := In.of hb2; subst hw''))) | ((with_reducible refine d0.mono ?_); rintro e w3 ⟨rfl, hb3⟩; (first | ((with_reducible obtain ⟨p, hw''⟩ := In.of2 p hb3); subst hw'') | (obtain ⟨p, hw''⟩ := In.of hb3; subst hw''))) | ((with_reducible refine (db _).mono ?_); rintro e w3 ⟨rfl, hb3⟩; (first | ((with_reducible obtain ⟨p, hw''⟩ := In.of2 p hb3); subst hw'') | (obtain ⟨p, hw''⟩ := In.of hb3; subst hw''))) | ((with_reducible refine (dk _).mono ?_); rintro e w4 ⟨rfl, hb4⟩; (first | ((with_reducible obtain ⟨p, hw''⟩ := In.of2 p hb4); subst hw'') | (obtain ⟨p, hw''⟩ := In.of hb4; subst hw''))))
              go_ret
              exact ⟨ret_bool (by rw [hR.out]; cases kb <;> rfl), p.back bk⟩
            · go_wp2_with (first | ((with_reducible refine (cp _).mono ?_); rintro e w2 ⟨rfl, hb2⟩; (first | ((with_reducible obtain ⟨p, hw''⟩ := In.of2 p hb2); subst hw'') | (obtain ⟨p, hw''⟩ := In.of hb2; subst hw''))) | ((with_reducible refine d0.mono ?_); rintro e w3 ⟨rfl, hb3⟩; (first | ((with_reducible obtain ⟨p, hw''⟩ := In.of2 p hb3); subst hw'') | (obtain ⟨p, hw''⟩ := In.of hb3; subst hw''))) | ((with_reducible refine (db _).mono ?_); rintro e w3 ⟨rfl, hb3⟩; (first | ((with_reducible obtain ⟨p, hw''⟩ := In.of2 p hb3); subst hw'') | (obtain ⟨p, hw''⟩ := In.of hb3; subst hw''))) | ((with_reducible refine (dk _).mono ?_); rintro e w4 ⟨rfl, hb4⟩; (first | ((with_reducible obtain ⟨p, hw''⟩ := In.of2 p hb4); subst hw'') | (obtain ⟨p, hw''⟩ := In.of hb4; subst hw''))))
              go_ret
              exact ⟨ret_bool (by rw [hR.out]; rfl), p.back bk⟩
          · have hl0' : ((l.length : Int) != 0) = true := by rw [bne_iff_ne]; omega
            have hR := Lib.hid (show R = false by rw [hq.out, show shapeQ [110, 111, 116] l.length kids.length = false by simp [shapeQ, hl0]]; simp)
            clear hq hk2 hl0
            go_wp2_with (first | ((with_reducible refine (cp _).mono ?_); rintro e w2 ⟨rfl, hb2⟩; (first | ((with_reducible obtain ⟨p, hw''⟩ := In.of2 p hb2); subst hw'') | (obtain ⟨p, hw''⟩ := In.of hb2; subst hw''))) | ((with_reducible refine d0.mono ?_); rintro e w3 ⟨rfl, hb3⟩; (first | ((with_reducible obtain ⟨p, hw''⟩ := In.of2 p hb3); subst hw'') | (obtain ⟨p, hw''⟩ := In.of hb3; subst hw''))) | ((with_reducible refine (db _).mono ?_); rintro e w3 ⟨rfl, hb3⟩; (first | ((with_reducible obtain ⟨p, hw''⟩ := In.of2 p hb3); subst hw'') | (obtain ⟨p, hw''⟩ := In.of hb3; subst hw''))) | ((with_reducible refine (dk _).mono ?_); rintro e w4 ⟨rfl, hb4⟩; (first | ((with_reducible obtain ⟨p, hw''⟩ := In.of2 p hb4); subst hw'') | (obtain ⟨p, hw''⟩ := In.of hb4; subst hw''))))
            go_ret
            exact ⟨ret_bool hR.out.symm, bk⟩
        · have hk2' : ((kids.length : Int) != 1) = true := by rw [bne_iff_ne]; omega
          have hR := Lib.hid (show R = false by rw [hq.out, show shapeQ [110, 111, 116] l.length kids.length = false by simp [shapeQ, hk2]]; simp)
          clear hq hk2
          go_wp2_with (first | ((with_reducible refine (cp _).mono ?_); rintro e w2 ⟨rfl, hb2⟩; (first | ((with_reducible obtain ⟨p, hw''⟩ := In.of2 p hb2); subst hw'') | (obtain ⟨p, hw''⟩ := In.of hb2; subst hw''))) | ((with_reducible refine d0.mono ?_); rintro e w3 ⟨rfl, hb3⟩; (first | ((with_reducible obtain ⟨p, hw''⟩ := In.of2 p hb3); subst hw'') | (obtain ⟨p, hw''⟩ := In.of hb3; subst hw''))) | ((with_reducible refine (db _).mono ?_); rintro e w3 ⟨rfl, hb3⟩; (first | ((with_reducible obtain ⟨p, hw''⟩ := In.of2 p hb3); subst hw'') | (obtain ⟨p, hw''⟩ := In.of hb3; subst hw''))) | ((with_reducible refine (dk _).mono ?_); rintro e w4 ⟨rfl, hb4⟩; (first | ((with_reducible obtain ⟨p, hw''⟩ := In.of2 p hb4); subst hw'') | (obtain ⟨p, hw''⟩ := In.of hb4; subst hw''))))
          go_ret
          exact ⟨ret_bool hR.out.symm, bk⟩
      have e1 : (op == [97, 110, 100]) = false := by simpa using o1
      have e2 : (op == [111, 114]) = false := by simpa using o2
      have e3 : (op == [110, 111, 116]) = false := by simpa using o3
      have hS := Lib.hid (show shapeQ op l.length kids.length = (decide (l.length ≤ 12) && (predsB op && decide (kids.length = 0) && (decide (predsN op < 0) || decide ((l.length : Int) = predsN op)))) by simp [shapeQ, o1, o2, o3])
      clear o1 o2 o3
      generalize predsB op = pb at *
      generalize predsN op = pn at *
      cases pb
      · have hR := Lib.hid (show R = false by rw [hq.out, hS.out]; simp)
        clear hq hS
        go_wp2_with (first | ((with_reducible refine (cp _).mono ?_); rintro e w2 ⟨rfl, hb2⟩; (first | ((with_reducible obtain ⟨p, hw''⟩ := In.of2 p hb2); subst hw'') | (obtain ⟨p, hw''⟩ := In.of hb2; subst hw''))) | ((with_reducible refine d0.mono ?_); rintro e w3 ⟨rfl, hb3⟩; (first | ((with_reducible obtain ⟨p, hw''⟩ := In.of2 p hb3); subst hw'') | (obtain ⟨p, hw''⟩ := In.of hb3; subst hw''))) | ((with_reducible refine (db _).mono ?_); rintro e w3 ⟨rfl, hb3⟩; (first | ((with_reducible obtain ⟨p, hw''⟩ := In.of2 p hb3); subst hw'') | (obtain ⟨p, hw''⟩ := In.of hb3; subst hw''))) | ((with_reducible refine (dk _).mono ?_); rintro e w4 ⟨rfl, hb4⟩; (first | ((with_reducible obtain ⟨p, hw''⟩ := In.of2 p hb4); subst hw'') | (obtain ⟨p, hw''⟩ := In.of hb4; subst hw''))))
        go_ret
        exact ⟨ret_bool hR.out.symm, p.back bk⟩
      · by_cases hk2 : kids.length = 0
        · have hk2' : ((kids.length : Int) != 0) = false := by rw [bne_eq_false_iff_eq]; omega
          by_cases hl12 : l.length ≤ 12
          · have hl12' : ¬ (12 : Int) < l.length := by omega
            by_cases hn : pn < 0
            · have hn' : ¬ 0 ≤ pn := by omega
              have hR := Lib.hid (show R = (!ab && kb) by rw [hq.out, hS.out, decide_eq_true hl12, decide_eq_true hk2, decide_eq_true hn]; simp)
              clear hq hk2 hS
              cases ab
              · go_wp2_with (first | ((with_reducible refine (cp _).mono ?_); rintro e w2 ⟨rfl, hb2⟩; (first | ((with_reducible obtain ⟨p, hw''⟩ := In.of2 p hb2); subst hw'') | (obtain ⟨p, hw''⟩ := In.of hb2; subst hw''))) | ((with_reducible refine d0.mono ?_); rintro e w3 ⟨rfl, hb3⟩; (first | ((with_reducible obtain ⟨p, hw''⟩ := In.of2 p hb3); subst hw'') | (obtain ⟨p, hw''⟩ := In.of hb3; subst hw''))) | ((with_reducible refine (db _).mono ?_); rintro e w3 ⟨rfl, hb3⟩; (first | ((with_reducible obtain ⟨p, hw''⟩ := In.of2 p hb3); subst hw'') | (obtain ⟨p, hw''⟩ := In.of hb3; subst hw''))) | ((with_reducible refine (dk _).mono ?_); rintro e w4 ⟨rfl, hb4⟩; (first | ((with_reducible obtain ⟨p, hw''⟩ := In.of2 p hb4); subst hw'') | (obtain ⟨p, hw''⟩ := In.of hb4; subst hw''))))
                go_ret
                exact ⟨ret_bool (by rw [hR.out]; cases kb <;> rfl), p.back bk⟩
              · go_wp2_with (first | ((with_reducible refine (cp _).mono ?_); rintro e w2 ⟨rfl, hb2⟩; (first | ((with_reducible obtain ⟨p, hw''⟩ := In.of2 p hb2); subst hw'') | (obtain ⟨p, hw''⟩ := In.of hb2; subst hw''))) | ((with_reducible refine d0.mono ?_); rintro e w3 ⟨rfl, hb3⟩; (first | ((with_reducible obtain ⟨p, hw''⟩ := In.of2 p hb3); subst hw'') | (obtain ⟨p, hw''⟩ := In.of hb3; subst hw''))) | ((with_reducible refine (db _).mono ?_); rintro e w3 ⟨rfl, hb3⟩; (first | ((with_reducible obtain ⟨p, hw''⟩ := In.of2 p hb3); subst hw'') | (obtain ⟨p, hw''⟩ := In.of hb3; subst hw''))) | ((with_reducible refine (dk _).mono ?_); rintro e w4 ⟨rfl, hb4⟩; (first | ((with_reducible obtain ⟨p, hw''⟩ := In.of2 p hb4); subst hw'') | (obtain ⟨p, hw''⟩ := In.of hb4; subst hw''))))
                go_ret
                exact ⟨ret_bool (by rw [hR.out]; rfl), p.back bk⟩
            · have hn' : 0 ≤ pn := by omega
              by_cases he : (l.length : Int) = pn
              · have he' : ((l.length : Int) != pn) = false := by simpa using he
                have hR := Lib.hid (show R = (!ab && kb) by rw [hq.out, hS.out, decide_eq_true hl12, decide_eq_true hk2, decide_eq_true he]; simp)
                clear hq hk2 he hS
                cases ab
                · go_wp2_with (first | ((with_reducible refine (cp _).mono ?_); rintro e w2 ⟨rfl, hb2⟩; (first | ((with_reducible obtain ⟨p, hw''⟩ := In.of2 p hb2); subst hw'') | (obtain ⟨p, hw''⟩ := In.of hb2; subst hw''))) | ((with_reducible refine d0.mono ?_); rintro e w3 ⟨rfl, hb3⟩; (first | ((with_reducible obtain ⟨p, hw''⟩ := In.of2 p hb3); subst hw'') | (obtain ⟨p, hw''⟩ := In.of hb3; subst hw''))) | ((with_reducible refine (db _).mono ?_); rintro e w3 ⟨rfl, hb3⟩; (first | ((with_reducible obtain ⟨p, hw''⟩ := In.of2 p hb3); subst hw'') | (obtain ⟨p, hw''⟩ := In.of hb3; subst hw''))) | ((with_reducible refine (dk _).mono ?_); rintro e w4 ⟨rfl, hb4⟩; (first | ((with_reducible obtain ⟨p, hw''⟩ := In.of2 p hb4); subst hw'') | (obtain ⟨p, hw''⟩ := In.of hb4; subst hw''))))
                  go_ret
                  exact ⟨ret_bool (by rw [hR.out]; cases kb <;> rfl), p.back bk⟩
                · go_wp2_with (first | ((with_reducible refine (cp _).mono ?_); rintro e w2 ⟨rfl, hb2⟩; (first | ((with_reducible obtain ⟨p, hw''⟩ := In.of2 p hb2); subst hw'') | (obtain ⟨p, hw''⟩ := In.of hb2; subst hw''))) | ((with_reducible refine d0.mono ?_); rintro e w3 ⟨rfl, hb3⟩; (first | ((with_reducible obtain ⟨p, hw''⟩ := In.of2 p hb3); subst hw'') | (obtain ⟨p, hw''⟩ := In.of hb3; subst hw''))) | ((with_reducible refine (db _).mono ?_); rintro e w3 ⟨rfl, hb3⟩; (first | ((with_reducible obtain ⟨p, hw''⟩ := In.of2 p hb3); subst hw'') | (obtain ⟨p, hw''⟩ := In.of hb3; subst hw''))) | ((with_reducible refine (dk _).mono ?_); rintro e w4 ⟨rfl, hb4⟩; (first | ((with_reducible obtain ⟨p, hw''⟩ := In.of2 p hb4); subst hw'') | (obtain ⟨p, hw''⟩ := In.of hb4; subst hw''))))
                  go_ret
                  exact ⟨ret_bool (by rw [hR.out]; rfl), p.back bk⟩
              · have he' : ((l.length : Int) != pn) = true := by simpa using he
                have hR := Lib.hid (show R = false by rw [hq.out, hS.out, decide_eq_false he, decide_eq_false hn]; simp)
                clear hq hk2 he hS
                go_wp2_with (first | ((with_reducible refine (cp _).mono ?_); rintro e w2 ⟨rfl, hb2⟩; (first | ((with_reducible obtain ⟨p, hw''⟩ := In.of2 p hb2); subst hw'') | (obtain ⟨p, hw''⟩ := In.of hb2; subst hw''))) | ((with_reducible refine d0.mono ?_); rintro e w3 ⟨rfl, hb3⟩; (first | ((with_reducible obtain ⟨p, hw''⟩ := In.of2 p hb3); subst hw'') | (obtain ⟨p, hw''⟩ := In.of hb3; subst hw''))) | ((with_reducible refine (db _).mono ?_); rintro e w3 ⟨rfl, hb3⟩; (first | ((with_reducible obtain ⟨p, hw''⟩ := In.of2 p hb3); subst hw'') | (obtain ⟨p, hw''⟩ := In.of hb3; subst hw''))) | ((with_reducible refine (dk _).mono ?_); rintro e w4 ⟨rfl, hb4⟩; (first | ((with_reducible obtain ⟨p, hw''⟩ := In.of2 p hb4); subst hw'') | (obtain ⟨p, hw''⟩ := In.of hb4; subst hw''))))
                go_ret
                exact ⟨ret_bool hR.out.symm, p.back bk⟩
          · have hl12' : (12 : Int) < l.length := by omega
            by_cases hn : 0 ≤ pn
            · cases he' : ((l.length : Int) != pn)
              · have hR := Lib.hid (show R = false by rw [hq.out, hS.out, decide_eq_false hl12]; simp)
                clear hq hk2 hS
                go_wp2_with (first | ((with_reducible refine (cp _).mono ?_); rintro e w2 ⟨rfl, hb2⟩; (first | ((with_reducible obtain ⟨p, hw''⟩ := In.of2 p hb2); subst hw'') | (obtain ⟨p, hw''⟩ := In.of hb2; subst hw''))) | ((with_reducible refine d0.mono ?_); rintro e w3 ⟨rfl, hb3⟩; (first | ((with_reducible obtain ⟨p, hw''⟩ := In.of2 p hb3); subst hw'') | (obtain ⟨p, hw''⟩ := In.of hb3; subst hw''))) | ((with_reducible refine (db _).mono ?_); rintro e w3 ⟨rfl, hb3⟩; (first | ((with_reducible obtain ⟨p, hw''⟩ := In.of2 p hb3); subst hw'') | (obtain ⟨p, hw''⟩ := In.of hb3; subst hw''))) | ((with_reducible refine (dk _).mono ?_); rintro e w4 ⟨rfl, hb4⟩; (first | ((with_reducible obtain ⟨p, hw''⟩ := In.of2 p hb4); subst hw'') | (obtain ⟨p, hw''⟩ := In.of hb4; subst hw''))))
                go_ret
                exact ⟨ret_bool hR.out.symm, p.back bk⟩
              · have hR := Lib.hid (show R = false by rw [hq.out, hS.out, decide_eq_false hl12]; simp)
                clear hq hk2 hS
                go_wp2_with (first | ((with_reducible refine (cp _).mono ?_); rintro e w2 ⟨rfl, hb2⟩; (first | ((with_reducible obtain ⟨p, hw''⟩ := In.of2 p hb2); subst hw'') | (obtain ⟨p, hw''⟩ := In.of hb2; subst hw''))) | ((with_reducible refine d0.mono ?_); rintro e w3 ⟨rfl, hb3⟩; (first | ((with_reducible obtain ⟨p, hw''⟩ := In.of2 p hb3); subst hw'') | (obtain ⟨p, hw''⟩ := In.of hb3; subst hw''))) | ((with_reducible refine (db _).mono ?_); rintro e w3 ⟨rfl, hb3⟩; (first | ((with_reducible obtain ⟨p, hw''⟩ := In.of2 p hb3); subst hw'') | (obtain ⟨p, hw''⟩ := In.of hb3; subst hw''))) | ((with_reducible refine (dk _).mono ?_); rintro e w4 ⟨rfl, hb4⟩; (first | ((with_reducible obtain ⟨p, hw''⟩ := In.of2 p hb4); subst hw'') | (obtain ⟨p, hw''⟩ := In.of hb4; subst hw''))))
                go_ret
                exact ⟨ret_bool hR.out.symm, p.back bk⟩
            · have hR := Lib.hid (show R = false by rw [hq.out, hS.out, decide_eq_false hl12]; simp)
              clear hq hk2 hS
              go_wp2_with (first | ((with_reducible refine (cp _).mono ?_); rintro e w2 ⟨rfl, hb2⟩; (first | ((with_reducible obtain ⟨p, hw''⟩ := In.of2 p hb2); subst hw'') | (obtain ⟨p, hw''⟩ := In.of hb2; subst hw''))) | ((with_reducible refine d0.mono ?_); rintro e w3 ⟨rfl, hb3⟩; (first | ((with_reducible obtain ⟨p, hw''⟩ := In.of2 p hb3); subst hw'') | (obtain ⟨p, hw''⟩ := In.of hb3; subst hw''))) | ((with_reducible refine (db _).mono ?_); rintro e w3 ⟨rfl, hb3⟩; (first | ((with_reducible obtain ⟨p, hw''⟩ := In.of2 p hb3); subst hw'') | (obtain ⟨p, hw''⟩ := In.of hb3; subst hw''))) | ((with_reducible refine (dk _).mono ?_); rintro e w4 ⟨rfl, hb4⟩; (first | ((with_reducible obtain ⟨p, hw''⟩ := In.of2 p hb4); subst hw'') | (obtain ⟨p, hw''⟩ := In.of hb4; subst hw''))))
              go_ret
              exact ⟨ret_bool hR.out.symm, p.back bk⟩
        · have hk2' : ((kids.length : Int) != 0) = true := by rw [bne_iff_ne]; omega
          have hR := Lib.hid (show R = false by rw [hq.out, hS.out, decide_eq_false hk2]; simp)
          clear hq hk2 hS
          go_wp2_with (first | ((with_reducible refine (cp _).mono ?_); rintro e w2 ⟨rfl, hb2⟩; (first | ((with_reducible obtain ⟨p, hw''⟩ := In.of2 p hb2); subst hw'') | (obtain ⟨p, hw''⟩ := In.of hb2; subst hw''))) | ((with_reducible refine d0.mono ?_); rintro e w3 ⟨rfl, hb3⟩; (first | ((with_reducible obtain ⟨p, hw''⟩ := In.of2 p hb3); subst hw'') | (obtain ⟨p, hw''⟩ := In.of hb3; subst hw''))) | ((with_reducible refine (db _).mono ?_); rintro e w3 ⟨rfl, hb3⟩; (first | ((with_reducible obtain ⟨p, hw''⟩ := In.of2 p hb3); subst hw'') | (obtain ⟨p, hw''⟩ := In.of hb3; subst hw''))) | ((with_reducible refine (dk _).mono ?_); rintro e w4 ⟨rfl, hb4⟩; (first | ((with_reducible obtain ⟨p, hw''⟩ := In.of2 p hb4); subst hw'') | (obtain ⟨p, hw''⟩ := In.of hb4; subst hw''))))
          go_ret
          exact ⟨ret_bool hR.out.symm, p.back bk⟩
end Go.Proofs.Ytglcnnnjdkjggaa
