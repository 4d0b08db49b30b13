
/-
  The walk of TravAgain.
-/
import Derived.Test.YtfccplkfdhpdgaaTrvM
set_option linter.unusedSimpArgs false
set_option linter.unusedVariables false
namespace Go.Proofs.Ytfccplkfdhpdgaa
open Go.RowKit

set_option maxRecDepth 8000 in
set_option maxHeartbeats 4000000 in
theorem travAgain_walk (A : Option Addr) (cap : Nat) (ts : List TravD) (w : World) (hx : TParts w A ts) (hl : ts.length ≤ cap) (hcap : cap ≤ maxLen) :
    Calls Try.prog 4 #[.slice A ts.length cap] w fun e w' => e = .returned (.bool true) ∧ Below w.heap.size w w' := by
  have c1 := cut_row A cap ts w hx hl hcap
  clear hx hl hcap
  go_enter Try.func4, Try.ntmps4
  go_upto_region 2 with ((with_reducible refine c1.mono ?_); rintro e w1 ⟨A1, cap1, ys, rfl, hp1, hyc, hcm, h12, hsm, hb1⟩)
  clear c1
  have ho : Ones ys := fun t ht => (hsm t ht).lo
  have hq100 : ∀ t ∈ ys, 0 ≤ t.bulk ∧ t.bulk ≤ 100 := fun t ht => ⟨by have := (hsm t ht).lo; omega, by have := (hsm t ht).hi; omega⟩
  have hqm := mergeV_bulk hsm h12
  have hml := mergeV_len ys
  have hq4 : ∀ t ∈ ys, 0 ≤ t.bulk ∧ t.bulk ≤ 10000 := fun t ht => ⟨(hq100 t ht).1, by have := (hq100 t ht).2; omega⟩
  have hqs : ∀ t ∈ spreadV ys, 0 ≤ t.bulk ∧ t.bulk ≤ 100 := fun t ht => by rw [spreadV_ones ys t ht]; omega
  have hqs4 : ∀ t ∈ spreadV ys, 0 ≤ t.bulk ∧ t.bulk ≤ 10000 := fun t ht => by rw [spreadV_ones ys t ht]; omega
  have hsn : ((spreadV ys).length : Int) ≤ 48 := by rw [spreadV_len ho]; have := sumB_bound hsm; omega
  obtain ⟨N, hN⟩ : ∃ N, (spreadV ys).length = N := ⟨_, rfl⟩
  obtain ⟨M, hM⟩ : ∃ M, (mergeV ys).length = M := ⟨_, rfl⟩
  obtain ⟨L, hL⟩ : ∃ L, ys.length = L := ⟨_, rfl⟩
  rw [hN] at hsn
  have cm := (merge_c A1 cap1 ys w1 hp1 hyc hcm (by omega) hq100).mono fun e w' h => RowEnds.merge hM h
  have cSL : ∀ wx, Below w1.heap.size w1 wx → Calls Try.prog 13 #[.slice A1 ys.length cap1] wx (RowEnds (spreadV ys) N wx) := fun wx h => (spread_c A1 cap1 ys wx (hp1.keep h) (by omega) hq4).mono fun e w' h => RowEnds.spread hN h
  have cLS : ∀ wx, Below w1.heap.size w1 wx → Calls Try.prog 14 #[.slice A1 ys.length cap1] wx (RowEnds (spreadV ys) N wx) := fun wx h => (lspread_c A1 cap1 ys wx (hp1.keep h) (by omega) hq4).mono fun e w' h => RowEnds.spread hN h
  have cMM : ∀ wx Aa ca, TParts wx Aa (mergeV ys) → M ≤ ca → ca ≤ maxLen → Calls Try.prog 10 #[.slice Aa M ca] wx (RowEnds (mergeV ys) M wx) := fun wx Aa ca h1 h2 h3 => by
    have := merge_c Aa ca (mergeV ys) wx h1 (by omega) h3 (by omega) hqm
    rw [hM] at this
    refine this.mono fun e w' h => ?_
    have h := RowEnds.merge (n := M) (by rw [mergeV_again]; exact hM) h
    rwa [mergeV_again] at h
  have cMS : ∀ wx Aa ca, TParts wx Aa (spreadV ys) → N ≤ ca → ca ≤ maxLen → Calls Try.prog 10 #[.slice Aa N ca] wx (RowEnds (mergeV ys) M wx) := fun wx Aa ca h1 h2 h3 => by
    have := merge_c Aa ca (spreadV ys) wx h1 (by omega) h3 (by omega) hqs
    rw [hN] at this
    refine this.mono fun e w' h => ?_
    have h := RowEnds.merge (n := M) (by rw [mergeV_spreadV ho]; exact hM) h
    rwa [mergeV_spreadV ho] at h
  have cSS : ∀ wx Aa ca, TParts wx Aa (spreadV ys) → Calls Try.prog 13 #[.slice Aa N ca] wx (RowEnds (spreadV ys) N wx) := fun wx Aa ca h1 => by
    have := spread_c Aa ca (spreadV ys) wx h1 (by omega) hqs4
    rw [hN] at this
    refine this.mono fun e w' h => ?_
    have h := RowEnds.spread (n := N) (by rw [spreadV_twice]; exact hN) h
    rwa [spreadV_twice] at h
  have cRM : ∀ (wx : World) (Aa Ab : Option Addr) (ca cb : Nat), TParts wx Aa (mergeV ys) → TParts wx Ab (mergeV ys) → Calls Try.prog 12 #[.slice Aa M ca, .slice Ab M cb] wx fun e w' => e = .returned (.bool true) ∧ Below wx.heap.size wx w' := fun wx Aa Ab ca cb h1 h2 => by
    have := rows_c (mergeV ys) (mergeV ys) Aa Ab ca cb wx h1 h2 (by unfold maxLen; omega)
    rwa [rowsT_self, hM] at this
  have cRS : ∀ (wx : World) (Aa Ab : Option Addr) (ca cb : Nat), TParts wx Aa (spreadV ys) → TParts wx Ab (spreadV ys) → Calls Try.prog 12 #[.slice Aa N ca, .slice Ab N cb] wx fun e w' => e = .returned (.bool true) ∧ Below wx.heap.size wx w' := fun wx Aa Ab ca cb h1 h2 => by
    have := rows_c (spreadV ys) (spreadV ys) Aa Ab ca cb wx h1 h2 (by unfold maxLen; omega)
    rwa [rowsT_self, hN] at this
  rw [hL] at cm cSL cLS
  rw [hL]
  clear hp1 hq100 hqm hq4 hqs hqs4 ho hsm hN hM hL hml hyc h12
  generalize spreadV ys = sy at *
  generalize mergeV ys = m at *
  go_upto_region 3 with ((with_reducible refine cm.mono ?_); rintro e w2 ⟨A2, cap2, rfl, hp2, hyc2, hcm2, hb2⟩)
  clear cm
  have B2 : Below w.heap.size w w2 := hb1.trans (hb2.mono hb1.size)
  have cSL2 : ∀ p : In w2, Calls Try.prog 13 #[.slice A1 L cap1] p.w (RowEnds sy N p.w) := fun p => cSL p.w (hb2.trans (p.h.mono hb2.size))
  have cLS2 : ∀ p : In w2, Calls Try.prog 14 #[.slice A1 L cap1] p.w (RowEnds sy N p.w) := fun p => cLS p.w (hb2.trans (p.h.mono hb2.size))
  clear cSL cLS
  go_wp2_with (first
    | ((with_reducible refine (awake_c _).mono ?_); rintro e w3 ⟨rfl, hb3⟩; (first | ((with_reducible obtain ⟨p, hw''⟩ := In.of2 p hb3); subst hw'') | (obtain ⟨p, hw''⟩ := In.of hb3; subst hw'')))
    | ((with_reducible refine (cMM _ _ _ (hp2.keep p.h) hyc2 hcm2).mono ?_); rintro e w4 ⟨A4, cap4, rfl, hp4, hc4, hm4, hb4⟩; (first | ((with_reducible obtain ⟨p, hw''⟩ := In.of2 p hb4); subst hw'') | (obtain ⟨p, hw''⟩ := In.of hb4; subst hw'')))
    | ((with_reducible refine (cRM _ _ _ _ _ hp4 (hp2.keep p.h)).mono ?_); rintro e w5 ⟨rfl, hb5⟩; (first | ((with_reducible obtain ⟨p, hw''⟩ := In.of2 p hb5); subst hw'') | (obtain ⟨p, hw''⟩ := In.of hb5; subst hw'')))
    | ((with_reducible refine (cSL2 _).mono ?_); rintro e w6 ⟨A6, cap6, rfl, hp6, hc6, hm6, hb6⟩; (first | ((with_reducible obtain ⟨p, hw''⟩ := In.of2 p hb6); subst hw'') | (obtain ⟨p, hw''⟩ := In.of hb6; subst hw'')))
    | ((with_reducible refine (cMS _ _ _ hp6 hc6 hm6).mono ?_); rintro e w7 ⟨A7, cap7, rfl, hp7, hc7, hm7, hb7⟩; (first | ((with_reducible obtain ⟨p, hw''⟩ := In.of2 p hb7); subst hw'') | (obtain ⟨p, hw''⟩ := In.of hb7; subst hw'')))
    | ((with_reducible refine (cRM _ _ _ _ _ hp7 (hp2.keep p.h)).mono ?_); rintro e w5 ⟨rfl, hb5⟩; (first | ((with_reducible obtain ⟨p, hw''⟩ := In.of2 p hb5); subst hw'') | (obtain ⟨p, hw''⟩ := In.of hb5; subst hw'')))
    | ((with_reducible refine (cSS _ _ _ hp6).mono ?_); rintro e w8 ⟨A8, cap8, rfl, hp8, hc8, hm8, hb8⟩; (first | ((with_reducible obtain ⟨p, hw''⟩ := In.of2 p hb8); subst hw'') | (obtain ⟨p, hw''⟩ := In.of hb8; subst hw'')))
    | ((with_reducible refine (cLS2 _).mono ?_); rintro e w9 ⟨A9, cap9, rfl, hp9, hc9, hm9, hb9⟩; have hp8 := hp8.keep hb9; (first | ((with_reducible obtain ⟨p, hw''⟩ := In.of2 p hb9); subst hw'') | (obtain ⟨p, hw''⟩ := In.of hb9; subst hw'')))
    | ((with_reducible refine (cRS _ _ _ _ _ hp8 hp9).mono ?_); rintro e w5 ⟨rfl, hb5⟩; (first | ((with_reducible obtain ⟨p, hw''⟩ := In.of2 p hb5); subst hw'') | (obtain ⟨p, hw''⟩ := In.of hb5; subst hw''))))
  go_ret
  exact ⟨rfl, p.back B2⟩
end Go.Proofs.Ytfccplkfdhpdgaa
