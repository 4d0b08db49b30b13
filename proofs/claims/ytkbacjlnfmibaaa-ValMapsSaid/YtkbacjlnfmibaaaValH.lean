
/-
  Why a value may not be: val.check, Check.
-/
import Derived.Test.YtkbacjlnfmibaaaValG
set_option linter.unusedSimpArgs false
set_option linter.unusedVariables false
namespace Go.Proofs.Ytkbacjlnfmibaaa
open Go.RowKit

mutual
/-- why a value within so many others may not be -/
def checkV : Val → Nat → Int
  | .mk k b n f s l, d => if 13 < d then 3 else if shape k b n f s l = false then 6 else if 500 < s.length ∨ 1000 < l.length then 3 else if checkVL l (d + 1) ≠ 0 then checkVL l (d + 1) else if k = 6 ∧ risesV l = false then 6 else 0
def checkVL : List Val → Nat → Int
  | [], _ => 0
  | v :: l, d => if checkV v d ≠ 0 then checkV v d else checkVL l d
end
theorem checkVL_step {l : List Val} {i : Nat} {x : Val} (h : l[i]? = some x) (d : Nat) : checkVL (l.drop i) d = if checkV x d ≠ 0 then checkV x d else checkVL (l.drop (i + 1)) d := by
  obtain ⟨h1, rfl⟩ := List.getElem?_eq_some_iff.1 h
  rw [List.drop_eq_getElem_cons h1, checkVL]
theorem shape_lo {k : Int} (h : k < 0) (b : Bool) (n : Int) (f : Nat) (s : List UInt8) (l : List Val) : shape k b n f s l = false := by
  unfold shape
  rw [decide_eq_false (by omega : ¬ 0 ≤ k)]
  simp
theorem shape_hi {k : Int} (h : 8 < k) (b : Bool) (n : Int) (f : Nat) (s : List UInt8) (l : List Val) : shape k b n f s l = false := by
  unfold shape
  rw [decide_eq_false (by omega : ¬ k ≤ 8)]
  simp
theorem shape_range {k : Int} {b : Bool} {n : Int} {f : Nat} {s : List UInt8} {l : List Val} (h : shape k b n f s l = true) : 0 ≤ k ∧ k ≤ 8 := by
  refine ⟨?_, ?_⟩
  · rcases Int.lt_or_le k 0 with h1 | h1
    · rw [shape_lo h1] at h; cases h
    · exact h1
  · rcases Int.lt_or_le 8 k with h1 | h1
    · rw [shape_hi h1] at h; cases h
    · exact h1
set_option maxRecDepth 8000 in
set_option maxHeartbeats 4000000 in
theorem check_c (v : Val) : ∀ (u : Value) (w : World) (d : Nat), Has w u v → d ≤ 14 → Calls Try.prog 44 #[u, .int .i64 d] w (IntEnds (checkV v d) w) := by
  generalize hz : wsz v = z
  induction z using Nat.strongRecOn generalizing v with
  | _ z ih =>
    intro u w d hv hd
    obtain ⟨A, cap, rfl, hk, hn, hf, hs, hlb, hl, hc, hp⟩ := hv.open
    have hpart := fun i x => wsz_part (v := v) (x := x) (i := i)
    rw [hz] at hpart
    obtain ⟨k, b, n, f, s, l⟩ := v
    dsimp only [Val.k, Val.b, Val.n, Val.f, Val.s, Val.l] at *
    have hV : checkV (.mk k b n f s l) d = (if 13 < d then 3 else if shape k b n f s l = false then 6 else if 500 < s.length ∨ 1000 < l.length then 3 else if checkVL l (d + 1) ≠ 0 then checkVL l (d + 1) else if k = 6 ∧ risesV l = false then 6 else 0) := by rw [checkV]
    have hV' := Lib.hid hV
    have hP : Parts w A l := hp
    clear hv hz hV hn hk
    go_enter Try.func44, Try.ntmps44
    go_upto_region 1 with fail
    obtain ⟨w1, hw1⟩ : ∃ w1, w1 = w.alloc (.cells #[.int .i64 k, .bool b, .int .i64 n, .float .f64 f, .string (st s), .slice A l.length cap] 25) := ⟨_, rfl⟩
    have bk : Below w.heap.size w w1 := hw1 ▸ below_alloc w _
    obtain ⟨x6, x0, x1, x2, x3, x4, x5⟩ : Box w1 w.heap.size k b n f s A l.length cap := hw1 ▸ Box.new w k b n f s A l.length cap _
    rw [← hw1]
    clear hw1
    by_cases h13 : 13 < d
    · have h13' : (13 : Int) < d := by omega
      go_wp2_with fail
      go_ret
      exact ⟨ret_int (by rw [hV'.out, if_pos h13]), bk⟩
    have h13' : ¬ (13 : Int) < d := by omega
    by_cases hk0 : k < 0
    · go_wp2_with fail
      go_ret
      exact ⟨ret_int (by rw [hV'.out, if_neg h13, shape_lo hk0, if_pos rfl]), bk⟩
    by_cases hk8 : 8 < k
    · go_wp2_with fail
      go_ret
      exact ⟨ret_int (by rw [hV'.out, if_neg h13, shape_hi hk8, if_pos rfl]), bk⟩
    have cb : ∀ w : World, Calls Try.prog 64 #[valV k b n f s A l.length cap] w fun e w' => e = .returned (.bool (shape k b n f s l)) ∧ Below w.heap.size w w' := fun w => bare_c k b n f s l A cap w (by omega) (by omega) hf
    cases hs0 : shape k b n f s l
    · rw [hs0] at cb hV'
      go_wp2_with ((with_reducible refine (cb _).mono ?_); rintro e w2 ⟨rfl, hb2⟩; (first | ((with_reducible obtain ⟨p, hw''⟩ := In.of2 p hb2); subst hw'') | (obtain ⟨p, hw''⟩ := In.of hb2; subst hw'')))
      go_ret
      exact ⟨ret_int (by rw [hV'.out, if_neg h13]; rfl), p.back bk⟩
    rw [hs0] at cb hV'
    by_cases h5 : 500 < s.length
    · have h5' : (500 : Int) < s.length := by omega
      go_wp2_with ((with_reducible refine (cb _).mono ?_); rintro e w2 ⟨rfl, hb2⟩; (first | ((with_reducible obtain ⟨p, hw''⟩ := In.of2 p hb2); subst hw'') | (obtain ⟨p, hw''⟩ := In.of hb2; subst hw'')))
      go_ret
      exact ⟨ret_int (by rw [hV'.out, if_neg h13, if_neg (by simp), if_pos (.inl h5)]), p.back bk⟩
    have h5' : ¬ (500 : Int) < s.length := by omega
    by_cases h1 : 1000 < l.length
    · have h1' : (1000 : Int) < l.length := by omega
      go_wp2_with ((with_reducible refine (cb _).mono ?_); rintro e w2 ⟨rfl, hb2⟩; (first | ((with_reducible obtain ⟨p, hw''⟩ := In.of2 p hb2); subst hw'') | (obtain ⟨p, hw''⟩ := In.of hb2; subst hw'')))
      go_ret
      exact ⟨ret_int (by rw [hV'.out, if_neg h13, if_neg (by simp), if_pos (.inr h1)]), p.back bk⟩
    have h1' : ¬ (1000 : Int) < l.length := by omega
    obtain ⟨d', hd'⟩ : ∃ d', d' = d + 1 := ⟨_, rfl⟩
    have hV2 := Lib.hid (show checkV (.mk k b n f s l) d = if checkVL l d' ≠ 0 then checkVL l d' else if k = 6 ∧ risesV l = false then 6 else 0 by rw [hV'.out, if_neg h13, if_neg (by simp), if_neg (by omega), hd'])
    have wd : IntKind.i64.wrap ((d : Int) + 1) = (d' : Int) := by rw [wrap_i64]; omega
    have hd14 : d' ≤ 14 := by omega
    have hH := Lib.hid hd'
    clear hd' hV' hd
    go_wp2_with ((with_reducible refine (cb _).mono ?_); rintro e w2 ⟨rfl, hb2⟩; (first | ((with_reducible obtain ⟨p, hw''⟩ := In.of2 p hb2); subst hw'') | (obtain ⟨p, hw''⟩ := In.of hb2; subst hw'')))
    have bel0 := p.h
    generalize p.w = w2 at *
    clear cb
    go_loopw [39] (fun a39 wr => ∃ i : Nat, a39 = .int .i64 i ∧ i ≤ l.length ∧ Hid (checkVL l d' = checkVL (l.drop i) d') ∧ Below w1.heap.size w1 wr) (fun a _ => l.length - (intOf a).toNat)
    case atStart => exact ⟨0, rfl, Nat.zero_le _, rfl, bel0⟩
    case round =>
      clear bel0
      obtain ⟨i, rfl, hi, hcm, hbr⟩ := hrel
      have bkr := bk.trans (hbr.mono bk.size)
      by_cases hin : i < l.length
      · have hil' : (i : Int) < l.length := by omega
        obtain ⟨ad, k1, b1, n1, f1, s1, C1, len1, c1, rfl, hx, hat⟩ := hP i l[i] (by simp)
        obtain ⟨q6, q0, q1, q2, q3, q4, q5⟩ := hat.keep bkr
        have wi : IntKind.i64.wrap ((i : Int) + 1) = (i : Int) + 1 := by rw [wrap_i64]; omega
        have hst := Lib.hid (checkVL_step (l := l) (i := i) (x := l[i]) (by simp) d')
        have hxr := hx.keep bkr
        have cr : ∀ o, Calls Try.prog 44 #[valV k1 b1 n1 f1 _ C1 len1 c1, .int .i64 (d' : Int)] (wr.alloc o) (IntEnds (checkV l[i] d') (wr.alloc o)) := fun o => ih (wsz l[i]) (hpart i l[i] (by simp)) l[i] rfl _ (wr.alloc o) d' (hxr.keep (below_alloc _ _)) hd14
        generalize l[i] = x at *
        clear hx hxr hat hP ih hpart hp x0 x1 x2 x3 x4 x5
        have hcx : (checkV x d' != 0) = true ∨ (checkV x d' != 0) = false := by cases (checkV x d' != 0) <;> simp
        generalize hcv : checkV x d' = cv at *
        have hcv := Lib.hid hcv
        rcases hcx with hcx | hcx
        · have hne : cv ≠ 0 := by simpa using hcx
          have hN := Lib.hid hne
          clear hne
          go_wp2_with ((with_reducible refine (cr _).mono ?_); rintro e w3 ⟨rfl, hb3⟩)
          go_ret
          exact ⟨ret_int (by have h1 := hcm.out.trans hst.out; rw [if_pos hN.out] at h1; rw [hV2.out, h1, if_pos hN.out]), bkr.trans (((below_alloc _ _).trans (hb3.mono (below_alloc _ _).size)).mono bkr.size)⟩
        · have hne : cv = 0 := by simpa using hcx
          have hN := Lib.hid hne
          clear hne
          go_wp2_with ((with_reducible refine (cr _).mono ?_); rintro e w3 ⟨rfl, hb3⟩)
          refine ⟨⟨i + 1, rfl, hin, ?_, hbr.trans (((below_alloc _ _).trans (hb3.mono (below_alloc _ _).size)).mono hbr.size)⟩, by simp [intOf]; omega⟩
          show _ = _
          have h1 := hcm.out.trans hst.out
          rw [if_neg (by rw [hN.out]; simp)] at h1
          exact h1
      · have hil' : ¬ (i : Int) < l.length := by omega
        have hz : checkVL l d' = 0 := by rw [hcm.out, List.drop_eq_nil_of_le (by omega)]; simp [checkVL]
        have y0 := (hbr.cell (p := ⟨w.heap.size, 0, none⟩) x6).trans x0
        have y5 := (hbr.cell (p := ⟨w.heap.size, 5, none⟩) x6).trans x5
        have y6 := Nat.lt_of_lt_of_le x6 hbr.size
        have hV3 := Lib.hid (show checkV (.mk k b n f s l) d = if k = 6 ∧ risesV l = false then 6 else 0 by rw [hV2.out, if_neg (by rw [hz]; simp)])
        have cr := rises_c l A cap wr (hP.keep bkr) hlb
        clear hz hP hp ih hpart hcm x0 x1 x2 x3 x4 x5
        by_cases h6 : k = 6
        · subst h6
          cases hri : risesV l
          · rw [hri] at cr
            go_wp2_with ((with_reducible refine cr.mono ?_); rintro e w3 ⟨rfl, hb3⟩)
            go_ret
            exact ⟨ret_int (by rw [hV3.out, if_pos (by simp [hri])]), bkr.trans (hb3.mono bkr.size)⟩
          · rw [hri] at cr
            go_wp2_with ((with_reducible refine cr.mono ?_); rintro e w3 ⟨rfl, hb3⟩)
            go_ret
            exact ⟨ret_int (by rw [hV3.out, if_neg (by rw [hri]; simp)]), bkr.trans (hb3.mono bkr.size)⟩
        · have h6' : (k == 6) = false := by simpa using h6
          go_wp2_with fail
          go_ret
          exact ⟨ret_int (by rw [hV3.out, if_neg (by simp [h6])]), bkr⟩
/-- why a value may not be -/
def CheckV (v : Val) : Int := if 60000 < bsz v then 3 else checkV v 1
set_option maxRecDepth 8000 in
set_option maxHeartbeats 1000000 in
theorem Check_c (v : Val) (u : Value) (w : World) (hv : Has w u v) : Calls Try.prog 15 #[u] w (IntEnds (CheckV v) w) := by
  have c1 : ∀ o, Calls Try.prog 43 #[u, .int .i64 60000] (w.alloc o) (LeftEnds v 60000 (w.alloc o)) := fun o => left_c v u (w.alloc o) 60000 (hv.keep (below_alloc _ _)) (by omega)
  have c2 : ∀ w', Below w.heap.size w w' → Calls Try.prog 44 #[u, .int .i64 1] w' (IntEnds (checkV v 1) w') := fun w' h => check_c v u w' 1 (hv.keep h) (by omega)
  have b1 : ∀ o, Below w.heap.size w (w.alloc o) := fun o => below_alloc w o
  obtain ⟨A, cap, rfl, _⟩ := hv.open
  have hC : CheckV v = if 60000 < bsz v then 3 else checkV v 1 := rfl
  have hV := Lib.hid hC
  clear hC hv
  go_enter Try.func15, Try.ntmps15
  go_upto_region 1 with fail
  obtain ⟨w1, hw1⟩ : ∃ w1, w1 = w.alloc (.cells #[.int .i64 v.k, .bool v.b, .int .i64 v.n, .float .f64 v.f, .string (st v.s), .slice A v.l.length cap] 25) := ⟨_, rfl⟩
  have bk : Below w.heap.size w w1 := hw1 ▸ below_alloc w _
  obtain ⟨x6, x0, x1, x2, x3, x4, x5⟩ : Box w1 w.heap.size v.k v.b v.n v.f v.s A v.l.length cap := hw1 ▸ Box.new w v.k v.b v.n v.f v.s A v.l.length cap _
  have c1' : Calls Try.prog 43 #[valV v.k v.b v.n v.f v.s A v.l.length cap, .int .i64 60000] w1 (LeftEnds v 60000 w1) := hw1 ▸ c1 _
  rw [← hw1]
  clear hw1 c1 b1
  go_wp2_with (first | ((with_reducible refine c1'.mono ?_); rintro e w2 ⟨r, rfl, g1, g2, g3, g4, hb2⟩; (first | ((with_reducible obtain ⟨p, hw''⟩ := In.of2 p hb2); subst hw'') | (obtain ⟨p, hw''⟩ := In.of hb2; subst hw''))) | ((with_reducible refine (c2 _ (p.back bk)).mono ?_); rintro e w3 ⟨rfl, hb3⟩; (first | ((with_reducible obtain ⟨p, hw''⟩ := In.of2 p hb3); subst hw'') | (obtain ⟨p, hw''⟩ := In.of hb3; subst hw''))))
  · go_ret
    rename_i hr
    exact ⟨ret_int (by rw [hV.out, if_pos (by have := g2 hr; omega)]), p.back bk⟩
  · go_ret
    rename_i hr
    exact ⟨ret_int (by rw [hV.out, if_neg (by have := g1 (by omega); omega)]), p.back bk⟩
end Go.Proofs.Ytkbacjlnfmibaaa
