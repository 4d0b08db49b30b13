
/-
  The reference's keys; KeyOf.
-/
import Derived.Test.YteldgdlpfailgaaDoorKeyE
set_option linter.unusedSimpArgs false
set_option linter.unusedVariables false
namespace Go.Proofs.YteldgdlpfailgaaDoor
open Go.RowKit

set_option maxRecDepth 8000 in
set_option maxHeartbeats 4000000 in
theorem rof_c (v : Val) : ∀ (u : Value) (w : World) (d : Nat), Has w u v → checkV v d = 0 → (putV v).length ≤ 4000 → Calls Tryd.prog 18 #[u] w (StrEnds (keyV v) w) := by
  generalize hz : wsz v = z
  induction z using Nat.strongRecOn generalizing v with
  | _ z ih =>
    intro u w d hv hck hsz
    obtain ⟨A, cap, rfl, hk, hn, hf, hs, hlb, hl, hc, hp⟩ := hv.open
    have hpart := fun i x => wsz_part (v := v) (x := x) (i := i)
    rw [hz] at hpart
    obtain ⟨k, b, n, f, s, l⟩ := v
    dsimp only [Val.k, Val.b, Val.n, Val.f, Val.s, Val.l] at *
    have hfine := fine_of hck
    have hr := shape_range hfine.sh
    have hP : Parts w A l := hp
    have hkey := Lib.hid (show keyV (.mk k b n f s l) = clsB k :: (if k = 1 then [if b then 1 else 0] else if k = 2 then eightL (key (part n)) ++ twoL (over n) ++ [2] else if k = 3 then eightL (key f) ++ [0, 0] ++ [3] else if k = 4 then nameL s else if k = 5 ∨ k = 6 then keyVL l ++ [0] else if k = 7 ∨ k = 8 then eightL (n % 18446744073709551616) else []) by rw [keyV])
    have hput := Lib.hid (show putV (.mk k b n f s l) = byte (k % 256) :: (if k = 0 then [] else if k = 1 then [if b then 1 else 0] else if k = 2 ∨ k = 7 ∨ k = 8 then eightL (n % 18446744073709551616) else if k = 3 then eightL (canon f) else if k = 4 then twoL s.length ++ s else twoL l.length ++ putVL l) by rw [putV])
    have hsl := hfine.hs
    have hll := hfine.hl
    clear hv hz hck hp hl hc
    go_enter Tryd.func18, Tryd.ntmps18
    go_upto_region 1 with fail
    obtain ⟨w1, hw1⟩ : ∃ w1, w1 = w.alloc (.cells #[.int .i64 k, .bool b, .int .i64 n, .float .f64 f, .string (st s), .slice A l.length cap] 37) := ⟨_, rfl⟩
    have bk : Below w.heap.size w w1 := hw1 ▸ below_alloc w _
    obtain ⟨x6, x0, x1, x2, x3, x4, x5⟩ : Box w1 w.heap.size k b n f s A l.length cap := hw1 ▸ Box.new w k b n f s A l.length cap _
    rw [← hw1]
    clear hw1
    have hcv := fun x : Int => conv_new w1 5 [x]
    simp only [List.length_cons, List.length_nil, List.map_cons, List.map_nil, Nat.zero_add, Nat.reduceAdd] at hcv
    have hk : k = 0 ∨ k = 1 ∨ (k = 7 ∨ k = 8) ∨ k = 2 ∨ k = 3 ∨ k = 4 ∨ (k = 5 ∨ k = 6) := by omega
    clear hr
    have c8 := fun (N : Int) (h : 0 ≤ N ∧ N ≤ 18446744073709551615) w => reight_c N w h.1 h.2
    have c2 := fun (N : Int) (h : 0 ≤ N ∧ N ≤ 9223372036854775807) w => rtwo_c N w h.1 h.2
    unfold StrEnds at c8 c2
    rcases hk with rfl | rfl | h78 | rfl | rfl | rfl | h56
    · clear c8 c2
      go_upto_region 5 with fail
      obtain ⟨w2, hw2⟩ : ∃ w2, w2 = w1.alloc (.cells #[.int .u8 1] 5) := ⟨_, rfl⟩
      have hb2 : Below w1.heap.size w1 w2 := hw2 ▸ below_alloc w1 _
      have y0 := (hb2.cell (p := ⟨w.heap.size, 0, none⟩) x6).trans x0
      have y1 := (hb2.cell (p := ⟨w.heap.size, 1, none⟩) x6).trans x1
      have y2 := (hb2.cell (p := ⟨w.heap.size, 2, none⟩) x6).trans x2
      have y3 := (hb2.cell (p := ⟨w.heap.size, 3, none⟩) x6).trans x3
      have y4 := (hb2.cell (p := ⟨w.heap.size, 4, none⟩) x6).trans x4
      have y5 := (hb2.cell (p := ⟨w.heap.size, 5, none⟩) x6).trans x5
      have y6 := Nat.lt_of_lt_of_le x6 hb2.size
      have bk2 := bk.trans (hb2.mono bk.size)
      rw [← hw2]
      clear hw2 x0 x1 x2 x3 x4 x5 x6 hb2 bk hcv
      go_wp2_with fail
      go_ret
      exact ⟨ret_str (by rw [hkey.out]; rfl), bk2⟩
    · clear c8 c2
      go_upto_region 5 with fail
      obtain ⟨w2, hw2⟩ : ∃ w2, w2 = w1.alloc (.cells #[.int .u8 2] 5) := ⟨_, rfl⟩
      have hb2 : Below w1.heap.size w1 w2 := hw2 ▸ below_alloc w1 _
      have y0 := (hb2.cell (p := ⟨w.heap.size, 0, none⟩) x6).trans x0
      have y1 := (hb2.cell (p := ⟨w.heap.size, 1, none⟩) x6).trans x1
      have y2 := (hb2.cell (p := ⟨w.heap.size, 2, none⟩) x6).trans x2
      have y3 := (hb2.cell (p := ⟨w.heap.size, 3, none⟩) x6).trans x3
      have y4 := (hb2.cell (p := ⟨w.heap.size, 4, none⟩) x6).trans x4
      have y5 := (hb2.cell (p := ⟨w.heap.size, 5, none⟩) x6).trans x5
      have y6 := Nat.lt_of_lt_of_le x6 hb2.size
      have bk2 := bk.trans (hb2.mono bk.size)
      rw [← hw2]
      clear hw2 x0 x1 x2 x3 x4 x5 x6 hb2 bk hcv
      cases b
      · go_wp2_with fail
        go_ret
        exact ⟨ret_str (by rw [hkey.out]; rfl), bk2⟩
      · go_wp2_with fail
        go_ret
        exact ⟨ret_str (by rw [hkey.out]; rfl), bk2⟩
    · obtain ⟨N, hN⟩ : ∃ N, N = n % 18446744073709551616 := ⟨_, rfl⟩
      have wN : IntKind.u64.wrap n = N := by rw [wrap_u64, hN]
      have hk3 := Lib.hid (show keyV (.mk k b n f s l) = clsB k :: eightL N by rw [hkey.out, if_neg (by omega), if_neg (by omega), if_neg (by omega), if_neg (by omega), if_neg (by omega), if_pos h78, hN])
      have c1 := c8 N (by omega)
      clear hN hkey c8 c2
      rcases h78 with rfl | rfl
      ·
        go_upto_region 5 with fail
        obtain ⟨w2, hw2⟩ : ∃ w2, w2 = w1.alloc (.cells #[.int .u8 8] 5) := ⟨_, rfl⟩
        have hb2 : Below w1.heap.size w1 w2 := hw2 ▸ below_alloc w1 _
        have y0 := (hb2.cell (p := ⟨w.heap.size, 0, none⟩) x6).trans x0
        have y1 := (hb2.cell (p := ⟨w.heap.size, 1, none⟩) x6).trans x1
        have y2 := (hb2.cell (p := ⟨w.heap.size, 2, none⟩) x6).trans x2
        have y3 := (hb2.cell (p := ⟨w.heap.size, 3, none⟩) x6).trans x3
        have y4 := (hb2.cell (p := ⟨w.heap.size, 4, none⟩) x6).trans x4
        have y5 := (hb2.cell (p := ⟨w.heap.size, 5, none⟩) x6).trans x5
        have y6 := Nat.lt_of_lt_of_le x6 hb2.size
        have bk2 := bk.trans (hb2.mono bk.size)
        rw [← hw2]
        clear hw2 x0 x1 x2 x3 x4 x5 x6 hb2 bk hcv
        go_wp2_with ((with_reducible refine (c1 _).mono ?_); rintro e w3 ⟨rfl, hb3⟩)
        go_ret
        exact ⟨ret_str (by rw [hk3.out]; rfl), bk2.trans (hb3.mono bk2.size)⟩
      ·
        go_upto_region 5 with fail
        obtain ⟨w2, hw2⟩ : ∃ w2, w2 = w1.alloc (.cells #[.int .u8 9] 5) := ⟨_, rfl⟩
        have hb2 : Below w1.heap.size w1 w2 := hw2 ▸ below_alloc w1 _
        have y0 := (hb2.cell (p := ⟨w.heap.size, 0, none⟩) x6).trans x0
        have y1 := (hb2.cell (p := ⟨w.heap.size, 1, none⟩) x6).trans x1
        have y2 := (hb2.cell (p := ⟨w.heap.size, 2, none⟩) x6).trans x2
        have y3 := (hb2.cell (p := ⟨w.heap.size, 3, none⟩) x6).trans x3
        have y4 := (hb2.cell (p := ⟨w.heap.size, 4, none⟩) x6).trans x4
        have y5 := (hb2.cell (p := ⟨w.heap.size, 5, none⟩) x6).trans x5
        have y6 := Nat.lt_of_lt_of_le x6 hb2.size
        have bk2 := bk.trans (hb2.mono bk.size)
        rw [← hw2]
        clear hw2 x0 x1 x2 x3 x4 x5 x6 hb2 bk hcv
        go_wp2_with ((with_reducible refine (c1 _).mono ?_); rintro e w3 ⟨rfl, hb3⟩)
        go_ret
        exact ⟨ret_str (by rw [hk3.out]; rfl), bk2.trans (hb3.mono bk2.size)⟩
    · have cs := fun w => below_same (rsplit_c n w hn)
      have ck := fun w => below_same (rkey_c (part n) w (u64_part hn))
      obtain ⟨oe, o0, o1⟩ := over_eq hn
      have ce := c8 (fb (key (part n))) (by have := key_u n hn; unfold fb; omega)
      have ct := c2 (over n) (by omega)
      have hk3 := Lib.hid (show keyV (.mk 2 b n f s l) = clsB 2 :: (eightL (key (part n)) ++ twoL (over n) ++ [2]) by rw [hkey.out]; rfl)
      clear hkey c8 c2 oe o0 o1
      generalize part n = P at *
      generalize over n = O at *
      generalize key P = K at *
      go_upto_region 5 with fail
      obtain ⟨w2, hw2⟩ : ∃ w2, w2 = w1.alloc (.cells #[.int .u8 3] 5) := ⟨_, rfl⟩
      have hb2 : Below w1.heap.size w1 w2 := hw2 ▸ below_alloc w1 _
      have y0 := (hb2.cell (p := ⟨w.heap.size, 0, none⟩) x6).trans x0
      have y1 := (hb2.cell (p := ⟨w.heap.size, 1, none⟩) x6).trans x1
      have y2 := (hb2.cell (p := ⟨w.heap.size, 2, none⟩) x6).trans x2
      have y3 := (hb2.cell (p := ⟨w.heap.size, 3, none⟩) x6).trans x3
      have y4 := (hb2.cell (p := ⟨w.heap.size, 4, none⟩) x6).trans x4
      have y5 := (hb2.cell (p := ⟨w.heap.size, 5, none⟩) x6).trans x5
      have y6 := Nat.lt_of_lt_of_le x6 hb2.size
      have bk2 := bk.trans (hb2.mono bk.size)
      rw [← hw2]
      clear hw2 x0 x1 x2 x3 x4 x5 x6 hb2 bk hcv
      go_wp2_with (first | ((with_reducible refine (cs _).mono ?_); rintro e w3 ⟨rfl, hb3⟩; (first | ((with_reducible obtain ⟨p, hw''⟩ := In.of2 p hb3); subst hw'') | (obtain ⟨p, hw''⟩ := In.of hb3; subst hw''))) | ((with_reducible refine (ck _).mono ?_); rintro e w4 ⟨rfl, hb4⟩; (first | ((with_reducible obtain ⟨p, hw''⟩ := In.of2 p hb4); subst hw'') | (obtain ⟨p, hw''⟩ := In.of hb4; subst hw''))) | ((with_reducible refine (ce _).mono ?_); rintro e w5 ⟨rfl, hb5⟩; (first | ((with_reducible obtain ⟨p, hw''⟩ := In.of2 p hb5); subst hw'') | (obtain ⟨p, hw''⟩ := In.of hb5; subst hw''))) | ((with_reducible refine (ct _).mono ?_); rintro e w6 ⟨rfl, hb6⟩; (first | ((with_reducible obtain ⟨p, hw''⟩ := In.of2 p hb6); subst hw'') | (obtain ⟨p, hw''⟩ := In.of hb6; subst hw''))))
      go_ret
      exact ⟨ret_str (by rw [hk3.out]; simp [fb]; rfl), p.back bk2⟩
    · have ck := fun w => below_same (rkey_c f w hf)
      have ce := c8 (fb (key f)) (by have := key_lt hf.lt; unfold fb; omega)
      have hk3 := Lib.hid (show keyV (.mk 3 b n f s l) = clsB 3 :: (eightL (key f) ++ [0, 0] ++ [3]) by rw [hkey.out]; rfl)
      clear hkey c8 c2
      generalize key f = K at *
      go_upto_region 5 with fail
      obtain ⟨w2, hw2⟩ : ∃ w2, w2 = w1.alloc (.cells #[.int .u8 3] 5) := ⟨_, rfl⟩
      have hb2 : Below w1.heap.size w1 w2 := hw2 ▸ below_alloc w1 _
      have y0 := (hb2.cell (p := ⟨w.heap.size, 0, none⟩) x6).trans x0
      have y1 := (hb2.cell (p := ⟨w.heap.size, 1, none⟩) x6).trans x1
      have y2 := (hb2.cell (p := ⟨w.heap.size, 2, none⟩) x6).trans x2
      have y3 := (hb2.cell (p := ⟨w.heap.size, 3, none⟩) x6).trans x3
      have y4 := (hb2.cell (p := ⟨w.heap.size, 4, none⟩) x6).trans x4
      have y5 := (hb2.cell (p := ⟨w.heap.size, 5, none⟩) x6).trans x5
      have y6 := Nat.lt_of_lt_of_le x6 hb2.size
      have bk2 := bk.trans (hb2.mono bk.size)
      rw [← hw2]
      clear hw2 x0 x1 x2 x3 x4 x5 x6 hb2 bk hcv
      go_wp2_with (first | ((with_reducible refine (ck _).mono ?_); rintro e w4 ⟨rfl, hb4⟩; (first | ((with_reducible obtain ⟨p, hw''⟩ := In.of2 p hb4); subst hw'') | (obtain ⟨p, hw''⟩ := In.of hb4; subst hw''))) | ((with_reducible refine (ce _).mono ?_); rintro e w5 ⟨rfl, hb5⟩; (first | ((with_reducible obtain ⟨p, hw''⟩ := In.of2 p hb5); subst hw'') | (obtain ⟨p, hw''⟩ := In.of hb5; subst hw''))))
      go_ret
      exact ⟨ret_str (by rw [hk3.out]; simp [fb]; rfl), p.back bk2⟩
    · have c1 := fun w => below_same (rname_c s w (by omega))
      have hk3 := Lib.hid (show keyV (.mk 4 b n f s l) = clsB 4 :: nameL s by rw [hkey.out]; rfl)
      have hln : ¬ 9223372036854775807 < 1 + (nameL s).length := by have := escL_len s; unfold nameL; simp; omega
      clear hkey c8 c2
      generalize nameL s = T at *
      go_upto_region 5 with fail
      obtain ⟨w2, hw2⟩ : ∃ w2, w2 = w1.alloc (.cells #[.int .u8 5] 5) := ⟨_, rfl⟩
      have hb2 : Below w1.heap.size w1 w2 := hw2 ▸ below_alloc w1 _
      have y0 := (hb2.cell (p := ⟨w.heap.size, 0, none⟩) x6).trans x0
      have y1 := (hb2.cell (p := ⟨w.heap.size, 1, none⟩) x6).trans x1
      have y2 := (hb2.cell (p := ⟨w.heap.size, 2, none⟩) x6).trans x2
      have y3 := (hb2.cell (p := ⟨w.heap.size, 3, none⟩) x6).trans x3
      have y4 := (hb2.cell (p := ⟨w.heap.size, 4, none⟩) x6).trans x4
      have y5 := (hb2.cell (p := ⟨w.heap.size, 5, none⟩) x6).trans x5
      have y6 := Nat.lt_of_lt_of_le x6 hb2.size
      have bk2 := bk.trans (hb2.mono bk.size)
      rw [← hw2]
      clear hw2 x0 x1 x2 x3 x4 x5 x6 hb2 bk hcv
      go_wp2_with ((with_reducible refine (c1 _).mono ?_); rintro e w3 ⟨rfl, hb3⟩)
      go_ret
      exact ⟨ret_str (by rw [hk3.out]; rfl), bk2.trans (hb3.mono bk2.size)⟩
    · have hpl : (putVL l).length ≤ 4000 := by
        have := hput.out
        rw [if_neg (by omega), if_neg (by omega), if_neg (by omega), if_neg (by omega), if_neg (by omega)] at this
        rw [this] at hsz
        simp at hsz
        omega
      have hkl := keyVL_len l
      have hk3 := Lib.hid (show keyV (.mk k b n f s l) = clsB k :: (keyVL l ++ [0]) by rw [hkey.out, if_neg (by omega), if_neg (by omega), if_neg (by omega), if_neg (by omega), if_pos h56])
      clear hkey hput hsz c8 c2
      rcases h56 with rfl | rfl
      ·
        go_upto_region 5 with fail
        obtain ⟨w2, hw2⟩ : ∃ w2, w2 = w1.alloc (.cells #[.int .u8 6] 5) := ⟨_, rfl⟩
        have hb2 : Below w1.heap.size w1 w2 := hw2 ▸ below_alloc w1 _
        have y0 := (hb2.cell (p := ⟨w.heap.size, 0, none⟩) x6).trans x0
        have y1 := (hb2.cell (p := ⟨w.heap.size, 1, none⟩) x6).trans x1
        have y2 := (hb2.cell (p := ⟨w.heap.size, 2, none⟩) x6).trans x2
        have y3 := (hb2.cell (p := ⟨w.heap.size, 3, none⟩) x6).trans x3
        have y4 := (hb2.cell (p := ⟨w.heap.size, 4, none⟩) x6).trans x4
        have y5 := (hb2.cell (p := ⟨w.heap.size, 5, none⟩) x6).trans x5
        have y6 := Nat.lt_of_lt_of_le x6 hb2.size
        have bk2 := bk.trans (hb2.mono bk.size)
        rw [← hw2]
        clear hw2 x0 x1 x2 x3 x4 x5 x6 hb2 bk hcv
        go_wp2_with fail
        go_loopw [4, 7] (fun a4 a7 wr => ∃ (i : Nat) (T : List UInt8), a4 = .string (st T) ∧ a7 = .int .i64 i ∧ i ≤ l.length ∧ Hid (T = clsB 5 :: keyVL (l.take i)) ∧ T.length ≤ 16001 ∧ Below w2.heap.size w2 wr) (fun _ a _ => l.length - (intOf a).toNat)
        case atStart => exact ⟨0, [clsB 5], rfl, rfl, Nat.zero_le _, (show _ = _ by simp [keyVL]), by simp, Below.refl _ _⟩
        case round =>
          obtain ⟨i, T, rfl, rfl, hi, hT, hTl, hbr⟩ := hrel
          have bkr := bk2.trans (hbr.mono bk2.size)
          have z5 := (hbr.cell (p := ⟨w.heap.size, 5, none⟩) y6).trans y5
          have z6 := Nat.lt_of_lt_of_le y6 hbr.size
          clear y0 y1 y2 y3 y4 y5
          by_cases hil : i < l.length
          · have hil' : (i : Int) < l.length := by omega
            obtain ⟨ad, k1, b1, n1, f1, s1, C1, len1, c1, rfl, hx, hat⟩ := hP i l[i] (by simp)
            obtain ⟨q6, q0, q1, q2, q3, q4, q5⟩ := hat.keep bkr
            have wi : IntKind.i64.wrap ((i : Int) + 1) = (i : Int) + 1 := by rw [IntKind.wrap_i64]; omega
            have hst := keyVL_take (l := l) (i := i) (x := l[i]) (by simp)
            have hckx := rp_parts hfine (i := i) (x := l[i]) (by simp)
            have hpx := putVL_part (l := l) (i := i) (x := l[i]) (by simp)
            have hpre := keyVL_pre (l := l) (i + 1)
            have hxr := hx.keep bkr
            have cr : Calls Tryd.prog 18 #[valV k1 b1 n1 f1 _ C1 len1 c1] wr (StrEnds (keyV l[i]) wr) := ih (wsz l[i]) (hpart i l[i] (by simp)) l[i] rfl _ wr (d + 1) hxr hckx (by omega)
            have hT2 := Lib.hid (show T ++ (1 :: keyV l[i]) = clsB 5 :: keyVL (l.take (i + 1)) by rw [hT.out, hst]; simp)
            have hl2 : (T ++ (1 :: keyV l[i])).length ≤ 16001 := by rw [hT2.out, List.length_cons]; omega
            have hl3 := hl2
            rw [List.length_append, List.length_cons] at hl3
            have hsm1 : ¬ 9223372036854775807 < 1 + (keyV l[i]).length := by omega
            have hsm2 : ¬ 9223372036854775807 < T.length + (1 + (keyV l[i]).length) := by omega
            have hsm3 : ¬ 9223372036854775807 < T.length + ((keyV l[i]).length + 1) := by omega
            have hl2 := Lib.hid hl2
            clear hx hxr hat hckx hpx hst hpre hl3 hT
            generalize keyV l[i] = px at *
            generalize l[i] = x at *
            clear hP ih hpart hfine
            unfold StrEnds at cr
            go_wp2_with ((with_reducible refine cr.mono ?_); rintro e w4 ⟨rfl, hb4⟩)
            exact ⟨⟨i + 1, T ++ (1 :: px), (by simp), rfl, hil, hT2.out, hl2.out, hbr.trans (hb4.mono hbr.size)⟩, by simp [intOf]; omega⟩
          · have hil' : ¬ (i : Int) < l.length := by omega
            have hTe := hT.out
            rw [List.take_of_length_le (by omega)] at hTe
            have hTe := Lib.hid (show T ++ [0] = clsB 5 :: (keyVL l ++ [0]) by rw [hTe]; simp)
            have hsm : ¬ 9223372036854775807 < T.length + 1 := by omega
            clear hT ih hpart hP hfine
            go_wp2_with fail
            go_ret
            exact ⟨ret_str (by first | exact hTe.out.trans hk3.out.symm | (rw [hk3.out, ← hTe.out] <;> simp)), bkr⟩
      ·
        go_upto_region 5 with fail
        obtain ⟨w2, hw2⟩ : ∃ w2, w2 = w1.alloc (.cells #[.int .u8 7] 5) := ⟨_, rfl⟩
        have hb2 : Below w1.heap.size w1 w2 := hw2 ▸ below_alloc w1 _
        have y0 := (hb2.cell (p := ⟨w.heap.size, 0, none⟩) x6).trans x0
        have y1 := (hb2.cell (p := ⟨w.heap.size, 1, none⟩) x6).trans x1
        have y2 := (hb2.cell (p := ⟨w.heap.size, 2, none⟩) x6).trans x2
        have y3 := (hb2.cell (p := ⟨w.heap.size, 3, none⟩) x6).trans x3
        have y4 := (hb2.cell (p := ⟨w.heap.size, 4, none⟩) x6).trans x4
        have y5 := (hb2.cell (p := ⟨w.heap.size, 5, none⟩) x6).trans x5
        have y6 := Nat.lt_of_lt_of_le x6 hb2.size
        have bk2 := bk.trans (hb2.mono bk.size)
        rw [← hw2]
        clear hw2 x0 x1 x2 x3 x4 x5 x6 hb2 bk hcv
        go_wp2_with fail
        go_loopw [4, 7] (fun a4 a7 wr => ∃ (i : Nat) (T : List UInt8), a4 = .string (st T) ∧ a7 = .int .i64 i ∧ i ≤ l.length ∧ Hid (T = clsB 6 :: keyVL (l.take i)) ∧ T.length ≤ 16001 ∧ Below w2.heap.size w2 wr) (fun _ a _ => l.length - (intOf a).toNat)
        case atStart => exact ⟨0, [clsB 6], rfl, rfl, Nat.zero_le _, (show _ = _ by simp [keyVL]), by simp, Below.refl _ _⟩
        case round =>
          obtain ⟨i, T, rfl, rfl, hi, hT, hTl, hbr⟩ := hrel
          have bkr := bk2.trans (hbr.mono bk2.size)
          have z5 := (hbr.cell (p := ⟨w.heap.size, 5, none⟩) y6).trans y5
          have z6 := Nat.lt_of_lt_of_le y6 hbr.size
          clear y0 y1 y2 y3 y4 y5
          by_cases hil : i < l.length
          · have hil' : (i : Int) < l.length := by omega
            obtain ⟨ad, k1, b1, n1, f1, s1, C1, len1, c1, rfl, hx, hat⟩ := hP i l[i] (by simp)
            obtain ⟨q6, q0, q1, q2, q3, q4, q5⟩ := hat.keep bkr
            have wi : IntKind.i64.wrap ((i : Int) + 1) = (i : Int) + 1 := by rw [IntKind.wrap_i64]; omega
            have hst := keyVL_take (l := l) (i := i) (x := l[i]) (by simp)
            have hckx := rp_parts hfine (i := i) (x := l[i]) (by simp)
            have hpx := putVL_part (l := l) (i := i) (x := l[i]) (by simp)
            have hpre := keyVL_pre (l := l) (i + 1)
            have hxr := hx.keep bkr
            have cr : Calls Tryd.prog 18 #[valV k1 b1 n1 f1 _ C1 len1 c1] wr (StrEnds (keyV l[i]) wr) := ih (wsz l[i]) (hpart i l[i] (by simp)) l[i] rfl _ wr (d + 1) hxr hckx (by omega)
            have hT2 := Lib.hid (show T ++ (1 :: keyV l[i]) = clsB 6 :: keyVL (l.take (i + 1)) by rw [hT.out, hst]; simp)
            have hl2 : (T ++ (1 :: keyV l[i])).length ≤ 16001 := by rw [hT2.out, List.length_cons]; omega
            have hl3 := hl2
            rw [List.length_append, List.length_cons] at hl3
            have hsm1 : ¬ 9223372036854775807 < 1 + (keyV l[i]).length := by omega
            have hsm2 : ¬ 9223372036854775807 < T.length + (1 + (keyV l[i]).length) := by omega
            have hsm3 : ¬ 9223372036854775807 < T.length + ((keyV l[i]).length + 1) := by omega
            have hl2 := Lib.hid hl2
            clear hx hxr hat hckx hpx hst hpre hl3 hT
            generalize keyV l[i] = px at *
            generalize l[i] = x at *
            clear hP ih hpart hfine
            unfold StrEnds at cr
            go_wp2_with ((with_reducible refine cr.mono ?_); rintro e w4 ⟨rfl, hb4⟩)
            exact ⟨⟨i + 1, T ++ (1 :: px), (by simp), rfl, hil, hT2.out, hl2.out, hbr.trans (hb4.mono hbr.size)⟩, by simp [intOf]; omega⟩
          · have hil' : ¬ (i : Int) < l.length := by omega
            have hTe := hT.out
            rw [List.take_of_length_le (by omega)] at hTe
            have hTe := Lib.hid (show T ++ [0] = clsB 6 :: (keyVL l ++ [0]) by rw [hTe]; simp)
            have hsm : ¬ 9223372036854775807 < T.length + 1 := by omega
            clear hT ih hpart hP hfine
            go_wp2_with fail
            go_ret
            exact ⟨ret_str (by first | exact hTe.out.trans hk3.out.symm | (rw [hk3.out, ← hTe.out] <;> simp)), bkr⟩
/-- may a value be, and is it not too great? -/
def mayV (v : Val) : Bool := CheckV v == 0 && decide ((putV v).length < 4000)
set_option maxRecDepth 8000 in
set_option maxHeartbeats 1000000 in
theorem may_c (v : Val) (u : Value) (w : World) (hv : Has w u v) : Calls Tryd.prog 16 #[u] w fun e w' => e = .returned (.bool (mayV v)) ∧ Below w.heap.size w w' := by
  have c1 : ∀ w', Below w.heap.size w w' → Calls Tryd.prog 23 #[u] w' fun e w'' => e = .returned (.int .i64 (CheckV v)) ∧ Below w'.heap.size w' w'' := fun w' h => rCheck_c v u w' (hv.keep h)
  have c2 : CheckV v = 0 → ∀ w', Below w.heap.size w w' → Calls Tryd.prog 24 #[u] w' fun e w'' => e = .returned (.string (st (putV v))) ∧ Below w'.heap.size w' w'' := fun he w' h => by
    have h2 : checkV v 1 = 0 ∧ bsz v ≤ 60000 := by
      unfold CheckV at he
      split at he
      · cases he
      · exact ⟨he, by omega⟩
    exact rput_c v u w' 1 (hv.keep h) h2.1 h2.2
  have hM : mayV v = (CheckV v == 0 && decide ((putV v).length < 4000)) := rfl
  have hM := Lib.hid hM
  obtain ⟨A, cap, rfl, _⟩ := hv.open
  clear hv
  generalize CheckV v = e0 at *
  generalize putV v = Pv at *
  go_enter Tryd.func16, Tryd.ntmps16
  go_upto_region 1 with fail
  obtain ⟨w1, hw1⟩ : ∃ w1, w1 = w.alloc (.cells #[.int .i64 v.k, .bool v.b, .int .i64 v.n, .float .f64 v.f, .string (st v.s), .slice A v.l.length cap] 37) := ⟨_, rfl⟩
  have bk : Below w.heap.size w w1 := hw1 ▸ below_alloc w _
  obtain ⟨x6, x0, x1, x2, x3, x4, x5⟩ : Box w1 w.heap.size v.k v.b v.n v.f v.s A v.l.length cap := hw1 ▸ Box.new w v.k v.b v.n v.f v.s A v.l.length cap _
  rw [← hw1]
  clear hw1
  have d1 := c1 w1 bk
  by_cases h0 : e0 = 0
  · subst h0
    have d2 := fun p : In w1 => c2 rfl p.w (p.back bk)
    clear c1 c2
    go_wp2_with (first | ((with_reducible refine d1.mono ?_); rintro e w3 ⟨rfl, hb3⟩; (first | ((with_reducible obtain ⟨p, hw''⟩ := In.of2 p hb3); subst hw'') | (obtain ⟨p, hw''⟩ := In.of hb3; subst hw''))) | ((with_reducible refine (d2 _).mono ?_); rintro e w4 ⟨rfl, hb4⟩; (first | ((with_reducible obtain ⟨p, hw''⟩ := In.of2 p hb4); subst hw'') | (obtain ⟨p, hw''⟩ := In.of hb4; subst hw''))))
    go_ret
    exact ⟨ret_bool (by rw [hM.out] <;> simp <;> omega), p.back bk⟩
  · have h0' : (e0 == 0) = false := by simpa using h0
    clear c1 c2
    go_wp2_with ((with_reducible refine d1.mono ?_); rintro e w3 ⟨rfl, hb3⟩; (first | ((with_reducible obtain ⟨p, hw''⟩ := In.of2 p hb3); subst hw'') | (obtain ⟨p, hw''⟩ := In.of hb3; subst hw'')))
    go_ret
    exact ⟨ret_bool (by rw [hM.out, h0'] <;> simp), p.back bk⟩
theorem may_of {v : Val} (h : mayV v = true) : checkV v 1 = 0 ∧ (putV v).length ≤ 4000 := by
  unfold mayV at h
  simp at h
  obtain ⟨h1, h2⟩ := h
  unfold CheckV at h1
  split at h1
  · cases h1
  · exact ⟨h1, by omega⟩
set_option maxRecDepth 8000 in
set_option maxHeartbeats 2000000 in
theorem keyOf_walk (u : Value) (v : Val) (w : World) (hsh : w.ShapedOpen Tryd.prog) (hv : Has w u v) :
    Calls Tryd.prog 5 #[u] w fun e w' => e = .returned (.bool true) ∧ Below w.heap.size w w' := by
  obtain ⟨m, hm⟩ := Tryd.laysM155.s1_3 w hsh
  have hg := World.block_lt_of_cell? w ⟨maxG, 0, none⟩ hm
  have c1 : ∀ w', Below w.heap.size w w' → Calls Tryd.prog 16 #[u] w' fun e w'' => e = .returned (.bool (mayV v)) ∧ Below w'.heap.size w' w'' := fun w' h => may_c v u w' (hv.keep h)
  have c2 : mayV v = true → ∀ w', Below w.heap.size w w' → Calls Tryd.prog 17 #[u] w' fun e w'' => e = .returned (.string (st (keyV v))) ∧ Below w'.heap.size w' w'' := fun hy w' h => of_c m v u w' 1 (hv.keep h) (may_of hy).1 (may_of hy).2 ((h.cell (p := ⟨maxG, 0, none⟩) hg).trans hm)
  have c3 : mayV v = true → ∀ w', Below w.heap.size w w' → Calls Tryd.prog 18 #[u] w' fun e w'' => e = .returned (.string (st (keyV v))) ∧ Below w'.heap.size w' w'' := fun hy w' h => rof_c v u w' 1 (hv.keep h) (may_of hy).1 (may_of hy).2
  obtain ⟨A, cap, rfl, _⟩ := hv.open
  clear hv hm hg hsh
  generalize mayV v = y at *
  generalize keyV v = Kv at *
  go_enter Tryd.func5, Tryd.ntmps5
  go_upto_region 1 with fail
  obtain ⟨w1, hw1⟩ : ∃ w1, w1 = w.alloc (.cells #[.int .i64 v.k, .bool v.b, .int .i64 v.n, .float .f64 v.f, .string (st v.s), .slice A v.l.length cap] 37) := ⟨_, rfl⟩
  have bk : Below w.heap.size w w1 := hw1 ▸ below_alloc w _
  obtain ⟨x6, x0, x1, x2, x3, x4, x5⟩ : Box w1 w.heap.size v.k v.b v.n v.f v.s A v.l.length cap := hw1 ▸ Box.new w v.k v.b v.n v.f v.s A v.l.length cap _
  rw [← hw1]
  clear hw1
  have aw := fun p : In w1 => awake_c p.w
  have d1 := fun p : In w1 => c1 p.w (p.back bk)
  cases y
  · clear c1 c2 c3
    (refine wp_region_flow [] (by kernel_rfl) (by kernel_rfl) ?_; (repeat (((with_reducible refine wpFlow_steps ?_); intro K hK; go_simp; first | (with_reducible refine hK _ ?_; clear hK K) | (apply Exists.intro; (with_reducible refine ⟨fun _ => ⟨?_, _, rfl⟩, hK _ ?_⟩); (· exact rfl); clear hK K) | (apply Exists.intro; (with_reducible refine ⟨fun _ => ⟨_, rfl⟩, hK _ ?_⟩); clear hK K) | (apply Exists.intro; (with_reducible refine ⟨fun _ => ?_, hK _ ?_⟩); (· (with_reducible (first | exact aw _ | exact d1 _))); clear hK K)))); (refine wpFlow_nil ?_; rintro w1 ⟨q0, hq0⟩; have hb := In.h q0; rw [← hq0] at hb; clear hq0 q0; (first | ((with_reducible obtain ⟨p, hw''⟩ := In.of2 p hb); subst hw'') | (obtain ⟨p, hw''⟩ := In.of hb; subst hw'')); go_simp; intros))
    go_wp2_with fail
    go_ret
    exact ⟨rfl, p.back bk⟩
  · have d2 := fun p : In w1 => c2 rfl p.w (p.back bk)
    have d3 := fun p : In w1 => c3 rfl p.w (p.back bk)
    clear c1 c2 c3
    (refine wp_region_flow [] (by kernel_rfl) (by kernel_rfl) ?_; (repeat (((with_reducible refine wpFlow_steps ?_); intro K hK; go_simp; first | (with_reducible refine hK _ ?_; clear hK K) | (apply Exists.intro; (with_reducible refine ⟨fun _ => ⟨?_, _, rfl⟩, hK _ ?_⟩); (· exact rfl); clear hK K) | (apply Exists.intro; (with_reducible refine ⟨fun _ => ⟨_, rfl⟩, hK _ ?_⟩); clear hK K) | (apply Exists.intro; (with_reducible refine ⟨fun _ => ?_, hK _ ?_⟩); (· (with_reducible (first | exact aw _ | exact d1 _ | exact d2 _ | exact d3 _))); clear hK K)))); (refine wpFlow_nil ?_; rintro w1 ⟨q0, hq0⟩; have hb := In.h q0; rw [← hq0] at hb; clear hq0 q0; (first | ((with_reducible obtain ⟨p, hw''⟩ := In.of2 p hb); subst hw'') | (obtain ⟨p, hw''⟩ := In.of hb; subst hw'')); go_simp; intros))
    go_wp2_with fail
    go_ret
    exact ⟨rfl, p.back bk⟩
end Go.Proofs.YteldgdlpfailgaaDoor
