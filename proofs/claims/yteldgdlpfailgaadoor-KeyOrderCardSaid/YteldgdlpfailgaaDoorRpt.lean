
/-
  The reference's bytes of a value.
-/
import Derived.Test.YteldgdlpfailgaaDoorValK
import Derived.Test.YteldgdlpfailgaaDoorBytesR
set_option linter.unusedSimpArgs false
set_option linter.unusedVariables false
namespace Go.Proofs.YteldgdlpfailgaaDoor
open Go.RowKit

theorem rp_parts {d : Nat} {k : Int} {b : Bool} {n : Int} {f : Nat} {s : List UInt8} {l : List Val} (h : Fine d k b n f s l) {i : Nat} {x : Val} (hx : l[i]? = some x) : checkV x (d + 1) = 0 := h.parts x (List.mem_of_getElem? hx)
theorem rp_bsz {l : List Val} {i : Nat} {x : Val} (h : l[i]? = some x) : bszL (l.take i) + bsz x ≤ bszL l := by
  have h1 := bszL_take h
  have h2 := bszL_le l (i + 1)
  omega
theorem putVL_pre {l : List Val} (i : Nat) : (putVL (l.take i)).length ≤ (putVL l).length := by
  have e := putVL_append (l.take i) (l.drop i)
  rw [List.take_append_drop] at e
  rw [e, List.length_append]
  omega
set_option maxRecDepth 8000 in
set_option maxHeartbeats 4000000 in
theorem rput_c (v : Val) : ∀ (u : Value) (w : World) (d : Nat), Has w u v → checkV v d = 0 → bsz v ≤ 60000 → Calls Tryd.prog 24 #[u] w (StrEnds (putV v) w) := by
  generalize hz : wsz v = z
  induction z using Nat.strongRecOn generalizing v with
  | _ z ih =>
    intro u w d hv hck hsz
    obtain ⟨A, cap, rfl, hk, hn, hf, hs, hlb, hl, hc, hp⟩ := hv.open
    have hpart := fun i x => wsz_part (v := v) (x := x) (i := i)
    rw [hz] at hpart
    obtain ⟨k, b, n, f, s, l⟩ := v
    dsimp only [Val.k, Val.b, Val.n, Val.f, Val.s, Val.l] at *
    have hfine := fine_of hck
    have hr := Lib.hid (shape_range hfine.sh)
    have hP : Parts w A l := hp
    have hput := Lib.hid (show putV (.mk k b n f s l) = byte (k % 256) :: (if k = 0 then [] else if k = 1 then [if b then 1 else 0] else if k = 2 ∨ k = 7 ∨ k = 8 then eightL (n % 18446744073709551616) else if k = 3 then eightL (canon f) else if k = 4 then twoL s.length ++ s else twoL l.length ++ putVL l) by rw [putV])
    have hlen := Lib.hid (putV_len _ d hck)
    have hfu := canon_lt hf.lt
    clear hv hz hck hk hp hl hc
    go_enter Tryd.func24, Tryd.ntmps24
    go_upto_region 1 with fail
    obtain ⟨w1, hw1⟩ : ∃ w1, w1 = w.alloc (.cells #[.int .i64 k, .bool b, .int .i64 n, .float .f64 f, .string (st s), .slice A l.length cap] 37) := ⟨_, rfl⟩
    have bk : Below w.heap.size w w1 := hw1 ▸ below_alloc w _
    obtain ⟨x6, x0, x1, x2, x3, x4, x5⟩ : Box w1 w.heap.size k b n f s A l.length cap := hw1 ▸ Box.new w k b n f s A l.length cap _
    rw [← hw1]
    clear hw1
    have hcv := conv_new w1 5 [k % 256]
    simp only [List.length_cons, List.length_nil, List.map_cons, List.map_nil, Nat.zero_add, Nat.reduceAdd] at hcv
    go_upto_region 2 with fail
    obtain ⟨w2, hw2⟩ : ∃ w2, w2 = w1.alloc (.cells #[.int .u8 (k % 256)] 5) := ⟨_, rfl⟩
    have bel2 : Below w1.heap.size w1 w2 := hw2 ▸ below_alloc w1 _
    have y0 := (bel2.cell (p := ⟨w.heap.size, 0, none⟩) x6).trans x0
    have y1 := (bel2.cell (p := ⟨w.heap.size, 1, none⟩) x6).trans x1
    have y2 := (bel2.cell (p := ⟨w.heap.size, 2, none⟩) x6).trans x2
    have y3 := (bel2.cell (p := ⟨w.heap.size, 3, none⟩) x6).trans x3
    have y4 := (bel2.cell (p := ⟨w.heap.size, 4, none⟩) x6).trans x4
    have y5 := (bel2.cell (p := ⟨w.heap.size, 5, none⟩) x6).trans x5
    have y6 := Nat.lt_of_lt_of_le x6 bel2.size
    have bk2 := bk.trans (bel2.mono bk.size)
    rw [← hw2]
    clear hw2 hcv x0 x1 x2 x3 x4 x5 x6
    obtain ⟨hd, hhd⟩ : ∃ hd, hd = byte (k % 256) := ⟨_, rfl⟩
    rw [← hhd]
    have hput2 := Lib.hid (show putV (.mk k b n f s l) = hd :: (if k = 0 then [] else if k = 1 then [if b then 1 else 0] else if k = 2 ∨ k = 7 ∨ k = 8 then eightL (n % 18446744073709551616) else if k = 3 then eightL (canon f) else if k = 4 then twoL s.length ++ s else twoL l.length ++ putVL l) by rw [hput.out, hhd])
    have hsl := hfine.hs
    have hll := hfine.hl
    clear hput hhd bel2
    have hk : k = 0 ∨ k = 1 ∨ (k = 2 ∨ k = 7 ∨ k = 8) ∨ k = 3 ∨ k = 4 ∨ (k = 5 ∨ k = 6) := by have := hr.out; omega
    clear hr
    rcases hk with rfl | rfl | h278 | rfl | rfl | h56
    · go_wp2_with fail
      go_ret
      exact ⟨ret_str (by rw [hput2.out]; rfl), bk2⟩
    · cases b
      · go_wp2_with fail
        go_ret
        exact ⟨ret_str (by rw [hput2.out]; rfl), bk2⟩
      · go_wp2_with fail
        go_ret
        exact ⟨ret_str (by rw [hput2.out]; rfl), bk2⟩
    · obtain ⟨N, hN⟩ : ∃ N, N = n % 18446744073709551616 := ⟨_, rfl⟩
      have wN : IntKind.u64.wrap n = N := by rw [wrap_u64', hN]
      have hput3 := Lib.hid (show putV (.mk k b n f s l) = hd :: eightL N by rw [hput2.out, if_neg (by omega), if_neg (by omega), if_pos h278, hN])
      have c1 := fun w => reight_c N w (by omega) (by omega)
      clear hN hput2
      rcases h278 with rfl | rfl | rfl
      all_goals
        go_wp2_with ((with_reducible refine (c1 _).mono ?_); rintro e w3 ⟨rfl, hb3⟩)
        go_ret
        exact ⟨ret_str (by rw [hput3.out] <;> rfl), bk2.trans (hb3.mono bk2.size)⟩
    · have hput3 := Lib.hid (show putV (.mk 3 b n f s l) = hd :: eightL (fb (canon f)) by rw [hput2.out]; rfl)
      have c1 := fun w => reight_c (fb (canon f)) w (by unfold fb; omega) (by unfold fb; omega)
      have c2 := fun w => rcanon_c f w
      clear hput2
      go_wp2_with (first | ((with_reducible refine (c1 _).mono ?_); rintro e w3 ⟨rfl, hb3⟩) | ((with_reducible refine (c2 _).mono ?_); rintro e w4 ⟨rfl, rfl⟩) | go_in)
      go_ret
      exact ⟨ret_str (by rw [hput3.out] <;> rfl), bk2.trans (hb3.mono bk2.size)⟩
    · have hput3 := Lib.hid (show putV (.mk 4 b n f s l) = hd :: (twoL s.length ++ s) by rw [hput2.out]; rfl)
      have c1 : ∀ w, Calls Tryd.prog 29 #[.int .i64 (s.length : Int)] w fun e w' => e = .returned (.string (st (twoL s.length))) ∧ Below w.heap.size w w' := fun w => rtwo_c (s.length : Int) w (by omega) (by omega)
      have hsm : ¬ 9223372036854775807 < 3 + s.length := by omega
      clear hput2
      go_upto_region 14 with fail
      (refine wp_region_flow [] (by kernel_rfl) (by kernel_rfl) ?_; (repeat (((with_reducible refine wpFlow_steps ?_); intro K hK; go_simp; first | (with_reducible refine hK _ ?_; clear hK K) | (apply Exists.intro; (with_reducible refine ⟨fun _ => ⟨?_, _, rfl⟩, hK _ ?_⟩); (· exact rfl); clear hK K) | (apply Exists.intro; (with_reducible refine ⟨fun _ => ⟨_, rfl⟩, hK _ ?_⟩); clear hK K) | (apply Exists.intro; (with_reducible refine ⟨fun _ => ?_, hK _ ?_⟩); (· (with_reducible (first | exact c1 _))); clear hK K)))); (refine wpFlow_nil ?_; rintro w1 ⟨q0, hq0⟩; have hb := In.h q0; rw [← hq0] at hb; clear hq0 q0; (first | ((with_reducible obtain ⟨p, hw''⟩ := In.of2 p hb); subst hw'') | (obtain ⟨p, hw''⟩ := In.of hb; subst hw'')); go_simp; intros))
      go_wp2_with fail
      go_ret
      exact ⟨ret_str (by rw [hput3.out] <;> simp), p.back bk2⟩
    · have hput3 := Lib.hid (show putV (.mk k b n f s l) = hd :: (twoL l.length ++ putVL l) by rw [hput2.out, if_neg (by omega), if_neg (by omega), if_neg (by omega), if_neg (by omega), if_neg (by omega)])
      have c1 : ∀ w, Calls Tryd.prog 29 #[.int .i64 (l.length : Int)] w fun e w' => e = .returned (.string (st (twoL l.length))) ∧ Below w.heap.size w w' := fun w => rtwo_c (l.length : Int) w (by omega) (by omega)
      have hbz := hlen.out
      clear hlen hput2
      rw [hput3.out, List.length_cons, List.length_append, twoL_len] at hbz
      have hpl : (putVL l).length ≤ 60000 := by omega
      have hbl : bszL l ≤ 60000 := by
        have hbb : bsz (.mk k b n f s l) = 3 + bszL l := by rw [bsz, if_neg (by omega), if_neg (by omega), if_neg (by omega), if_pos h56]
        omega
      clear hbz
      rcases h56 with rfl | rfl
      all_goals
        go_upto_region 18 with ((with_reducible refine (c1 _).mono ?_); rintro e w3 ⟨rfl, hb3⟩)
        have v5 := (hb3.cell (p := ⟨w.heap.size, 5, none⟩) y6).trans y5
        have v6 := Nat.lt_of_lt_of_le y6 hb3.size
        have bk3 := bk2.trans (hb3.mono bk2.size)
        clear y0 y1 y2 y3 y4 y5 y6 hb3 c1
        go_wp2_with fail
        go_loopw [3, 4] (fun a3 a4 wr => ∃ (i : Nat) (P : List UInt8), a3 = .string (st P) ∧ a4 = .int .i64 i ∧ i ≤ l.length ∧ Hid (P = hd :: (twoL l.length ++ putVL (l.take i))) ∧ P.length ≤ 60003 ∧ Below w3.heap.size w3 wr) (fun _ a _ => l.length - (intOf a).toNat)
        case atStart => exact ⟨0, _, rfl, rfl, Nat.zero_le _, (show _ = _ by simp [putVL]), by simp [twoL_len], Below.refl _ _⟩
        case round =>
          obtain ⟨i, P, rfl, rfl, hi, hPs, hPl, hbr⟩ := hrel
          have bkr := bk3.trans (hbr.mono bk3.size)
          have z5 := (hbr.cell (p := ⟨w.heap.size, 5, none⟩) v6).trans v5
          have z6 := Nat.lt_of_lt_of_le v6 hbr.size
          by_cases hil : i < l.length
          · have hil' : (i : Int) < l.length := by omega
            obtain ⟨ad, k1, b1, n1, f1, s1, C1, len1, c1, rfl, hx, hat⟩ := hP i l[i] (by simp)
            obtain ⟨q6, q0, q1, q2, q3, q4, q5⟩ := hat.keep bkr
            have wi : IntKind.i64.wrap ((i : Int) + 1) = (i : Int) + 1 := by rw [wrap_i64]; omega
            have hst := putVL_take (l := l) (i := i) (x := l[i]) (by simp)
            have hpx := rp_bsz (l := l) (i := i) (x := l[i]) (by simp)
            have hckx := rp_parts hfine (i := i) (x := l[i]) (by simp)
            have hxr := hx.keep bkr
            have hpre1 := putVL_pre (l := l) (i + 1)
            have cr : Calls Tryd.prog 24 #[valV k1 b1 n1 f1 _ C1 len1 c1] wr (StrEnds (putV l[i]) wr) := ih (wsz l[i]) (hpart i l[i] (by simp)) l[i] rfl _ wr (d + 1) hxr hckx (by omega)
            have hP2 := Lib.hid (show P ++ putV l[i] = hd :: (twoL l.length ++ putVL (l.take (i + 1))) by rw [hPs.out, hst]; simp [List.append_assoc])
            have hl2 : (P ++ putV l[i]).length ≤ 60003 := by rw [hP2.out, List.length_cons, List.length_append, twoL_len]; omega
            have hl3 := hl2
            rw [List.length_append] at hl3
            have hsm : ¬ 9223372036854775807 < P.length + (putV l[i]).length := by omega
            have hl2 := Lib.hid hl2
            clear hx hxr hat hckx hpx hst hpre1 hl3 hPs
            generalize putV l[i] = px at *
            generalize l[i] = x at *
            clear hP ih hpart hfine
            go_wp2_with ((with_reducible refine cr.mono ?_); rintro e w4 ⟨rfl, hb4⟩)
            exact ⟨⟨i + 1, P ++ px, (by simp), rfl, hil, hP2.out, hl2.out, hbr.trans (hb4.mono hbr.size)⟩, by simp [intOf]; omega⟩
          · have hil' : ¬ (i : Int) < l.length := by omega
            have hPe := hPs.out
            rw [List.take_of_length_le (by omega)] at hPe
            have hPe := Lib.hid (hPe.trans hput3.out.symm)
            clear hPs ih hpart hP hfine
            go_wp2_with fail
            go_ret
            exact ⟨ret_str (by first | exact hPe.out | exact hput3.out.symm), bkr⟩
end Go.Proofs.YteldgdlpfailgaaDoor
