
/-
  val.bytes, Put.
-/
import Derived.Test.YtkbacjlnfmibaaaValK
import Derived.Test.YtkbacjlnfmibaaaBld
import Derived.Test.YtkbacjlnfmibaaaShelf
set_option linter.unusedSimpArgs false
set_option linter.unusedVariables false
namespace Go.Proofs.Ytkbacjlnfmibaaa
open Go.RowKit

theorem checkV_mono_parts {d : Nat} {k : Int} {b : Bool} {n : Int} {f : Nat} {s : List UInt8} {l : List Val} (h : Fine d k b n f s l) {i : Nat} {x : Val} (hx : l[i]? = some x) : checkV x (d + 1) = 0 := h.parts x (List.mem_of_getElem? hx)
theorem bszL_part {l : List Val} {i : Nat} {x : Val} (h : l[i]? = some x) : bszL (l.take i) + bsz x ≤ bszL l := by
  have h1 := bszL_take h
  have h2 := bszL_le l (i + 1)
  omega
set_option maxRecDepth 8000 in
set_option maxHeartbeats 4000000 in
theorem bytes_c (v : Val) : ∀ (u : Value) (w : World) (d : Nat), Has w u v → checkV v d = 0 → bsz v ≤ 60000 → Calls Try.prog 42 #[u] w (StrEnds (putV v) w) := by
  generalize hz : wsz v = z
  induction z using Nat.strongRecOn generalizing v with
  | _ z ih =>
    intro u w d hv hck hsz
    obtain ⟨A, cap, rfl, hk, hn, hf, hs, hlb, hl, hc, hp⟩ := hv.open
    have hpart := fun i x => wsz_part (v := v) (x := x) (i := i)
    rw [hz] at hpart
    obtain ⟨k, b, n, f, s, l⟩ := v
    dsimp only [Val.k, Val.b, Val.n, Val.f, Val.s, Val.l] at *
    have hfine := fine_of hck
    have hr := Lib.hid (shape_range hfine.sh)
    have hP : Parts w A l := hp
    have hput := Lib.hid (show putV (.mk k b n f s l) = byte (k % 256) :: (if k = 0 then [] else if k = 1 then [if b then 1 else 0] else if k = 2 ∨ k = 7 ∨ k = 8 then eightL (n % 18446744073709551616) else if k = 3 then eightL (canon f) else if k = 4 then twoL s.length ++ s else twoL l.length ++ putVL l) by rw [putV])
    have hlen := Lib.hid (putV_len _ d hck)
    clear hv hz hck hk hp hl hc
    go_enter Try.func42, Try.ntmps42
    go_upto_region 1 with fail
    obtain ⟨w1, hw1⟩ : ∃ w1, w1 = w.alloc (.cells #[.int .i64 k, .bool b, .int .i64 n, .float .f64 f, .string (st s), .slice A l.length cap] 25) := ⟨_, rfl⟩
    have bk : Below w.heap.size w w1 := hw1 ▸ below_alloc w _
    obtain ⟨x6, x0, x1, x2, x3, x4, x5⟩ : Box w1 w.heap.size k b n f s A l.length cap := hw1 ▸ Box.new w k b n f s A l.length cap _
    rw [← hw1]
    clear hw1
    have hcv := conv_new w1 5 [k % 256]
    simp only [List.length_cons, List.length_nil, List.map_cons, List.map_nil, Nat.zero_add, Nat.reduceAdd] at hcv
    go_upto_region 2 with fail
    obtain ⟨w2, hw2⟩ : ∃ w2, w2 = w1.alloc (.cells #[.int .u8 (k % 256)] 5) := ⟨_, rfl⟩
    have bel2 : Below w1.heap.size w1 w2 := hw2 ▸ below_alloc w1 _
    have y0 := (bel2.cell (p := ⟨w.heap.size, 0, none⟩) x6).trans x0
    have y1 := (bel2.cell (p := ⟨w.heap.size, 1, none⟩) x6).trans x1
    have y2 := (bel2.cell (p := ⟨w.heap.size, 2, none⟩) x6).trans x2
    have y3 := (bel2.cell (p := ⟨w.heap.size, 3, none⟩) x6).trans x3
    have y4 := (bel2.cell (p := ⟨w.heap.size, 4, none⟩) x6).trans x4
    have y5 := (bel2.cell (p := ⟨w.heap.size, 5, none⟩) x6).trans x5
    have y6 := Nat.lt_of_lt_of_le x6 bel2.size
    have bk2 := bk.trans (bel2.mono bk.size)
    rw [← hw2]
    clear hw2 hcv x0 x1 x2 x3 x4 x5 x6
    obtain ⟨hd, hhd⟩ : ∃ hd, hd = byte (k % 256) := ⟨_, rfl⟩
    rw [← hhd]
    have hput2 := Lib.hid (show putV (.mk k b n f s l) = hd :: (if k = 0 then [] else if k = 1 then [if b then 1 else 0] else if k = 2 ∨ k = 7 ∨ k = 8 then eightL (n % 18446744073709551616) else if k = 3 then eightL (canon f) else if k = 4 then twoL s.length ++ s else twoL l.length ++ putVL l) by rw [hput.out, hhd])
    have hsl := hfine.hs
    have hll := hfine.hl
    clear hput hhd bel2
    have hk : k = 0 ∨ k = 1 ∨ (k = 2 ∨ k = 7 ∨ k = 8) ∨ k = 3 ∨ k = 4 ∨ (k = 5 ∨ k = 6) := by have := hr.out; omega
    clear hr
    rcases hk with rfl | rfl | h278 | rfl | rfl | h56
    · go_wp2_with fail
      go_ret
      exact ⟨ret_str (by rw [hput2.out]; rfl), bk2⟩
    · cases b
      · go_wp2_with fail
        go_ret
        exact ⟨ret_str (by rw [hput2.out]; rfl), bk2⟩
      · go_wp2_with fail
        go_ret
        exact ⟨ret_str (by rw [hput2.out]; rfl), bk2⟩
    · obtain ⟨N, hN⟩ : ∃ N, N = n % 18446744073709551616 := ⟨_, rfl⟩
      have wN : IntKind.u64.wrap n = N := by rw [wrap_u64', hN]
      have hput3 := Lib.hid (show putV (.mk k b n f s l) = hd :: eightL N by rw [hput2.out, if_neg (by omega), if_neg (by omega), if_pos h278, hN])
      have c1 := fun w => eight_c N w (by omega)
      clear hN hput2
      rcases h278 with rfl | rfl | rfl
      all_goals
        go_wp2_with ((with_reducible refine (c1 _).mono ?_); rintro e w3 ⟨rfl, hb3⟩)
        go_ret
        exact ⟨ret_str (by rw [hput3.out]; rfl), bk2.trans (hb3.mono bk2.size)⟩
    · have hput3 := Lib.hid (show putV (.mk 3 b n f s l) = hd :: eightL (fb (canon f)) by rw [hput2.out]; rfl)
      have c1 := fun w => eight_c (fb (canon f)) w (by unfold fb; omega)
      have c2 := fun w => canon_c f w
      clear hput2
      go_wp2_with (first | ((with_reducible refine (c1 _).mono ?_); rintro e w3 ⟨rfl, hb3⟩) | ((with_reducible refine (c2 _).mono ?_); rintro e w4 ⟨rfl, rfl⟩) | go_in)
      go_ret
      exact ⟨ret_str (by rw [hput3.out]; rfl), bk2.trans (hb3.mono bk2.size)⟩
    · have hput3 := Lib.hid (show putV (.mk 4 b n f s l) = hd :: (twoL s.length ++ s) by rw [hput2.out]; rfl)
      have c1 : ∀ w, Calls Try.prog 24 #[.int .i64 (s.length : Int)] w fun e w' => e = .returned (.string (st (twoL s.length))) ∧ Below w.heap.size w w' := fun w => two_c (s.length : Int) w
      have hsm : ¬ 9223372036854775807 < 3 + s.length := by omega
      clear hput2
      go_upto_region 16 with fail
      (refine wp_region_flow [] (by kernel_rfl) (by kernel_rfl) ?_; (repeat (((with_reducible refine wpFlow_steps ?_); intro K hK; go_simp; first | (with_reducible refine hK _ ?_; clear hK K) | (apply Exists.intro; (with_reducible refine ⟨fun _ => ⟨?_, _, rfl⟩, hK _ ?_⟩); (· exact rfl); clear hK K) | (apply Exists.intro; (with_reducible refine ⟨fun _ => ⟨_, rfl⟩, hK _ ?_⟩); clear hK K) | (apply Exists.intro; (with_reducible refine ⟨fun _ => ?_, hK _ ?_⟩); (· (with_reducible (first | exact c1 _))); clear hK K)))); (refine wpFlow_nil ?_; rintro w1 ⟨q0, hq0⟩; have hb := In.h q0; rw [← hq0] at hb; clear hq0 q0; (first | ((with_reducible obtain ⟨p, hw''⟩ := In.of2 p hb); subst hw'') | (obtain ⟨p, hw''⟩ := In.of hb; subst hw'')); go_simp; intros))
      go_wp2_with fail
      go_ret
      exact ⟨ret_str (by rw [hput3.out]; simp), p.back bk2⟩
    · have hput3 := Lib.hid (show putV (.mk k b n f s l) = hd :: (twoL l.length ++ putVL l) by rw [hput2.out, if_neg (by omega), if_neg (by omega), if_neg (by omega), if_neg (by omega), if_neg (by omega)])
      have c1 : ∀ w, Calls Try.prog 24 #[.int .i64 (l.length : Int)] w fun e w' => e = .returned (.string (st (twoL l.length))) ∧ Below w.heap.size w w' := fun w => two_c (l.length : Int) w
      clear hput2
      rcases h56 with rfl | rfl
      all_goals
        go_upto_region 18 with fail
        obtain ⟨w3, hw3⟩ : ∃ w3, w3 = w2.alloc (.cells #[.pointer none, .slice none 0 0] 76) := ⟨_, rfl⟩
        have bel3 : Below w2.heap.size w2 w3 := hw3 ▸ below_alloc w2 _
        have hbu : Lib.IsBuilder 76 5 w2.heap.size w2.heap.size (Lib.byteCells []) w3 := hw3 ▸ Lib.fresh_isBuilder _ _ w2
        have z5 := (bel3.cell (p := ⟨w.heap.size, 5, none⟩) y6).trans y5
        have z6 := Nat.lt_of_lt_of_le y6 bel3.size
        rw [← hw3]
        clear hw3 y0 y1 y2 y3 y4
        have cW : ∀ (p : In w3) (t : List UInt8), t = hd :: twoL l.length → Calls Try.prog 62 #[.pointer (some ⟨w2.heap.size, 0, none⟩), .string (st t)] p.w fun e w' => e = .returned (.tuple #[.int .i64 t.length, .nilIface]) ∧ Lib.IsBuilder 76 5 w2.heap.size w2.heap.size (Lib.byteCells (hd :: twoL l.length)) w' ∧ Below w2.heap.size p.w w' := fun p t ht => by
          have h := writeStr_c w2.heap.size w2.heap.size [] t p.w (builder_keep hbu p.h) (by rw [ht]; simp [twoL_len]) (Nat.le_trans bel3.size p.h.size)
          rw [List.nil_append, ht] at h
          rw [ht]; exact h
        go_upto_region 19 with (first | ((with_reducible refine (c1 _).mono ?_); rintro e w4 ⟨rfl, hb4⟩; (first | ((with_reducible obtain ⟨p, hw''⟩ := In.of2 p hb4); subst hw'') | (obtain ⟨p, hw''⟩ := In.of hb4; subst hw''))) | ((with_reducible refine (cW _ _ (by simp)).mono ?_); rintro e w5 ⟨rfl, hbu5, hb5⟩))
        have bel5 : Below w2.heap.size w2 w5 := bel3.trans ((p.h.mono bel3.size).trans hb5)
        have v5 := (bel5.cell (p := ⟨w.heap.size, 5, none⟩) y6).trans y5
        have v6 := Nat.lt_of_lt_of_le y6 bel5.size
        clear hb5 cW hbu z5 z6 c1
        have hbz := hlen.out
        clear hlen
        rw [hput3.out, List.length_cons, List.length_append, twoL_len] at hbz
        have hbb : ∀ kk, kk = 5 ∨ kk = 6 → bsz (.mk kk b n f s l) = 3 + bszL l := fun kk h => by rw [bsz, if_neg (by omega), if_neg (by omega), if_neg (by omega), if_pos h]
        first | rw [hbb 5 (.inl rfl)] at hsz hbz | rw [hbb 6 (.inr rfl)] at hsz hbz
        have hpl : (putVL l).length ≤ 60000 := by omega
        have hbl : bszL l ≤ 60000 := by omega
        clear hbz
        go_wp2_with fail
        go_loopw [65] (fun a65 wr => ∃ i : Nat, a65 = .int .i64 i ∧ i ≤ l.length ∧ Hid (Lib.IsBuilder 76 5 w2.heap.size w2.heap.size (Lib.byteCells (hd :: (twoL l.length ++ putVL (l.take i)))) wr) ∧ Below w2.heap.size w2 wr) (fun a _ => l.length - (intOf a).toNat)
        case atStart => exact ⟨0, rfl, Nat.zero_le _, by show Lib.IsBuilder _ _ _ _ _ _; simpa [putVL] using hbu5, bel5⟩
        case round =>
          clear bel5 hbu5 v5 v6
          obtain ⟨i, rfl, hi, hbu, hbr⟩ := hrel
          have bkr := bk2.trans (hbr.mono bk2.size)
          by_cases hil : i < l.length
          · have hil' : (i : Int) < l.length := by omega
            obtain ⟨ad, k1, b1, n1, f1, s1, C1, len1, c1, rfl, hx, hat⟩ := hP i l[i] (by simp)
            obtain ⟨q6, q0, q1, q2, q3, q4, q5⟩ := hat.keep bkr
            have wi : IntKind.i64.wrap ((i : Int) + 1) = (i : Int) + 1 := by rw [wrap_i64]; omega
            have hst := Lib.hid (putVL_take (l := l) (i := i) (x := l[i]) (by simp))
            have hpx := bszL_part (l := l) (i := i) (x := l[i]) (by simp)
            have hckx := checkV_mono_parts hfine (i := i) (x := l[i]) (by simp)
            have hlx := putV_len l[i] (d + 1) hckx
            have hlt := hpl
            have hxr := hx.keep bkr
            have cr : ∀ o, Calls Try.prog 42 #[valV k1 b1 n1 f1 _ C1 len1 c1] (wr.alloc o) (StrEnds (putV l[i]) (wr.alloc o)) := fun o => ih (wsz l[i]) (hpart i l[i] (by simp)) l[i] rfl _ (wr.alloc o) (d + 1) (hxr.keep (below_alloc _ _)) hckx (by omega)
            have hpre : (putVL (l.take i)).length ≤ 60000 := by
              have e := putVL_append (l.take i) (l.drop i)
              rw [List.take_append_drop] at e
              rw [e, List.length_append] at hpl
              omega
            have hxl : (putV l[i]).length ≤ 60000 := by omega
            have cW : ∀ wx, Below wr.heap.size wr wx → Calls Try.prog 62 #[.pointer (some ⟨w2.heap.size, 0, none⟩), .string (st (putV l[i]))] wx fun e w' => e = .returned (.tuple #[.int .i64 (putV l[i]).length, .nilIface]) ∧ Hid (Lib.IsBuilder 76 5 w2.heap.size w2.heap.size (Lib.byteCells (hd :: (twoL l.length ++ putVL (l.take (i + 1))))) w') ∧ Below w2.heap.size wx w' := fun wx h => by
              refine (writeStr_c w2.heap.size w2.heap.size _ (putV l[i]) wx (builder_keep hbu.out h) (by rw [List.length_cons, List.length_append, twoL_len]; omega) (Nat.le_trans hbr.size h.size)).mono ?_
              rintro e w' ⟨h1, h2, h3⟩
              refine ⟨h1, ?_, h3⟩
              show Lib.IsBuilder _ _ _ _ _ _
              rw [hst.out]
              simpa [List.append_assoc] using h2
            clear hbu hx hxr hat hckx hlx hpx hlt hpre
            generalize putV l[i] = px at *
            generalize l[i] = x at *
            clear hP ih hpart hfine
            go_wp2_with (first | ((with_reducible refine (cr _).mono ?_); rintro e w4 ⟨rfl, hb4⟩; have hb4' := (below_alloc wr _).trans (hb4.mono (below_alloc wr _).size)) | ((with_reducible refine (cW _ hb4').mono ?_); rintro e w5 ⟨rfl, hbu5, hb5⟩))
            refine ⟨⟨i + 1, rfl, hil, hbu5, hbr.trans ((hb4'.mono hbr.size).trans hb5)⟩, by simp [intOf]; omega⟩
          · have hil' : ¬ (i : Int) < l.length := by omega
            have hbu' := hbu.out
            rw [List.take_of_length_le (by omega)] at hbu'
            have cS := Try.Builder_String_any w2.heap.size w2.heap.size _ wr hbu' hbr.size
            clear hbu hbu' ih hpart hP hfine
            go_wp2_with ((with_reducible refine cS.mono ?_); rintro e w5 ⟨rfl, hb5⟩)
            go_ret
            exact ⟨ret_str hput3.out.symm, bk2.trans ((hbr.trans hb5).mono bk2.size)⟩
/-- a value's bytes, or why there are none -/
def PutEnds (v : Val) (w : World) (e : Ending) (w' : World) : Prop := e = .returned (.tuple #[.string (st (if CheckV v = 0 then putV v else [])), .int .i64 (CheckV v)]) ∧ Below w.heap.size w w'
theorem ret_se {a b : List UInt8} {x y : Int} (h1 : a = b) (h2 : x = y) : Ending.returned (.tuple #[.string (st a), .int .i64 x]) = .returned (.tuple #[.string (st b), .int .i64 y]) := by rw [h1, h2]
set_option maxRecDepth 8000 in
set_option maxHeartbeats 1000000 in
theorem put_c (v : Val) (u : Value) (w : World) (hv : Has w u v) : Calls Try.prog 14 #[u] w (PutEnds v w) := by
  have c1 : ∀ w', Below w.heap.size w w' → Calls Try.prog 15 #[u] w' fun e w'' => e = .returned (.int .i64 (CheckV v)) ∧ Below w'.heap.size w' w'' := fun w' h => Check_c v u w' (hv.keep h)
  have c2 : CheckV v = 0 → ∀ w', Below w.heap.size w w' → Calls Try.prog 42 #[u] w' fun e w'' => e = .returned (.string (st (putV v))) ∧ Below w'.heap.size w' w'' := fun h w' hb => by
    unfold CheckV at h
    by_cases h6 : 60000 < bsz v
    · rw [if_pos h6] at h; cases h
    · rw [if_neg h6] at h
      exact bytes_c v u w' 1 (hv.keep hb) h (by omega)
  have b1 : ∀ o, Below w.heap.size w (w.alloc o) := fun o => below_alloc w o
  obtain ⟨A, cap, rfl, _⟩ := hv.open
  have hP : ∀ e w', PutEnds v w e w' = (e = .returned (.tuple #[.string (st (if CheckV v = 0 then putV v else [])), .int .i64 (CheckV v)]) ∧ Below w.heap.size w w') := fun _ _ => rfl
  have hC : ∃ cv, cv = CheckV v := ⟨_, rfl⟩
  obtain ⟨cv, hcv⟩ := hC
  have hH := Lib.hid hcv
  rw [← hcv] at c1 c2
  clear hv hP hcv
  go_enter Try.func14, Try.ntmps14
  go_upto_region 1 with fail
  obtain ⟨w1, hw1⟩ : ∃ w1, w1 = w.alloc (.cells #[.int .i64 v.k, .bool v.b, .int .i64 v.n, .float .f64 v.f, .string (st v.s), .slice A v.l.length cap] 25) := ⟨_, rfl⟩
  have bk : Below w.heap.size w w1 := hw1 ▸ below_alloc w _
  obtain ⟨x6, x0, x1, x2, x3, x4, x5⟩ : Box w1 w.heap.size v.k v.b v.n v.f v.s A v.l.length cap := hw1 ▸ Box.new w v.k v.b v.n v.f v.s A v.l.length cap _
  rw [← hw1]
  clear hw1 b1
  cases hc : (cv != 0)
  · have h0 : cv = 0 := by simpa using hc
    have c2' := c2 h0
    have hK := Lib.hid h0
    clear h0 c2
    go_wp2_with (first | ((with_reducible refine (c1 _ bk).mono ?_); rintro e w2 ⟨rfl, hb2⟩; (first | ((with_reducible obtain ⟨p, hw''⟩ := In.of2 p hb2); subst hw'') | (obtain ⟨p, hw''⟩ := In.of hb2; subst hw''))) | ((with_reducible refine (c2' _ (p.back bk)).mono ?_); rintro e w3 ⟨rfl, hb3⟩; (first | ((with_reducible obtain ⟨p, hw''⟩ := In.of2 p hb3); subst hw'') | (obtain ⟨p, hw''⟩ := In.of hb3; subst hw''))))
    go_ret2
    exact ⟨ret_se (by rw [← hH.out, if_pos hK.out]) (by rw [← hH.out, hK.out]), p.back bk⟩
  · have h0 : cv ≠ 0 := by simpa using hc
    have hK := Lib.hid h0
    clear h0 c2
    go_wp2_with ((with_reducible refine (c1 _ bk).mono ?_); rintro e w2 ⟨rfl, hb2⟩; (first | ((with_reducible obtain ⟨p, hw''⟩ := In.of2 p hb2); subst hw'') | (obtain ⟨p, hw''⟩ := In.of hb2; subst hw'')))
    go_ret2
    exact ⟨ret_se (by rw [← hH.out, if_neg hK.out]) hH.out, p.back bk⟩
end Go.Proofs.Ytkbacjlnfmibaaa
