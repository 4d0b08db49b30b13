
/-
  ValMaps' walk: printed by mkvmaps.py.
-/
import Derived.Test.YtkbacjlnfmibaaaMpB
import Derived.Test.YtkbacjlnfmibaaaValS
set_option linter.unusedSimpArgs false
set_option linter.unusedVariables false
namespace Go.Proofs.Ytkbacjlnfmibaaa
open Go.RowKit Go.Deep

theorem weighM (v : Val) (m : Nat) (hm : m ≤ 10000) (M : Int) (hM : (m : Int) = M) : ∃ n : Nat, ∀ (u : Value) (w : World), Has w u v → Calls Try.prog 11 #[u, .int .i64 M] w fun e w' => e = .returned (.int .i64 n) ∧ Below w.heap.size w w' :=
  ⟨min (wsz v) (m + 1), fun u w h => hM ▸ weighN_c v u w m h hm⟩
theorem Has.openM {w : World} {u : Value} {l : List Val} (h : Has w u (.mk 6 false 0 0 [] l)) : ∃ A cap, u = .agg #[.int .i64 6, .bool false, .int .i64 0, .float .f64 0, .string (st []), .slice A l.length cap] := by
  obtain ⟨A, cap, e, _⟩ := h.open
  exact ⟨A, cap, e⟩
def MapF (ps : List (Val × Val)) : Fact := fun u w => Has w u (.mk 6 false 0 0 [] (flatP ps))
theorem MapF.steady (ps : List (Val × Val)) : Steady (MapF ps) := ⟨fun u w w' h hb => Has.keep h hb⟩
/-- the pairs from the r-th on, turned round -/
def turnR (f : Nat → Val × Val) (h r : Nat) : List (Val × Val) := (List.range (h - r)).map fun p => f (h - 1 - p)
theorem turnR_all (f : Nat → Val × Val) (h : Nat) : turnR f h h = [] := by simp [turnR]
theorem turnR_next (f : Nat → Val × Val) {h r : Nat} (hr : r < h) : turnR f h r = turnR f h (r + 1) ++ [f r] := by
  unfold turnR
  rw [show h - r = (h - (r + 1)) + 1 by omega, List.range_succ, List.map_append, List.map_singleton, show h - 1 - (h - (r + 1)) = r by omega]
theorem pairAt_flat {ps : List (Val × Val)} {p : Nat} {x : Val × Val} (h : ps[p]? = some x) : pairAt (flatP ps) p = x :=
  (pairAt_eq rfl (flatP_get h).1 (flatP_get h).2)
theorem turnR_map {f : Nat → Val × Val} {h : Nat} (hl : ∀ p, p < h → Lies (f p).1) (hne : ∀ p q, p < q → q < h → cmpV (f p).1 (f q).1 ≠ 0) : mapQ (pairAt (flatP (turnR f h 0))) ((flatP (turnR f h 0)).length / 2) = mapQ f h := by
  have e : (flatP (turnR f h 0)).length / 2 = h := by rw [flatP_len]; simp [turnR]
  rw [e, ← mapQ_turned hl hne]
  exact mapQ_eq fun p hp => pairAt_flat (by unfold turnR; rw [List.getElem?_map, List.getElem?_range (by omega)]; rfl)
set_option maxRecDepth 8000 in
set_option maxHeartbeats 8000000 in
theorem valMaps_walk (A : Option Addr) (cap : Nat) (l : List Val) (w : World) (hx : Parts w A l) (hl : l.length ≤ cap) (hcap : cap ≤ maxLen) :
    Calls Try.prog 10 #[.slice A l.length cap] w fun e w' => e = .returned (.bool true) ∧ Below w.heap.size w w' := by
  obtain ⟨i0, hi0, hz0, hz1, hz2⟩ := insVal_info
  have hm := Nat.le_trans hl hcap
  unfold maxLen at hm
  clear hl hcap
  obtain ⟨w3, hw3⟩ : ∃ w3, w3 = w.alloc (.cells #[] 25) := ⟨_, rfl⟩
  have own3 : w3.ownsRow w.heap.size 25 6 (.slice (some ⟨w.heap.size, 0, none⟩) 0 0) 0 [] := hw3 ▸ owns_empty6 w _ _ (Nat.le_refl _)
  have bel3 : Below w.heap.size w w3 := hw3 ▸ below_alloc w _
  have hwa : w.alloc (.cells #[] 25) = w3 := hw3.symm
  clear hw3
  go_enter Try.func10, Try.ntmps10
  go_upto_region 2 with fail
  clear hwa
  go_wp2_with fail
  go_loopw [3, 4] (fun a3 a4 wr => ∃ (i : Nat) (xs : List Value), a4 = .int .i64 i ∧ i ≤ l.length ∧ i ≤ 12 ∧ wr.ownsRow w.heap.size 25 6 a3 i xs ∧ VRow w (l.take i) xs ∧ Below w.heap.size w wr) (fun _ a _ => l.length - (intOf a).toNat)
  case atStart => exact ⟨0, [], rfl, Nat.zero_le _, Nat.zero_le _, own3, VRow.nil _, bel3⟩
  case round =>
    clear own3 bel3
    obtain ⟨i, xs, rfl, hi, hi12, hown, hrow, hbr⟩ := hrel
    by_cases hil : i < l.length
    · have hil' : (i : Int) < l.length := by omega
      by_cases h12 : i < 12
      · have h12' : (i : Int) < 12 := by omega
        obtain ⟨ad, k, b, n, f, s, B, len, c, rfl, hv, hat⟩ := hx i l[i] (by simp)
        obtain ⟨q6, q0, q1, q2, q3, q4, q5⟩ := hat.keep hbr
        have wi : IntKind.i64.wrap ((i : Int) + 1) = (i : Int) + 1 := by rw [wrap_i64]; omega
        obtain ⟨m, hm2⟩ := weighM l[i] 50 (by omega) 50 rfl
        have ch := hm2 _ wr (hv.keep hbr)
        have htake : l.take (i + 1) = l.take i ++ [l[i]] := by rw [List.take_succ_eq_append_getElem hil]
        generalize l[i] = x at *
        have hT := Lib.hid htake
        clear hm2 hx hat htake
        by_cases hle : m ≤ 50
        · have hle' : ¬ (50 : Int) < m := by omega
          have hQ : ∀ p : In wr, ValAt p.w (ad.add (i * 6)) k b n f s B len c := fun p => ValAt.keep ⟨q6, q0, q1, q2, q3, q4, q5⟩ p.h
          go_upto_region 7 with ((with_reducible refine ch.mono ?_); rintro e w4 ⟨rfl, hb4⟩; (first | ((with_reducible obtain ⟨p, hw''⟩ := In.of2 p hb4); subst hw'') | (obtain ⟨p, hw''⟩ := In.of hb4; subst hw'')))
          obtain ⟨s6, s0, s1, s2, s3, s4, s5⟩ := hQ p
          have hown2 := own_stays hown p.h
          have hb' := hbr.trans (p.h.mono hbr.size)
          clear q0 q1 q2 q3 q4 q5 q6 hQ ch hown
          generalize p.w = w5 at *
          clear p
          go_wp2_with (at_builtin; refine wpList_append_own _ rfl _ _ 23 rfl w.heap.size 25 i0 (.agg #[.int .i64 0, .bool false, .int .i64 0, .float .f64 0, .string ByteArray.empty, .slice none 0 0]) 6 72 Try.underlying23 hi0 hz0 hz1 hz2 rfl (by decide) _ _ _ rfl (hown2.alloc _) ⟨w5.heap.size, 0, none⟩ 1 1 (valC k b n f s B len c) rfl rfl ?d1 ?d2 ?d3 ?d4 ?d5 ?_)
          case d1 =>
            intro j u hj
            match j, hj with
            | 0, hj => simp at hj; subst hj; simp [Addr.add, go_sem]
            | 1, hj => simp at hj; subst hj; simp [Addr.add, go_sem]
            | 2, hj => simp at hj; subst hj; simp [Addr.add, go_sem]
            | 3, hj => simp at hj; subst hj; simp [Addr.add, go_sem]
            | 4, hj => simp at hj; subst hj; simp [Addr.add, go_sem]
            | 5, hj => simp at hj; subst hj; simp [Addr.add, go_sem]
          case d2 => exact valC_one _ _ _ _ _ _ _ _
          case d3 => unfold maxLen; omega
          case d4 => omega
          case d5 => have := hb'.size; simp; omega
          intro v' w6 hown6 hgrow _
          have bel6 : Below w.heap.size w w6 := (hb'.alloc hb'.size _).grown hgrow (by have := hb'.size; simp; omega) fun k hk => (hown2.lt k hk).1
          clear hgrow hown2
          go_wp2_with fail
          exact ⟨⟨i + 1, _, rfl, hil, by omega, hown6, hT.out ▸ hrow.snoc hv, bel6⟩, by simp [intOf]; omega⟩
        · have hle' : (50 : Int) < m := by omega
          have aw := fun w => awake_c w
          go_wp2_with (first | ((with_reducible refine ch.mono ?_); rintro e w4 ⟨rfl, hb4⟩) | ((with_reducible refine (aw _).mono ?_); rintro e w5 ⟨rfl, hb5⟩))
          go_ret
          exact ⟨rfl, (hbr.trans (hb4.mono hbr.size)).trans (hb5.mono (hbr.trans (hb4.mono hbr.size)).size)⟩
      · have h12' : ¬ (i : Int) < 12 := by omega
        have hlenT : (l.take i).length = i := by rw [List.length_take]; omega
        obtain ⟨A1, cap1, hA1, hPm0, hnc, hcm⟩ := Parts.ofRow (ys := l.take i) (by rw [hlenT]; exact hown) (hrow.keep hbr)
        subst hA1
        have hLies : ∀ (j : Nat) (x : Val), (l.take i)[j]? = some x → Lies x := fun j x hj => by
          obtain ⟨ad, k, b, n, f, s, B, len, c, h1, h2, h3⟩ := hPm0 j x hj
          exact ⟨_, _, h2⟩
        clear hown hrow hx
        generalize l.take i = L at *
        subst hlenT
        have hL12 : L.length ≤ 12 := by omega
        have hLh := Lib.hid hLies
        clear hLies hnc hcm
        have cm1 := map_c A1 cap1 L wr hPm0 (by omega)
        unfold MapEnds at cm1
        go_upto_region 9 with ((with_reducible refine cm1.mono ?_); rintro e w1 ⟨u, rfl, hu, hb1⟩; obtain ⟨MA, mc, rfl⟩ := hu.openM)
        obtain ⟨PS, hPS⟩ : ∃ PS, PS = mapQ (pairAt L) (L.length / 2) := ⟨_, rfl⟩
        rw [← hPS] at hu
        rw [← hPS]
        have hPSh := Lib.hid hPS
        clear hPS
        have hbw1 := hbr.trans (hb1.mono hbr.size)
        obtain ⟨w2, hw2⟩ : ∃ w2, w2 = w1.alloc (.cells #[.int .i64 6, .bool false, .int .i64 0, .float .f64 0, .string (st []), .slice MA (flatP PS).length mc] 25) := ⟨_, rfl⟩
        have hb12 : Below w1.heap.size w1 w2 := hw2 ▸ below_alloc w1 _
        have hbx : Box w2 w1.heap.size 6 false 0 0 [] MA (flatP PS).length mc := hw2 ▸ Box.new w1 6 false 0 0 [] MA (flatP PS).length mc _
        rw [← hw2]
        clear hw2 cm1
        have hbw2 := hbw1.trans (hb12.mono hbw1.size)
        have hu2 : Has w2 (valV 6 false 0 0 [] MA (flatP PS).length mc) (.mk 6 false 0 0 [] (flatP PS)) := Has.keep hu hb12
        have hPm2 := (hPm0.keep hb1).keep hb12
        have cr : ∀ p : In w2, Calls Try.prog 39 #[.slice A1 L.length cap1] p.w (MapEnds PS p.w) := fun p => hPSh.out ▸ rmap_c A1 cap1 L p.w (hPm2.keep p.h) (by omega)
        have cs : ∀ (p : In w2) (u : Value), MapF PS u p.w → Calls Try.prog 18 #[valV 6 false 0 0 [] MA (flatP PS).length mc, u] p.w fun e w' => e = .returned (.bool true) ∧ Below p.w.heap.size p.w w' := fun p u h => by
          have := rsame_c _ _ _ u p.w (hu2.keep p.h) h
          rwa [sameV_self] at this
        unfold MapEnds at cr
        clear hu hPm0 hb1 hb12 hbr hbw1
        obtain ⟨x6, x0, x1, x2, x3, x4, x5⟩ := hbx
        have hbx : Hid (Box w2 w1.heap.size 6 false 0 0 [] MA (flatP PS).length mc) := Lib.hid ⟨x6, x0, x1, x2, x3, x4, x5⟩
        (refine wp_region_rel_at (9) [42] [] (by kernel_rfl) (by kernel_rfl) (by kernel_rfl) ?_; (simp only [List.take_succ_cons, List.take_zero, List.drop_succ_cons, List.drop_zero]))
        ((with_reducible refine wpRel_none (by kernel_rfl) (by kernel_rfl) ?_); intro K hK; go_simp; first | (with_reducible refine hK _ ?_; clear hK K) | (apply Exists.intro; (with_reducible refine ⟨fun _ => ⟨?_, _, rfl⟩, hK _ ?_⟩); (· exact rfl); clear hK K) | (apply Exists.intro; (with_reducible refine ⟨fun _ => ?_, hK _ ?_⟩); (· (with_reducible ((refine (awake_c _).mono ?_); rintro e w5 ⟨rfl, hb⟩; exact ⟨rfl, hb⟩))); clear hK K))
        ((with_reducible refine wpRel_none (by kernel_rfl) (by kernel_rfl) ?_); intro K hK; go_simp; first | (with_reducible refine hK _ ?_; clear hK K) | (apply Exists.intro; (with_reducible refine ⟨fun _ => ⟨?_, _, rfl⟩, hK _ ?_⟩); (· exact rfl); clear hK K) | (apply Exists.intro; (with_reducible refine ⟨fun _ => ?_, hK _ ?_⟩); (· (with_reducible (fail))); clear hK K))
        ((with_reducible refine wpRel_none (by kernel_rfl) (by kernel_rfl) ?_); intro K hK; go_simp; first | (with_reducible refine hK _ ?_; clear hK K) | (apply Exists.intro; (with_reducible refine ⟨fun _ => ⟨?_, _, rfl⟩, hK _ ?_⟩); (· exact rfl); clear hK K) | (apply Exists.intro; (with_reducible refine ⟨fun _ => ?_, hK _ ?_⟩); (· (with_reducible (fail))); clear hK K))
        ((with_reducible refine wpRel_none (by kernel_rfl) (by kernel_rfl) ?_); intro K hK; go_simp; first | (with_reducible refine hK _ ?_; clear hK K) | (apply Exists.intro; (with_reducible refine ⟨fun _ => ⟨?_, _, rfl⟩, hK _ ?_⟩); (· exact rfl); clear hK K) | (apply Exists.intro; (with_reducible refine ⟨fun _ => ?_, hK _ ?_⟩); (· (with_reducible (fail))); clear hK K))
        ((with_reducible refine wpRel_none (by kernel_rfl) (by kernel_rfl) ?_); intro K hK; go_simp; first | (with_reducible refine hK _ ?_; clear hK K) | (apply Exists.intro; (with_reducible refine ⟨fun _ => ⟨?_, _, rfl⟩, hK _ ?_⟩); (· exact rfl); clear hK K) | (apply Exists.intro; (with_reducible refine ⟨fun _ => ?_, hK _ ?_⟩); (· (with_reducible (fail))); clear hK K))
        (with_reducible refine wpRel_fact [] (42) ((MapF PS)) (by kernel_rfl) rfl rfl ((MapF.steady _)) (by first | exact rfl | go_simp) (fun p => ?_) ?_)
        · (try simp only [pickR, pickR_nil, fillR, List.contains_cons, List.contains_nil, Nat.reduceBEq, Bool.or_false, Bool.or_true, Bool.true_or, Bool.false_or, if_true, if_false, Bool.false_eq_true])
          go_wp2_with ((with_reducible refine (cr p).mono ?_); rintro e w' ⟨u, rfl, hu, hb⟩)
          exact ⟨fun h => absurd h (by decide), rfl, rfl, hb, hu⟩
        ((with_reducible refine wpRel_val [42] (by kernel_rfl) (by kernel_rfl) ?_); intro K hK; (simp only [pickR, fillR, List.contains_cons, List.contains_nil, Nat.reduceBEq, Bool.or_false, Bool.or_true, Bool.true_or, Bool.false_or, if_true, if_false, Bool.false_eq_true]); go_simp; first | (with_reducible refine hK _ ?_; clear hK K) | (apply Exists.intro; (with_reducible refine ⟨?_, hK _ ?_⟩); (· ((rintro p u h1; go_simp; refine (cs p u h1).mono ?_; rintro e w5 ⟨rfl, hb⟩; exact ⟨rfl, hb⟩))); clear hK K))
        ((with_reducible refine wpRel_none (by kernel_rfl) (by kernel_rfl) ?_); intro K hK; go_simp; first | (with_reducible refine hK _ ?_; clear hK K) | (apply Exists.intro; (with_reducible refine ⟨fun _ => ⟨?_, _, rfl⟩, hK _ ?_⟩); (· exact rfl); clear hK K) | (apply Exists.intro; (with_reducible refine ⟨fun _ => ?_, hK _ ?_⟩); (· (with_reducible (fail))); clear hK K))
        ((with_reducible refine wpRel_none (by kernel_rfl) (by kernel_rfl) ?_); intro K hK; go_simp; first | (with_reducible refine hK _ ?_; clear hK K) | (apply Exists.intro; (with_reducible refine ⟨fun _ => ⟨?_, _, rfl⟩, hK _ ?_⟩); (· exact rfl); clear hK K) | (apply Exists.intro; (with_reducible refine ⟨fun _ => ?_, hK _ ?_⟩); (· (with_reducible (fail))); clear hK K))
        ((with_reducible refine wpRel_nil ?_); intro p; (simp only [fillR]))
        intro u42 _ _
        clear x6 x0 x1 x2 x3 x4 x5 cr cs
        have hPm3 := hPm2.keep p.h
        have hu3 := hu2.keep p.h
        have hbx3 := hbx.out.keep p.h
        have hbw3 := hbw2.trans (p.h.mono hbw2.size)
        clear hPm2 hu2 hbx hbw2
        generalize p.w = w4 at *
        clear p
        obtain ⟨h, hh⟩ : ∃ h, h = L.length / 2 := ⟨_, rfl⟩
        rw [← hh] at hPSh
        have e8 : (L.length : Int) / 2 * 2 - 2 = 2 * (h : Int) - 2 := by omega
        obtain ⟨w5, hw5⟩ : ∃ w5, w5 = w4.alloc (.cells #[] 25) := ⟨_, rfl⟩
        have own5 : w5.ownsRow w4.heap.size 25 6 (.slice (some ⟨w4.heap.size, 0, none⟩) 0 0) 0 [] := hw5 ▸ owns_empty6 w4 _ _ (Nat.le_refl _)
        have bel5 : Below w4.heap.size w4 w5 := hw5 ▸ below_alloc w4 _
        go_upto_region 13 with fail
        rw [← hw5]
        have hh2 : 2 * h ≤ L.length := by omega
        have hhh := Lib.hid hh
        clear hw5 e8 hh
        go_loopw [6, 7, 8] (fun a6 a7 a8 wq => ∃ (r : Nat) (j : Int) (un : Bool) (xs : List Value), a8 = .int .i64 j ∧ j = 2 * (r : Int) - 2 ∧ a7 = .bool un ∧ r ≤ h ∧ Hid (wq.ownsRow w4.heap.size 25 6 a6 (2 * (h - r)) xs) ∧ Hid (VRow w4 (flatP (turnR (pairAt L) h r)) xs) ∧ Hid (un = true → ∀ x y, r ≤ x → x < h → y < x → cmpV (pairAt L x).1 (pairAt L y).1 ≠ 0) ∧ Below w4.heap.size w4 wq) (fun _ _ a _ => (intOf a + 2).toNat)
        case atStart => exact ⟨h, _, true, [], rfl, by have := hhh.out; omega, rfl, Nat.le_refl _, Lib.hid (by rw [Nat.sub_self]; exact own5), Lib.hid (by rw [turnR_all]; exact VRow.nil _), Lib.hid (fun _ x y h1 h2 => by omega), bel5⟩
        case round =>
          clear own5 bel5
          obtain ⟨r, j, un, xs, rfl, hj, rfl, hr, hown, hvr, hun, hbq⟩ := hrel
          have hbwq := hbw3.trans (hbq.mono hbw3.size)
          by_cases hr0 : r = 0
          · have hj2 : j = -2 := by omega
            subst hj2 hr0
            clear hj hr
            have hbx4 := hbx3.keep hbq
            cases un with
            | false =>
              go_upto_region 20 with fail
              (refine wp_region_flow [] (by kernel_rfl) (by kernel_rfl) ?_; (repeat (((with_reducible refine wpFlow_steps ?_); intro K hK; go_simp; first | (with_reducible refine hK _ ?_; clear hK K) | (apply Exists.intro; (with_reducible refine ⟨fun _ => ⟨?_, _, rfl⟩, hK _ ?_⟩); (· exact rfl); clear hK K) | (apply Exists.intro; (with_reducible refine ⟨fun _ => ⟨_, rfl⟩, hK _ ?_⟩); clear hK K) | (apply Exists.intro; (with_reducible refine ⟨fun _ => ?_, hK _ ?_⟩); (· (with_reducible (fail))); clear hK K)))); (refine wpFlow_nil ?_; rintro w1 ⟨q0, hq0⟩; have hb := In.h q0; rw [← hq0] at hb; clear hq0 q0; (first | ((with_reducible obtain ⟨p, hw''⟩ := In.of2 p hb); subst hw'') | (obtain ⟨p, hw''⟩ := In.of hb; subst hw'')); go_simp; intros))
              have hbf := hbwq.trans (p.h.mono hbwq.size)
              go_wp2_with fail
              go_ret
              exact ⟨rfl, hbf⟩
            | true =>
              have hlenT : (flatP (turnR (pairAt L) h 0)).length = 2 * (h - 0) := by rw [flatP_len]; simp [turnR]
              obtain ⟨A6, cap6, hA6, hP6, hn6, hc6⟩ := Parts.ofRow (ys := flatP (turnR (pairAt L) h 0)) (by rw [hlenT]; exact hown.out) (hvr.out.keep hbq)
              subst hA6
              have hLi : ∀ x, x < h → Lies (pairAt L x).1 := fun x hx => by
                refine hLh.out (2 * x) _ ?_
                unfold pairAt
                rw [List.getD_eq_getElem?_getD, List.getElem?_eq_getElem (by omega)]
                rfl
              have hTM := turnR_map (f := pairAt L) (h := h) hLi fun x y hxy hy => by
                rw [cmpV_anti]
                have := hun.out rfl y x (Nat.zero_le _) hy hxy
                omega
              have hu4 := hu3.keep hbq
              have cm : ∀ p : In wr, Calls Try.prog 38 #[.slice A6 (flatP (turnR (pairAt L) h 0)).length cap6] p.w (MapEnds PS p.w) := fun p => by
                have := map_c A6 cap6 _ p.w (hP6.keep p.h) (by rw [hlenT]; omega)
                rw [hTM, ← hPSh.out] at this
                exact this
              have cs : ∀ (p : In wr) (u : Value), MapF PS u p.w → Calls Try.prog 18 #[u, valV 6 false 0 0 [] MA (flatP PS).length mc] p.w fun e w' => e = .returned (.bool true) ∧ Below p.w.heap.size p.w w' := fun p u h => by
                have := rsame_c _ _ u _ p.w h (hu4.keep p.h)
                rwa [sameV_self] at this
              unfold MapEnds at cm
              obtain ⟨x6, x0, x1, x2, x3, x4, x5⟩ := hbx4
              clear hTM hP6 hown hvr hlenT
              go_upto_region 20 with fail
              (refine wp_region_rel_at (9) [90] [] (by kernel_rfl) (by kernel_rfl) (by kernel_rfl) ?_; (simp only [List.take_succ_cons, List.take_zero, List.drop_succ_cons, List.drop_zero]))
              iterate 4 (((with_reducible refine wpRel_none (by kernel_rfl) (by kernel_rfl) ?_); intro K hK; go_simp; first | (with_reducible refine hK _ ?_; clear hK K) | (apply Exists.intro; (with_reducible refine ⟨fun _ => ⟨?_, _, rfl⟩, hK _ ?_⟩); (· exact rfl); clear hK K) | (apply Exists.intro; (with_reducible refine ⟨fun _ => ?_, hK _ ?_⟩); (· (with_reducible (fail))); clear hK K)))
              (with_reducible refine wpRel_fact [] (90) ((MapF PS)) (by kernel_rfl) rfl rfl ((MapF.steady _)) (by first | exact rfl | go_simp) (fun p => ?_) ?_)
              · (try simp only [pickR, pickR_nil, fillR, List.contains_cons, List.contains_nil, Nat.reduceBEq, Bool.or_false, Bool.or_true, Bool.true_or, Bool.false_or, if_true, if_false, Bool.false_eq_true])
                go_wp2_with ((with_reducible refine (cm p).mono ?_); rintro e w' ⟨u, rfl, hu, hb⟩)
                exact ⟨fun h => absurd h (by decide), rfl, rfl, hb, hu⟩
              ((with_reducible refine wpRel_none (by kernel_rfl) (by kernel_rfl) ?_); intro K hK; go_simp; first | (with_reducible refine hK _ ?_; clear hK K) | (apply Exists.intro; (with_reducible refine ⟨fun _ => ⟨?_, _, rfl⟩, hK _ ?_⟩); (· exact rfl); clear hK K) | (apply Exists.intro; (with_reducible refine ⟨fun _ => ?_, hK _ ?_⟩); (· (with_reducible (fail))); clear hK K))
              ((with_reducible refine wpRel_val [90] (by kernel_rfl) (by kernel_rfl) ?_); intro K hK; (simp only [pickR, fillR, List.contains_cons, List.contains_nil, Nat.reduceBEq, Bool.or_false, Bool.or_true, Bool.true_or, Bool.false_or, if_true, if_false, Bool.false_eq_true]); go_simp; first | (with_reducible refine hK _ ?_; clear hK K) | (apply Exists.intro; (with_reducible refine ⟨?_, hK _ ?_⟩); (· ((rintro p u h1; go_simp; refine (cs p u h1).mono ?_; rintro e w5 ⟨rfl, hb⟩; exact ⟨rfl, hb⟩))); clear hK K))
              iterate 2 (((with_reducible refine wpRel_none (by kernel_rfl) (by kernel_rfl) ?_); intro K hK; go_simp; first | (with_reducible refine hK _ ?_; clear hK K) | (apply Exists.intro; (with_reducible refine ⟨fun _ => ⟨?_, _, rfl⟩, hK _ ?_⟩); (· exact rfl); clear hK K) | (apply Exists.intro; (with_reducible refine ⟨fun _ => ?_, hK _ ?_⟩); (· (with_reducible (fail))); clear hK K)))
              ((with_reducible refine wpRel_nil ?_); intro p; (simp only [fillR]))
              go_simp
              intro u90 _ _
              have hbf := hbwq.trans (p.h.mono hbwq.size)
              go_wp2_with fail
              go_ret
              exact ⟨rfl, hbf⟩
          · obtain ⟨r, rfl⟩ : ∃ r', r = r' + 1 := ⟨r - 1, by omega⟩
            obtain ⟨q, hq⟩ : ∃ q : Nat, q = 2 * r := ⟨_, rfl⟩
            have hjq : j = q := by omega
            subst hjq
            have hqL : q + 1 < L.length := by omega
            have hqLi : (q : Int) + 1 < L.length := by omega
            have hqL0 : q < L.length := by omega
            have hqL0i : (q : Int) < L.length := by omega
            have hq1 : (0 : Int) ≤ (q : Int) + 1 := by omega
            have wq1 : IntKind.i64.wrap ((q : Int) + 1) = (q : Int) + 1 := by rw [wrap_i64]; omega
            have wq2 : IntKind.i64.wrap ((q : Int) - 2) = (q : Int) - 2 := by rw [wrap_i64]; omega
            have hik : L[q]? = some L[q] := by simp
            have hiv : L[q + 1]? = some L[q + 1] := by simp
            have hpa := pairAt_eq hq hik hiv
            obtain ⟨ad, kk, kb, kn, kf, ks, kB, klen, kc, hA, hkx, hkat⟩ := hPm3 q _ hik
            subst hA
            obtain ⟨ad', vk, vb, vn, vf, vs, vB, vlen, vc, had, hvx, hvat⟩ := hPm3 (q + 1) _ hiv
            cases had
            generalize L[q] = key at *
            generalize L[q + 1] = val at *
            have hqh := Lib.hid hq
            have hpah := Lib.hid hpa
            obtain ⟨y6, y0, y1, y2, y3, y4, y5⟩ := hkat.keep hbq
            obtain ⟨z6, z0, z1, z2, z3, z4, z5⟩ := hvat.keep hbq
            clear hq hpa hj hr0 hik hiv hkat hvat
            have hqs := hbq.size
            go_upto_region 15 with fail
            (refine wp_region_rel_at (11) [66] [] (by kernel_rfl) (by kernel_rfl) (by kernel_rfl) ?_; (simp only [List.take_succ_cons, List.take_zero, List.drop_succ_cons, List.drop_zero]))
            iterate 10 (((with_reducible refine wpRel_none (by kernel_rfl) (by kernel_rfl) ?_); intro K hK; go_simp; first | (with_reducible refine hK _ ?_; clear hK K) | (apply Exists.intro; (with_reducible refine ⟨fun _ => ⟨?_, _, rfl⟩, hK _ ?_⟩); (· exact rfl); clear hK K) | (apply Exists.intro; (with_reducible refine ⟨fun _ => ?_, hK _ ?_⟩); (· (with_reducible (fail))); clear hK K)))
            ((with_reducible refine wpRel_fact [] (66) (RowAt (wr.heap.size) (#[.int .i64 kk, .bool kb, .int .i64 kn, .float .f64 kf, .string (st ks), .slice kB klen kc, .int .i64 vk, .bool vb, .int .i64 vn, .float .f64 vf, .string (st vs), .slice vB vlen vc]) (25) (2)) (by kernel_rfl) rfl rfl (RowAt.steady _ _ _ _) (by first | exact rfl | go_simp) ?_ ?_); (· intro p; rw [pickR_nil]; (simp only [fillR]); go_wp2_with fail; exact row_post p.h.size rfl rfl))
            ((with_reducible refine wpRel_nil ?_); intro p; (simp only [fillR]))
            rintro u66 ⟨b66, h66, rfl, z66⟩ -
            have hownP := Lib.hid (own_stays hown.out p.h)
            have hbS : w4.heap.size ≤ p.w.heap.size := Nat.le_trans hqs p.h.size
            have hbP : Below w4.heap.size w4 p.w := hbq.trans (p.h.mono hqs)
            clear y6 y0 y1 y2 y3 y4 y5 z6 z0 z1 z2 z3 z4 z5 hown
            generalize p.w = wp at *
            clear p
            have z66 := Lib.hid z66
            have d1 : ∀ (j : Nat) (u : Value), (valC kk kb kn kf ks kB klen kc ++ valC vk vb vn vf vs vB vlen vc)[j]? = some u → wp.cell? ((⟨b66, 0, none⟩ : Addr).add j) = some u := fun j u hu => by
              rw [insAdd, Nat.zero_add, cell_of z66.out j]
              simpa using hu
            have d2 : ∀ u ∈ valC kk kb kn kf ks kB klen kc ++ valC vk vb vn vf vs vB vlen vc, u.oneCell' = true := fun u hu => by rcases List.mem_append.1 hu with h | h <;> exact valC_one _ _ _ _ _ _ _ _ u h
            have d3 : 2 * (h - (r + 1)) + 2 ≤ maxLen := by unfold maxLen; omega
            have d4 : (2 * (h - (r + 1)) + 2) * 72 ≤ 140737488355328 := by omega
            have d1 := Lib.hid d1
            have d2 := Lib.hid d2
            have d3 := Lib.hid d3
            have d4 := Lib.hid d4
            go_wp2_with (at_builtin; refine wpList_append_own _ rfl _ _ 23 rfl w4.heap.size 25 i0 (.agg #[.int .i64 0, .bool false, .int .i64 0, .float .f64 0, .string ByteArray.empty, .slice none 0 0]) 6 72 Try.underlying23 hi0 hz0 hz1 hz2 rfl (by decide) _ _ _ rfl hownP.out ⟨b66, 0, none⟩ 2 2 (valC kk kb kn kf ks kB klen kc ++ valC vk vb vn vf vs vB vlen vc) rfl rfl d1.out d2.out d3.out d4.out hbS ?_)
            have hownq := hownP.out
            clear hownP d1 d2 d3 d4 z66
            intro v7 w7 hown7 hgrow7 _
            have hb7 : Below w4.heap.size w4 w7 := hbP.grown hgrow7 hbS fun k hk => (hownq.lt k hk).1
            have hown7 : Hid (w7.ownsRow w4.heap.size 25 6 v7 (2 * (h - r)) (xs ++ (valC kk kb kn kf ks kB klen kc ++ valC vk vb vn vf vs vB vlen vc))) := Lib.hid (by
              rw [show 2 * (h - r) = 2 * (h - (r + 1)) + 2 by omega]
              simpa using hown7)
            have hvr7 : Hid (VRow w4 (flatP (turnR (pairAt L) h r)) (xs ++ (valC kk kb kn kf ks kB klen kc ++ valC vk vb vn vf vs vB vlen vc))) := Lib.hid (by
              rw [turnR_next _ (by omega), flatP_append, hpah.out]
              exact hvr.out.append ((VRow.single hkx).snoc hvx))
            clear hownq hgrow7 hbP hvr hbwq hbS hqs hvx hbq
            go_wp2_with fail
            go_loopw [7, 9] (fun a7 a9 wz => ∃ (t s : Nat) (u2 : Bool), a7 = .bool u2 ∧ a9 = .int .i64 s ∧ Hid (s = 2 * t) ∧ t ≤ r ∧ s ≤ q ∧ Hid (u2 = true → un = true ∧ ∀ y, y < t → cmpV (pairAt L r).1 (pairAt L y).1 ≠ 0) ∧ Below w7.heap.size w7 wz) (fun _ a _ => q - (intOf a).toNat)
            case atStart => exact ⟨0, 0, un, rfl, rfl, Lib.hid rfl, Nat.zero_le _, Nat.zero_le _, Lib.hid fun h => ⟨h, fun y hy => absurd hy (Nat.not_lt_zero _)⟩, Below.refl _ _⟩
            case round =>
              obtain ⟨t, s, u2, rfl, rfl, hs, ht, hsq, hu2, hbz⟩ := hrel
              have hbz4 := hb7.trans (hbz.mono hb7.size)
              by_cases hst : s < q
              · have hst' : (s : Int) < q := by omega
                have htr : t < r := by have h1 := hs.out; have h2 := hqh.out; omega
                have hsL : s < L.length := by omega
                have hsLi : (s : Int) < L.length := by omega
                have ws : IntKind.i64.wrap ((s : Int) + 2) = (s : Int) + 2 := by rw [wrap_i64]; omega
                have hs2 : s + 2 ≤ q := by have h1 := hs.out; have h2 := hqh.out; omega
                have hs3 : Hid (s + 2 = 2 * (t + 1)) := Lib.hid (by have h1 := hs.out; omega)
                cases u2 with
                | false =>
                  go_upto_region 19 with fail
                  (refine wp_region_flow [] (by kernel_rfl) (by kernel_rfl) ?_; (repeat (((with_reducible refine wpFlow_steps ?_); intro K hK; go_simp; first | (with_reducible refine hK _ ?_; clear hK K) | (apply Exists.intro; (with_reducible refine ⟨fun _ => ⟨?_, _, rfl⟩, hK _ ?_⟩); (· exact rfl); clear hK K) | (apply Exists.intro; (with_reducible refine ⟨fun _ => ⟨_, rfl⟩, hK _ ?_⟩); clear hK K) | (apply Exists.intro; (with_reducible refine ⟨fun _ => ?_, hK _ ?_⟩); (· (with_reducible (fail))); clear hK K)))); (refine wpFlow_nil ?_; rintro w1 ⟨q0, hq0⟩; have hb := In.h q0; rw [← hq0] at hb; clear hq0 q0; (first | ((with_reducible obtain ⟨p, hw''⟩ := In.of2 p hb); subst hw'') | (obtain ⟨p, hw''⟩ := In.of hb; subst hw'')); go_simp; intros))
                  have hbz2 := hbz.trans (p.h.mono hbz.size)
                  go_wp2_with fail
                  exact ⟨⟨t + 1, s + 2, false, rfl, by simp, hs3, htr, hs2, Lib.hid (fun h => by cases h), hbz2⟩, by simp [intOf]; omega⟩
                | true =>
                  have hsk : L[s]? = some L[s] := by simp
                  have hsv : L[s + 1]? = some (L[s + 1]'(by omega)) := by simp
                  have hpb := pairAt_eq hs.out hsk hsv
                  obtain ⟨adS, ak, ab, an, aF, aS, aB, alen, ac, hadS, hax, haat⟩ := hPm3 s _ hsk
                  cases hadS
                  obtain ⟨ad2, bk, bb, bn, bF, bS, bB, blen, bc, hadB, hbxx, hbat⟩ := hPm3 q _ (by rw [List.getElem?_eq_getElem hqL0])
                  cases hadB
                  obtain ⟨y6, y0, y1, y2, y3, y4, y5⟩ := hbat.keep hbz4
                  obtain ⟨z6, z0, z1, z2, z3, z4, z5⟩ := haat.keep hbz4
                  have hkey : (pairAt L r).1 = L[q] := by
                    unfold pairAt
                    rw [List.getD_eq_getElem?_getD, ← hqh.out, List.getElem?_eq_getElem hqL0]
                    rfl
                  obtain ⟨C, hC⟩ : ∃ C, C = cmpV (pairAt L r).1 (pairAt L t).1 := ⟨_, rfl⟩
                  have cc : ∀ p : In wr, Calls Try.prog 26 #[valV bk bb bn bF bS bB blen bc, valV ak ab an aF aS aB alen ac] p.w fun e w' => e = .returned (.int .i64 C) ∧ Below p.w.heap.size p.w w' := fun p => by
                    have := rcmpv_c _ _ _ _ p.w ((hbxx.keep hbz4).keep p.h) ((hax.keep hbz4).keep p.h)
                    rw [hC, hkey, hpb]
                    exact this
                  have hu3 : Hid (decide (¬ C = 0) = true → un = true ∧ ∀ y, y < t + 1 → cmpV (pairAt L r).1 (pairAt L y).1 ≠ 0) := Lib.hid fun hC0 => by
                    refine ⟨(hu2.out rfl).1, fun y hy => ?_⟩
                    by_cases e : y = t
                    · rw [e, ← hC]
                      exact of_decide_eq_true hC0
                    · exact (hu2.out rfl).2 y (by omega)
                  clear hC hsk hsv hpb hax haat hbxx hbat hkey
                  go_upto_region 19 with fail
                  (refine wp_region_flow [] (by kernel_rfl) (by kernel_rfl) ?_; (repeat (((with_reducible refine wpFlow_steps ?_); intro K hK; go_simp; first | (with_reducible refine hK _ ?_; clear hK K) | (apply Exists.intro; (with_reducible refine ⟨fun _ => ⟨?_, _, rfl⟩, hK _ ?_⟩); (· exact rfl); clear hK K) | (apply Exists.intro; (with_reducible refine ⟨fun _ => ⟨_, rfl⟩, hK _ ?_⟩); clear hK K) | (apply Exists.intro; (with_reducible refine ⟨fun _ => ?_, hK _ ?_⟩); (· (with_reducible (first | exact cc _))); clear hK K)))); (refine wpFlow_nil ?_; rintro w1 ⟨q0, hq0⟩; have hb := In.h q0; rw [← hq0] at hb; clear hq0 q0; (first | ((with_reducible obtain ⟨p, hw''⟩ := In.of2 p hb); subst hw'') | (obtain ⟨p, hw''⟩ := In.of hb; subst hw'')); go_simp; intros))
                  have hbz2 := hbz.trans (p.h.mono hbz.size)
                  clear y6 y0 y1 y2 y3 y4 y5 z6 z0 z1 z2 z3 z4 z5 cc
                  go_wp2_with fail
                  exact ⟨⟨t + 1, s + 2, _, rfl, by simp, hs3, htr, hs2, by simpa using hu3, hbz2⟩, by simp [intOf]; omega⟩
              · have hst' : ¬ (s : Int) < q := by omega
                have hun2 : Hid (u2 = true → ∀ x y, r ≤ x → x < h → y < x → cmpV (pairAt L x).1 (pairAt L y).1 ≠ 0) := Lib.hid fun h2 x y hx hxh hyx => by
                  obtain ⟨h3, h4⟩ := hu2.out h2
                  by_cases e : x = r
                  · subst e
                    exact h4 y (by have h1 := hs.out; have h2 := hqh.out; omega)
                  · exact hun.out h3 x y (by omega) hxh hyx
                have hown8 : Hid (wr.ownsRow w4.heap.size 25 6 v7 (2 * (h - r)) (xs ++ (valC kk kb kn kf ks kB klen kc ++ valC vk vb vn vf vs vB vlen vc))) := Lib.hid (own_stays hown7.out hbz)
                have hjf : (q : Int) - 2 = 2 * (r : Int) - 2 := by have := hqh.out; omega
                have hjh := Lib.hid hjf
                clear hjf
                go_wp2_with fail
                exact ⟨⟨r, (q : Int) - 2, u2, _, by simp, hjh.out, rfl, by omega, hown8, hvr7, hun2, hbz4⟩, by simp [intOf]; omega⟩
    · have hil' : ¬ (i : Int) < l.length := by omega
      have hlenT : (l.take i).length = i := by rw [List.length_take]; omega
      obtain ⟨A1, cap1, hA1, hPm0, hnc, hcm⟩ := Parts.ofRow (ys := l.take i) (by rw [hlenT]; exact hown) (hrow.keep hbr)
      subst hA1
      have hLies : ∀ (j : Nat) (x : Val), (l.take i)[j]? = some x → Lies x := fun j x hj => by
        obtain ⟨ad, k, b, n, f, s, B, len, c, h1, h2, h3⟩ := hPm0 j x hj
        exact ⟨_, _, h2⟩
      clear hown hrow hx
      generalize l.take i = L at *
      subst hlenT
      have hL12 : L.length ≤ 12 := by omega
      have hLh := Lib.hid hLies
      clear hLies hnc hcm
      have cm1 := map_c A1 cap1 L wr hPm0 (by omega)
      unfold MapEnds at cm1
      go_upto_region 9 with ((with_reducible refine cm1.mono ?_); rintro e w1 ⟨u, rfl, hu, hb1⟩; obtain ⟨MA, mc, rfl⟩ := hu.openM)
      obtain ⟨PS, hPS⟩ : ∃ PS, PS = mapQ (pairAt L) (L.length / 2) := ⟨_, rfl⟩
      rw [← hPS] at hu
      rw [← hPS]
      have hPSh := Lib.hid hPS
      clear hPS
      have hbw1 := hbr.trans (hb1.mono hbr.size)
      obtain ⟨w2, hw2⟩ : ∃ w2, w2 = w1.alloc (.cells #[.int .i64 6, .bool false, .int .i64 0, .float .f64 0, .string (st []), .slice MA (flatP PS).length mc] 25) := ⟨_, rfl⟩
      have hb12 : Below w1.heap.size w1 w2 := hw2 ▸ below_alloc w1 _
      have hbx : Box w2 w1.heap.size 6 false 0 0 [] MA (flatP PS).length mc := hw2 ▸ Box.new w1 6 false 0 0 [] MA (flatP PS).length mc _
      rw [← hw2]
      clear hw2 cm1
      have hbw2 := hbw1.trans (hb12.mono hbw1.size)
      have hu2 : Has w2 (valV 6 false 0 0 [] MA (flatP PS).length mc) (.mk 6 false 0 0 [] (flatP PS)) := Has.keep hu hb12
      have hPm2 := (hPm0.keep hb1).keep hb12
      have cr : ∀ p : In w2, Calls Try.prog 39 #[.slice A1 L.length cap1] p.w (MapEnds PS p.w) := fun p => hPSh.out ▸ rmap_c A1 cap1 L p.w (hPm2.keep p.h) (by omega)
      have cs : ∀ (p : In w2) (u : Value), MapF PS u p.w → Calls Try.prog 18 #[valV 6 false 0 0 [] MA (flatP PS).length mc, u] p.w fun e w' => e = .returned (.bool true) ∧ Below p.w.heap.size p.w w' := fun p u h => by
        have := rsame_c _ _ _ u p.w (hu2.keep p.h) h
        rwa [sameV_self] at this
      unfold MapEnds at cr
      clear hu hPm0 hb1 hb12 hbr hbw1
      obtain ⟨x6, x0, x1, x2, x3, x4, x5⟩ := hbx
      have hbx : Hid (Box w2 w1.heap.size 6 false 0 0 [] MA (flatP PS).length mc) := Lib.hid ⟨x6, x0, x1, x2, x3, x4, x5⟩
      (refine wp_region_rel_at (9) [42] [] (by kernel_rfl) (by kernel_rfl) (by kernel_rfl) ?_; (simp only [List.take_succ_cons, List.take_zero, List.drop_succ_cons, List.drop_zero]))
      ((with_reducible refine wpRel_none (by kernel_rfl) (by kernel_rfl) ?_); intro K hK; go_simp; first | (with_reducible refine hK _ ?_; clear hK K) | (apply Exists.intro; (with_reducible refine ⟨fun _ => ⟨?_, _, rfl⟩, hK _ ?_⟩); (· exact rfl); clear hK K) | (apply Exists.intro; (with_reducible refine ⟨fun _ => ?_, hK _ ?_⟩); (· (with_reducible ((refine (awake_c _).mono ?_); rintro e w5 ⟨rfl, hb⟩; exact ⟨rfl, hb⟩))); clear hK K))
      ((with_reducible refine wpRel_none (by kernel_rfl) (by kernel_rfl) ?_); intro K hK; go_simp; first | (with_reducible refine hK _ ?_; clear hK K) | (apply Exists.intro; (with_reducible refine ⟨fun _ => ⟨?_, _, rfl⟩, hK _ ?_⟩); (· exact rfl); clear hK K) | (apply Exists.intro; (with_reducible refine ⟨fun _ => ?_, hK _ ?_⟩); (· (with_reducible (fail))); clear hK K))
      ((with_reducible refine wpRel_none (by kernel_rfl) (by kernel_rfl) ?_); intro K hK; go_simp; first | (with_reducible refine hK _ ?_; clear hK K) | (apply Exists.intro; (with_reducible refine ⟨fun _ => ⟨?_, _, rfl⟩, hK _ ?_⟩); (· exact rfl); clear hK K) | (apply Exists.intro; (with_reducible refine ⟨fun _ => ?_, hK _ ?_⟩); (· (with_reducible (fail))); clear hK K))
      ((with_reducible refine wpRel_none (by kernel_rfl) (by kernel_rfl) ?_); intro K hK; go_simp; first | (with_reducible refine hK _ ?_; clear hK K) | (apply Exists.intro; (with_reducible refine ⟨fun _ => ⟨?_, _, rfl⟩, hK _ ?_⟩); (· exact rfl); clear hK K) | (apply Exists.intro; (with_reducible refine ⟨fun _ => ?_, hK _ ?_⟩); (· (with_reducible (fail))); clear hK K))
      ((with_reducible refine wpRel_none (by kernel_rfl) (by kernel_rfl) ?_); intro K hK; go_simp; first | (with_reducible refine hK _ ?_; clear hK K) | (apply Exists.intro; (with_reducible refine ⟨fun _ => ⟨?_, _, rfl⟩, hK _ ?_⟩); (· exact rfl); clear hK K) | (apply Exists.intro; (with_reducible refine ⟨fun _ => ?_, hK _ ?_⟩); (· (with_reducible (fail))); clear hK K))
      (with_reducible refine wpRel_fact [] (42) ((MapF PS)) (by kernel_rfl) rfl rfl ((MapF.steady _)) (by first | exact rfl | go_simp) (fun p => ?_) ?_)
      · (try simp only [pickR, pickR_nil, fillR, List.contains_cons, List.contains_nil, Nat.reduceBEq, Bool.or_false, Bool.or_true, Bool.true_or, Bool.false_or, if_true, if_false, Bool.false_eq_true])
        go_wp2_with ((with_reducible refine (cr p).mono ?_); rintro e w' ⟨u, rfl, hu, hb⟩)
        exact ⟨fun h => absurd h (by decide), rfl, rfl, hb, hu⟩
      ((with_reducible refine wpRel_val [42] (by kernel_rfl) (by kernel_rfl) ?_); intro K hK; (simp only [pickR, fillR, List.contains_cons, List.contains_nil, Nat.reduceBEq, Bool.or_false, Bool.or_true, Bool.true_or, Bool.false_or, if_true, if_false, Bool.false_eq_true]); go_simp; first | (with_reducible refine hK _ ?_; clear hK K) | (apply Exists.intro; (with_reducible refine ⟨?_, hK _ ?_⟩); (· ((rintro p u h1; go_simp; refine (cs p u h1).mono ?_; rintro e w5 ⟨rfl, hb⟩; exact ⟨rfl, hb⟩))); clear hK K))
      ((with_reducible refine wpRel_none (by kernel_rfl) (by kernel_rfl) ?_); intro K hK; go_simp; first | (with_reducible refine hK _ ?_; clear hK K) | (apply Exists.intro; (with_reducible refine ⟨fun _ => ⟨?_, _, rfl⟩, hK _ ?_⟩); (· exact rfl); clear hK K) | (apply Exists.intro; (with_reducible refine ⟨fun _ => ?_, hK _ ?_⟩); (· (with_reducible (fail))); clear hK K))
      ((with_reducible refine wpRel_none (by kernel_rfl) (by kernel_rfl) ?_); intro K hK; go_simp; first | (with_reducible refine hK _ ?_; clear hK K) | (apply Exists.intro; (with_reducible refine ⟨fun _ => ⟨?_, _, rfl⟩, hK _ ?_⟩); (· exact rfl); clear hK K) | (apply Exists.intro; (with_reducible refine ⟨fun _ => ?_, hK _ ?_⟩); (· (with_reducible (fail))); clear hK K))
      ((with_reducible refine wpRel_nil ?_); intro p; (simp only [fillR]))
      intro u42 _ _
      clear x6 x0 x1 x2 x3 x4 x5 cr cs
      have hPm3 := hPm2.keep p.h
      have hu3 := hu2.keep p.h
      have hbx3 := hbx.out.keep p.h
      have hbw3 := hbw2.trans (p.h.mono hbw2.size)
      clear hPm2 hu2 hbx hbw2
      generalize p.w = w4 at *
      clear p
      obtain ⟨h, hh⟩ : ∃ h, h = L.length / 2 := ⟨_, rfl⟩
      rw [← hh] at hPSh
      have e8 : (L.length : Int) / 2 * 2 - 2 = 2 * (h : Int) - 2 := by omega
      obtain ⟨w5, hw5⟩ : ∃ w5, w5 = w4.alloc (.cells #[] 25) := ⟨_, rfl⟩
      have own5 : w5.ownsRow w4.heap.size 25 6 (.slice (some ⟨w4.heap.size, 0, none⟩) 0 0) 0 [] := hw5 ▸ owns_empty6 w4 _ _ (Nat.le_refl _)
      have bel5 : Below w4.heap.size w4 w5 := hw5 ▸ below_alloc w4 _
      go_upto_region 13 with fail
      rw [← hw5]
      have hh2 : 2 * h ≤ L.length := by omega
      have hhh := Lib.hid hh
      clear hw5 e8 hh
      go_loopw [6, 7, 8] (fun a6 a7 a8 wq => ∃ (r : Nat) (j : Int) (un : Bool) (xs : List Value), a8 = .int .i64 j ∧ j = 2 * (r : Int) - 2 ∧ a7 = .bool un ∧ r ≤ h ∧ Hid (wq.ownsRow w4.heap.size 25 6 a6 (2 * (h - r)) xs) ∧ Hid (VRow w4 (flatP (turnR (pairAt L) h r)) xs) ∧ Hid (un = true → ∀ x y, r ≤ x → x < h → y < x → cmpV (pairAt L x).1 (pairAt L y).1 ≠ 0) ∧ Below w4.heap.size w4 wq) (fun _ _ a _ => (intOf a + 2).toNat)
      case atStart => exact ⟨h, _, true, [], rfl, by have := hhh.out; omega, rfl, Nat.le_refl _, Lib.hid (by rw [Nat.sub_self]; exact own5), Lib.hid (by rw [turnR_all]; exact VRow.nil _), Lib.hid (fun _ x y h1 h2 => by omega), bel5⟩
      case round =>
        clear own5 bel5
        obtain ⟨r, j, un, xs, rfl, hj, rfl, hr, hown, hvr, hun, hbq⟩ := hrel
        have hbwq := hbw3.trans (hbq.mono hbw3.size)
        by_cases hr0 : r = 0
        · have hj2 : j = -2 := by omega
          subst hj2 hr0
          clear hj hr
          have hbx4 := hbx3.keep hbq
          cases un with
          | false =>
            go_upto_region 20 with fail
            (refine wp_region_flow [] (by kernel_rfl) (by kernel_rfl) ?_; (repeat (((with_reducible refine wpFlow_steps ?_); intro K hK; go_simp; first | (with_reducible refine hK _ ?_; clear hK K) | (apply Exists.intro; (with_reducible refine ⟨fun _ => ⟨?_, _, rfl⟩, hK _ ?_⟩); (· exact rfl); clear hK K) | (apply Exists.intro; (with_reducible refine ⟨fun _ => ⟨_, rfl⟩, hK _ ?_⟩); clear hK K) | (apply Exists.intro; (with_reducible refine ⟨fun _ => ?_, hK _ ?_⟩); (· (with_reducible (fail))); clear hK K)))); (refine wpFlow_nil ?_; rintro w1 ⟨q0, hq0⟩; have hb := In.h q0; rw [← hq0] at hb; clear hq0 q0; (first | ((with_reducible obtain ⟨p, hw''⟩ := In.of2 p hb); subst hw'') | (obtain ⟨p, hw''⟩ := In.of hb; subst hw'')); go_simp; intros))
            have hbf := hbwq.trans (p.h.mono hbwq.size)
            go_wp2_with fail
            go_ret
            exact ⟨rfl, hbf⟩
          | true =>
            have hlenT : (flatP (turnR (pairAt L) h 0)).length = 2 * (h - 0) := by rw [flatP_len]; simp [turnR]
            obtain ⟨A6, cap6, hA6, hP6, hn6, hc6⟩ := Parts.ofRow (ys := flatP (turnR (pairAt L) h 0)) (by rw [hlenT]; exact hown.out) (hvr.out.keep hbq)
            subst hA6
            have hLi : ∀ x, x < h → Lies (pairAt L x).1 := fun x hx => by
              refine hLh.out (2 * x) _ ?_
              unfold pairAt
              rw [List.getD_eq_getElem?_getD, List.getElem?_eq_getElem (by omega)]
              rfl
            have hTM := turnR_map (f := pairAt L) (h := h) hLi fun x y hxy hy => by
              rw [cmpV_anti]
              have := hun.out rfl y x (Nat.zero_le _) hy hxy
              omega
            have hu4 := hu3.keep hbq
            have cm : ∀ p : In wr, Calls Try.prog 38 #[.slice A6 (flatP (turnR (pairAt L) h 0)).length cap6] p.w (MapEnds PS p.w) := fun p => by
              have := map_c A6 cap6 _ p.w (hP6.keep p.h) (by rw [hlenT]; omega)
              rw [hTM, ← hPSh.out] at this
              exact this
            have cs : ∀ (p : In wr) (u : Value), MapF PS u p.w → Calls Try.prog 18 #[u, valV 6 false 0 0 [] MA (flatP PS).length mc] p.w fun e w' => e = .returned (.bool true) ∧ Below p.w.heap.size p.w w' := fun p u h => by
              have := rsame_c _ _ u _ p.w h (hu4.keep p.h)
              rwa [sameV_self] at this
            unfold MapEnds at cm
            obtain ⟨x6, x0, x1, x2, x3, x4, x5⟩ := hbx4
            clear hTM hP6 hown hvr hlenT
            go_upto_region 20 with fail
            (refine wp_region_rel_at (9) [90] [] (by kernel_rfl) (by kernel_rfl) (by kernel_rfl) ?_; (simp only [List.take_succ_cons, List.take_zero, List.drop_succ_cons, List.drop_zero]))
            iterate 4 (((with_reducible refine wpRel_none (by kernel_rfl) (by kernel_rfl) ?_); intro K hK; go_simp; first | (with_reducible refine hK _ ?_; clear hK K) | (apply Exists.intro; (with_reducible refine ⟨fun _ => ⟨?_, _, rfl⟩, hK _ ?_⟩); (· exact rfl); clear hK K) | (apply Exists.intro; (with_reducible refine ⟨fun _ => ?_, hK _ ?_⟩); (· (with_reducible (fail))); clear hK K)))
            (with_reducible refine wpRel_fact [] (90) ((MapF PS)) (by kernel_rfl) rfl rfl ((MapF.steady _)) (by first | exact rfl | go_simp) (fun p => ?_) ?_)
            · (try simp only [pickR, pickR_nil, fillR, List.contains_cons, List.contains_nil, Nat.reduceBEq, Bool.or_false, Bool.or_true, Bool.true_or, Bool.false_or, if_true, if_false, Bool.false_eq_true])
              go_wp2_with ((with_reducible refine (cm p).mono ?_); rintro e w' ⟨u, rfl, hu, hb⟩)
              exact ⟨fun h => absurd h (by decide), rfl, rfl, hb, hu⟩
            ((with_reducible refine wpRel_none (by kernel_rfl) (by kernel_rfl) ?_); intro K hK; go_simp; first | (with_reducible refine hK _ ?_; clear hK K) | (apply Exists.intro; (with_reducible refine ⟨fun _ => ⟨?_, _, rfl⟩, hK _ ?_⟩); (· exact rfl); clear hK K) | (apply Exists.intro; (with_reducible refine ⟨fun _ => ?_, hK _ ?_⟩); (· (with_reducible (fail))); clear hK K))
            ((with_reducible refine wpRel_val [90] (by kernel_rfl) (by kernel_rfl) ?_); intro K hK; (simp only [pickR, fillR, List.contains_cons, List.contains_nil, Nat.reduceBEq, Bool.or_false, Bool.or_true, Bool.true_or, Bool.false_or, if_true, if_false, Bool.false_eq_true]); go_simp; first | (with_reducible refine hK _ ?_; clear hK K) | (apply Exists.intro; (with_reducible refine ⟨?_, hK _ ?_⟩); (· ((rintro p u h1; go_simp; refine (cs p u h1).mono ?_; rintro e w5 ⟨rfl, hb⟩; exact ⟨rfl, hb⟩))); clear hK K))
            iterate 2 (((with_reducible refine wpRel_none (by kernel_rfl) (by kernel_rfl) ?_); intro K hK; go_simp; first | (with_reducible refine hK _ ?_; clear hK K) | (apply Exists.intro; (with_reducible refine ⟨fun _ => ⟨?_, _, rfl⟩, hK _ ?_⟩); (· exact rfl); clear hK K) | (apply Exists.intro; (with_reducible refine ⟨fun _ => ?_, hK _ ?_⟩); (· (with_reducible (fail))); clear hK K)))
            ((with_reducible refine wpRel_nil ?_); intro p; (simp only [fillR]))
            go_simp
            intro u90 _ _
            have hbf := hbwq.trans (p.h.mono hbwq.size)
            go_wp2_with fail
            go_ret
            exact ⟨rfl, hbf⟩
        · obtain ⟨r, rfl⟩ : ∃ r', r = r' + 1 := ⟨r - 1, by omega⟩
          obtain ⟨q, hq⟩ : ∃ q : Nat, q = 2 * r := ⟨_, rfl⟩
          have hjq : j = q := by omega
          subst hjq
          have hqL : q + 1 < L.length := by omega
          have hqLi : (q : Int) + 1 < L.length := by omega
          have hqL0 : q < L.length := by omega
          have hqL0i : (q : Int) < L.length := by omega
          have hq1 : (0 : Int) ≤ (q : Int) + 1 := by omega
          have wq1 : IntKind.i64.wrap ((q : Int) + 1) = (q : Int) + 1 := by rw [wrap_i64]; omega
          have wq2 : IntKind.i64.wrap ((q : Int) - 2) = (q : Int) - 2 := by rw [wrap_i64]; omega
          have hik : L[q]? = some L[q] := by simp
          have hiv : L[q + 1]? = some L[q + 1] := by simp
          have hpa := pairAt_eq hq hik hiv
          obtain ⟨ad, kk, kb, kn, kf, ks, kB, klen, kc, hA, hkx, hkat⟩ := hPm3 q _ hik
          subst hA
          obtain ⟨ad', vk, vb, vn, vf, vs, vB, vlen, vc, had, hvx, hvat⟩ := hPm3 (q + 1) _ hiv
          cases had
          generalize L[q] = key at *
          generalize L[q + 1] = val at *
          have hqh := Lib.hid hq
          have hpah := Lib.hid hpa
          obtain ⟨y6, y0, y1, y2, y3, y4, y5⟩ := hkat.keep hbq
          obtain ⟨z6, z0, z1, z2, z3, z4, z5⟩ := hvat.keep hbq
          clear hq hpa hj hr0 hik hiv hkat hvat
          have hqs := hbq.size
          go_upto_region 15 with fail
          (refine wp_region_rel_at (11) [66] [] (by kernel_rfl) (by kernel_rfl) (by kernel_rfl) ?_; (simp only [List.take_succ_cons, List.take_zero, List.drop_succ_cons, List.drop_zero]))
          iterate 10 (((with_reducible refine wpRel_none (by kernel_rfl) (by kernel_rfl) ?_); intro K hK; go_simp; first | (with_reducible refine hK _ ?_; clear hK K) | (apply Exists.intro; (with_reducible refine ⟨fun _ => ⟨?_, _, rfl⟩, hK _ ?_⟩); (· exact rfl); clear hK K) | (apply Exists.intro; (with_reducible refine ⟨fun _ => ?_, hK _ ?_⟩); (· (with_reducible (fail))); clear hK K)))
          ((with_reducible refine wpRel_fact [] (66) (RowAt (wr.heap.size) (#[.int .i64 kk, .bool kb, .int .i64 kn, .float .f64 kf, .string (st ks), .slice kB klen kc, .int .i64 vk, .bool vb, .int .i64 vn, .float .f64 vf, .string (st vs), .slice vB vlen vc]) (25) (2)) (by kernel_rfl) rfl rfl (RowAt.steady _ _ _ _) (by first | exact rfl | go_simp) ?_ ?_); (· intro p; rw [pickR_nil]; (simp only [fillR]); go_wp2_with fail; exact row_post p.h.size rfl rfl))
          ((with_reducible refine wpRel_nil ?_); intro p; (simp only [fillR]))
          rintro u66 ⟨b66, h66, rfl, z66⟩ -
          have hownP := Lib.hid (own_stays hown.out p.h)
          have hbS : w4.heap.size ≤ p.w.heap.size := Nat.le_trans hqs p.h.size
          have hbP : Below w4.heap.size w4 p.w := hbq.trans (p.h.mono hqs)
          clear y6 y0 y1 y2 y3 y4 y5 z6 z0 z1 z2 z3 z4 z5 hown
          generalize p.w = wp at *
          clear p
          have z66 := Lib.hid z66
          have d1 : ∀ (j : Nat) (u : Value), (valC kk kb kn kf ks kB klen kc ++ valC vk vb vn vf vs vB vlen vc)[j]? = some u → wp.cell? ((⟨b66, 0, none⟩ : Addr).add j) = some u := fun j u hu => by
            rw [insAdd, Nat.zero_add, cell_of z66.out j]
            simpa using hu
          have d2 : ∀ u ∈ valC kk kb kn kf ks kB klen kc ++ valC vk vb vn vf vs vB vlen vc, u.oneCell' = true := fun u hu => by rcases List.mem_append.1 hu with h | h <;> exact valC_one _ _ _ _ _ _ _ _ u h
          have d3 : 2 * (h - (r + 1)) + 2 ≤ maxLen := by unfold maxLen; omega
          have d4 : (2 * (h - (r + 1)) + 2) * 72 ≤ 140737488355328 := by omega
          have d1 := Lib.hid d1
          have d2 := Lib.hid d2
          have d3 := Lib.hid d3
          have d4 := Lib.hid d4
          go_wp2_with (at_builtin; refine wpList_append_own _ rfl _ _ 23 rfl w4.heap.size 25 i0 (.agg #[.int .i64 0, .bool false, .int .i64 0, .float .f64 0, .string ByteArray.empty, .slice none 0 0]) 6 72 Try.underlying23 hi0 hz0 hz1 hz2 rfl (by decide) _ _ _ rfl hownP.out ⟨b66, 0, none⟩ 2 2 (valC kk kb kn kf ks kB klen kc ++ valC vk vb vn vf vs vB vlen vc) rfl rfl d1.out d2.out d3.out d4.out hbS ?_)
          have hownq := hownP.out
          clear hownP d1 d2 d3 d4 z66
          intro v7 w7 hown7 hgrow7 _
          have hb7 : Below w4.heap.size w4 w7 := hbP.grown hgrow7 hbS fun k hk => (hownq.lt k hk).1
          have hown7 : Hid (w7.ownsRow w4.heap.size 25 6 v7 (2 * (h - r)) (xs ++ (valC kk kb kn kf ks kB klen kc ++ valC vk vb vn vf vs vB vlen vc))) := Lib.hid (by
            rw [show 2 * (h - r) = 2 * (h - (r + 1)) + 2 by omega]
            simpa using hown7)
          have hvr7 : Hid (VRow w4 (flatP (turnR (pairAt L) h r)) (xs ++ (valC kk kb kn kf ks kB klen kc ++ valC vk vb vn vf vs vB vlen vc))) := Lib.hid (by
            rw [turnR_next _ (by omega), flatP_append, hpah.out]
            exact hvr.out.append ((VRow.single hkx).snoc hvx))
          clear hownq hgrow7 hbP hvr hbwq hbS hqs hvx hbq
          go_wp2_with fail
          go_loopw [7, 9] (fun a7 a9 wz => ∃ (t s : Nat) (u2 : Bool), a7 = .bool u2 ∧ a9 = .int .i64 s ∧ Hid (s = 2 * t) ∧ t ≤ r ∧ s ≤ q ∧ Hid (u2 = true → un = true ∧ ∀ y, y < t → cmpV (pairAt L r).1 (pairAt L y).1 ≠ 0) ∧ Below w7.heap.size w7 wz) (fun _ a _ => q - (intOf a).toNat)
          case atStart => exact ⟨0, 0, un, rfl, rfl, Lib.hid rfl, Nat.zero_le _, Nat.zero_le _, Lib.hid fun h => ⟨h, fun y hy => absurd hy (Nat.not_lt_zero _)⟩, Below.refl _ _⟩
          case round =>
            obtain ⟨t, s, u2, rfl, rfl, hs, ht, hsq, hu2, hbz⟩ := hrel
            have hbz4 := hb7.trans (hbz.mono hb7.size)
            by_cases hst : s < q
            · have hst' : (s : Int) < q := by omega
              have htr : t < r := by have h1 := hs.out; have h2 := hqh.out; omega
              have hsL : s < L.length := by omega
              have hsLi : (s : Int) < L.length := by omega
              have ws : IntKind.i64.wrap ((s : Int) + 2) = (s : Int) + 2 := by rw [wrap_i64]; omega
              have hs2 : s + 2 ≤ q := by have h1 := hs.out; have h2 := hqh.out; omega
              have hs3 : Hid (s + 2 = 2 * (t + 1)) := Lib.hid (by have h1 := hs.out; omega)
              cases u2 with
              | false =>
                go_upto_region 19 with fail
                (refine wp_region_flow [] (by kernel_rfl) (by kernel_rfl) ?_; (repeat (((with_reducible refine wpFlow_steps ?_); intro K hK; go_simp; first | (with_reducible refine hK _ ?_; clear hK K) | (apply Exists.intro; (with_reducible refine ⟨fun _ => ⟨?_, _, rfl⟩, hK _ ?_⟩); (· exact rfl); clear hK K) | (apply Exists.intro; (with_reducible refine ⟨fun _ => ⟨_, rfl⟩, hK _ ?_⟩); clear hK K) | (apply Exists.intro; (with_reducible refine ⟨fun _ => ?_, hK _ ?_⟩); (· (with_reducible (fail))); clear hK K)))); (refine wpFlow_nil ?_; rintro w1 ⟨q0, hq0⟩; have hb := In.h q0; rw [← hq0] at hb; clear hq0 q0; (first | ((with_reducible obtain ⟨p, hw''⟩ := In.of2 p hb); subst hw'') | (obtain ⟨p, hw''⟩ := In.of hb; subst hw'')); go_simp; intros))
                have hbz2 := hbz.trans (p.h.mono hbz.size)
                go_wp2_with fail
                exact ⟨⟨t + 1, s + 2, false, rfl, by simp, hs3, htr, hs2, Lib.hid (fun h => by cases h), hbz2⟩, by simp [intOf]; omega⟩
              | true =>
                have hsk : L[s]? = some L[s] := by simp
                have hsv : L[s + 1]? = some (L[s + 1]'(by omega)) := by simp
                have hpb := pairAt_eq hs.out hsk hsv
                obtain ⟨adS, ak, ab, an, aF, aS, aB, alen, ac, hadS, hax, haat⟩ := hPm3 s _ hsk
                cases hadS
                obtain ⟨ad2, bk, bb, bn, bF, bS, bB, blen, bc, hadB, hbxx, hbat⟩ := hPm3 q _ (by rw [List.getElem?_eq_getElem hqL0])
                cases hadB
                obtain ⟨y6, y0, y1, y2, y3, y4, y5⟩ := hbat.keep hbz4
                obtain ⟨z6, z0, z1, z2, z3, z4, z5⟩ := haat.keep hbz4
                have hkey : (pairAt L r).1 = L[q] := by
                  unfold pairAt
                  rw [List.getD_eq_getElem?_getD, ← hqh.out, List.getElem?_eq_getElem hqL0]
                  rfl
                obtain ⟨C, hC⟩ : ∃ C, C = cmpV (pairAt L r).1 (pairAt L t).1 := ⟨_, rfl⟩
                have cc : ∀ p : In wr, Calls Try.prog 26 #[valV bk bb bn bF bS bB blen bc, valV ak ab an aF aS aB alen ac] p.w fun e w' => e = .returned (.int .i64 C) ∧ Below p.w.heap.size p.w w' := fun p => by
                  have := rcmpv_c _ _ _ _ p.w ((hbxx.keep hbz4).keep p.h) ((hax.keep hbz4).keep p.h)
                  rw [hC, hkey, hpb]
                  exact this
                have hu3 : Hid (decide (¬ C = 0) = true → un = true ∧ ∀ y, y < t + 1 → cmpV (pairAt L r).1 (pairAt L y).1 ≠ 0) := Lib.hid fun hC0 => by
                  refine ⟨(hu2.out rfl).1, fun y hy => ?_⟩
                  by_cases e : y = t
                  · rw [e, ← hC]
                    exact of_decide_eq_true hC0
                  · exact (hu2.out rfl).2 y (by omega)
                clear hC hsk hsv hpb hax haat hbxx hbat hkey
                go_upto_region 19 with fail
                (refine wp_region_flow [] (by kernel_rfl) (by kernel_rfl) ?_; (repeat (((with_reducible refine wpFlow_steps ?_); intro K hK; go_simp; first | (with_reducible refine hK _ ?_; clear hK K) | (apply Exists.intro; (with_reducible refine ⟨fun _ => ⟨?_, _, rfl⟩, hK _ ?_⟩); (· exact rfl); clear hK K) | (apply Exists.intro; (with_reducible refine ⟨fun _ => ⟨_, rfl⟩, hK _ ?_⟩); clear hK K) | (apply Exists.intro; (with_reducible refine ⟨fun _ => ?_, hK _ ?_⟩); (· (with_reducible (first | exact cc _))); clear hK K)))); (refine wpFlow_nil ?_; rintro w1 ⟨q0, hq0⟩; have hb := In.h q0; rw [← hq0] at hb; clear hq0 q0; (first | ((with_reducible obtain ⟨p, hw''⟩ := In.of2 p hb); subst hw'') | (obtain ⟨p, hw''⟩ := In.of hb; subst hw'')); go_simp; intros))
                have hbz2 := hbz.trans (p.h.mono hbz.size)
                clear y6 y0 y1 y2 y3 y4 y5 z6 z0 z1 z2 z3 z4 z5 cc
                go_wp2_with fail
                exact ⟨⟨t + 1, s + 2, _, rfl, by simp, hs3, htr, hs2, by simpa using hu3, hbz2⟩, by simp [intOf]; omega⟩
            · have hst' : ¬ (s : Int) < q := by omega
              have hun2 : Hid (u2 = true → ∀ x y, r ≤ x → x < h → y < x → cmpV (pairAt L x).1 (pairAt L y).1 ≠ 0) := Lib.hid fun h2 x y hx hxh hyx => by
                obtain ⟨h3, h4⟩ := hu2.out h2
                by_cases e : x = r
                · subst e
                  exact h4 y (by have h1 := hs.out; have h2 := hqh.out; omega)
                · exact hun.out h3 x y (by omega) hxh hyx
              have hown8 : Hid (wr.ownsRow w4.heap.size 25 6 v7 (2 * (h - r)) (xs ++ (valC kk kb kn kf ks kB klen kc ++ valC vk vb vn vf vs vB vlen vc))) := Lib.hid (own_stays hown7.out hbz)
              have hjf : (q : Int) - 2 = 2 * (r : Int) - 2 := by have := hqh.out; omega
              have hjh := Lib.hid hjf
              clear hjf
              go_wp2_with fail
              exact ⟨⟨r, (q : Int) - 2, u2, _, by simp, hjh.out, rfl, by omega, hown8, hvr7, hun2, hbz4⟩, by simp [intOf]; omega⟩
end Go.Proofs.Ytkbacjlnfmibaaa
