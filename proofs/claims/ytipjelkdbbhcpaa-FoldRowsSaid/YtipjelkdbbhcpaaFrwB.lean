
/-
  FoldRows: the walk.
-/
import Derived.Test.YtipjelkdbbhcpaaFrwA
set_option linter.unusedSimpArgs false
set_option linter.unusedVariables false
namespace Go.Proofs.Ytipjelkdbbhcpaa
open Go.RowKit Go.Deep

set_option maxRecDepth 8000 in
set_option maxHeartbeats 4000000 in
theorem foldRows_walk (A : Option Addr) (cap : Nat) (l : List Val) (w : World) (hx : Parts w A l) (hl : l.length ≤ cap) (hcap : cap ≤ maxLen) :
    Calls Try.prog 3 #[.slice A l.length cap] w fun e w' => e = .returned (.bool true) ∧ Below w.heap.size w w' := by
  have c1 := cut_c A cap l w hx hl hcap
  obtain ⟨i1, hi1, hz0, hz1, hz2⟩ := info_parts Try.info22
  clear hx hl hcap
  go_enter Try.func3, Try.ntmps3
  go_upto_region 2 with ((with_reducible refine c1.mono ?_); rintro e w1 ⟨A1, cap1, ys, rfl, hp1, hyc, hcm, h20, hsm, hb1⟩)
  clear c1 hsm
  obtain ⟨hOl, hOlt, hOnew, hOstep⟩ := orderOk ys
  obtain ⟨w2, hw2⟩ : ∃ w2, w2 = w1.alloc (.cells #[] 22) := ⟨_, rfl⟩
  have own2 : w2.ownsRow w1.heap.size 22 1 (.slice (some ⟨w1.heap.size, 0, none⟩) 0 0) 0 [] := hw2 ▸ owns_empty1 w1 _ _ (Nat.le_refl _)
  have bel2 : Below w1.heap.size w1 w2 := hw2 ▸ below_alloc w1 _
  have hwa : w1.alloc (.cells #[] 22) = w2 := hw2.symm
  clear hw2
  obtain ⟨O, hOd⟩ : ∃ O, sortV (ltOf (ordC true ys)) (List.range ys.length) = O := ⟨_, rfl⟩
  rw [hOd] at hOl hOlt hOnew hOstep
  have hOd' := Lib.hid hOd
  have hOl' := Lib.hid hOl
  have hOlt' := Lib.hid hOlt
  have hOnew' := Lib.hid hOnew
  have hOstep' := Lib.hid hOstep
  obtain ⟨L, hLd⟩ : ∃ L, ys.length = L := ⟨_, rfl⟩
  have hL := Lib.hid hLd
  rw [hLd] at hyc h20
  rw [hLd]
  clear hOd hOl hOlt hOnew hOstep hLd
  go_upto_region 3 with fail
  clear hwa
  go_wp2_with fail
  go_loopw [4, 5] (fun a4 a5 wr => ∃ (i g c : Nat) (xs : List Value), a5 = .int .i64 i ∧ i ≤ L ∧ a4 = .slice (some ⟨g, 0, none⟩) i c ∧ wr.ownsRow w1.heap.size 22 1 (.slice (some ⟨g, 0, none⟩) i c) i xs ∧ RowsC w1 wr ys xs ∧ Below w1.heap.size w1 wr) (fun _ a _ => L - (intOf a).toNat)
  case atStart => exact ⟨0, w1.heap.size, 0, [], rfl, Nat.zero_le _, rfl, own2, (fun j u h => by simp at h), bel2⟩
  case round =>
    clear own2 bel2
    obtain ⟨i, g, c, xs, rfl, hi, rfl, hown, hrow, hbr⟩ := hrel
    by_cases hil : i < L
    · have hil' : (i : Int) < L := by omega
      obtain ⟨y, hy⟩ : ∃ y, ys[i]? = some y := ⟨ys[i]'(by rw [hL.out]; exact hil), by simp⟩
      obtain ⟨ad, k, b, n, f, s, B, len, c', rfl, hv, hat⟩ := hp1 i y hy
      obtain ⟨q6, q0, q1, q2, q3, q4, q5⟩ := hat.keep hbr
      have wi : IntKind.i64.wrap ((i : Int) + 1) = (i : Int) + 1 := by rw [wrap_i64]; omega
      have hyh := Lib.hid hy
      clear hy hat hp1
      go_wp2_with (at_builtin; refine wpList_append_own _ rfl _ _ 24 rfl w1.heap.size 22 i1 (.slice none 0 0) 1 24 Try.underlying24 hi1 hz0 hz1 hz2 rfl (by decide) _ _ _ rfl ((hown.alloc _).alloc _) _ 1 1 [.slice (some ⟨wr.heap.size, 0, none⟩) 1 1] rfl rfl ?d1 ?d2 ?d3 ?d4 ?d5 ?_)
      case d1 =>
        intro j u hj
        match j, hj with
        | 0, hj => simp at hj; subst hj; simp [Addr.add, go_sem]
      case d2 => intro u hu; simp only [List.mem_cons, List.not_mem_nil, or_false] at hu; subst hu; rfl
      case d3 => unfold maxLen; omega
      case d4 => omega
      case d5 => have := hbr.size; simp; omega
      intro v' w6 hown6 hgrow _
      obtain ⟨g', c2, hv'⟩ : ∃ g' c2, v' = .slice (some ⟨g', 0, none⟩) (i + 1) c2 := by
        rcases hown6.2 with ⟨_, h0⟩ | ⟨g', cap', _, h', _⟩
        · omega
        · exact ⟨g', cap', h'⟩
      subst hv'
      have hrow6 := hrow.next hown hgrow hv hyh.out
      have bel6 : Below w1.heap.size w1 w6 := ((hbr.alloc hbr.size _).alloc (by have := hbr.size; simp; omega) _).grown hgrow (by have := hbr.size; simp; omega) fun k hk => (hown.lt k hk).1
      clear hgrow hrow hown
      go_wp2_with fail
      exact ⟨⟨i + 1, g', c2, _, rfl, hil, rfl, hown6, hrow6, bel6⟩, by simp [intOf]; omega⟩
    · have hil' : ¬ (i : Int) < L := by omega
      have hiL : i = L := by omega
      subst hiL
      have hLL := hL.out
      have rows : RowsV wr g ys := hrow.rows (cc := c) (hLL ▸ hown) hbr
      obtain ⟨_, _, hic⟩ := own_block hown
      obtain ⟨w3, hw3⟩ : ∃ w3, w3 = wr.alloc (.cells #[.bool false] 4) := ⟨_, rfl⟩
      have k3 : Below wr.heap.size wr w3 := hw3 ▸ below_alloc wr _
      have hQ : w3.heap[wr.heap.size]? = _ := hw3 ▸ alloc_here wr _
      have hwb : wr.alloc (.cells #[.bool false] 4) = w3 := hw3.symm
      have rows3 := rows.keep k3
      have B3 := hbr.trans (k3.mono hbr.size)
      have co1 : Calls Try.prog 10 #[.slice (some ⟨g, 0, none⟩) i c, .slice (some ⟨wr.heap.size, 0, none⟩) 1 1] w3 (fun e w' => ∃ D, e = .returned (.slice (some ⟨D, 0, none⟩) i i) ∧ IntRow w' D O ∧ Below w3.heap.size w3 w') := by
        have h := order_c ys g c (.slice (some ⟨wr.heap.size, 0, none⟩) 1 1) true w3 rows3 (.one _ (cell_of hQ 0) (Array.getElem?_eq_some_iff.1 hQ).1) (by omega) (by omega)
        unfold OrderEnds at h
        rw [hOd'.out, hLL] at h
        exact h
      have co2 : ∀ wx, Below w3.heap.size w3 wx → Calls Try.prog 10 #[.slice (some ⟨g, 0, none⟩) i c, .slice none 0 0] wx (fun e w' => ∃ D, e = .returned (.slice (some ⟨D, 0, none⟩) i i) ∧ IntRow w' D (List.range i) ∧ Below wx.heap.size wx w') := fun wx hbx => by
        have h := order_c ys g c (.slice none 0 0) false wx (rows3.keep hbx) .no (by omega) (by omega)
        unfold OrderEnds at h
        rw [sortV_none, hLL] at h
        exact h
      have hOl := hOl'.out
      have hOlt := hOlt'.out
      have hOnew := hOnew'.out
      have hOstep := hOstep'.out
      rw [hLL] at hOl hOlt hOnew hOstep
      have hOl' := Lib.hid hOl
      clear hw3 hQ rows rows3 k3 hown hrow hbr hOl hLL
      go_upto_region 8 with (first | ((with_reducible refine co1.mono ?_); rintro e w4 ⟨D1, rfl, hI1, hb4⟩) | ((with_reducible refine (co2 _ hb4).mono ?_); rintro e w5 ⟨D2, rfl, hI2, hb5⟩))
      clear hwb
      have B4 := B3.trans (hb4.mono B3.size)
      have B5 := B4.trans (hb5.mono B4.size)
      have hI1 := hI1.keep (hb5.block D1 hI1.lt)
      clear co1 co2 B3 B4 hb4 hb5
      go_upto_region 10 with ((with_reducible refine (awake_c _).mono ?_); rintro e w6 ⟨rfl, hb6⟩)
      have B6 := B5.trans (hb6.mono B5.size)
      have hI1 := hI1.keep (hb6.block D1 hI1.lt)
      have hI2 := hI2.keep (hb6.block D2 hI2.lt)
      have hp6 := hp1.keep B6
      have hB := hb1.trans (B6.mono hb1.size)
      have hmk := run_make_row' (P := Try.prog) 30 4 (.bool false) 1 Try.underlying30 Try.info4 rfl .i64 .i64 i (by omega) (by omega) w6
      have hS0 : SeenRow (w6.alloc (.cells (madeCells #[.bool false] i) 4)) w6.heap.size i [] := World.rowIs_made w6 (.bool false) i 4
      have k7 := below_alloc w6 (.cells (madeCells #[.bool false] i) 4)
      clear B5 B6 hb6 hb1 hp1
      go_upto_region 11 with fail
      generalize w6.alloc (.cells (madeCells #[.bool false] i) 4) = w7 at *
      clear hmk
      go_wp2_with fail
      go_loopw [9] (fun a9 wr => ∃ j : Nat, a9 = .int .i64 j ∧ j ≤ i ∧ SeenRow wr w6.heap.size i (O.take j) ∧ Below w6.heap.size w6 wr) (fun a _ => i - (intOf a).toNat)
      case atStart => exact ⟨0, rfl, Nat.zero_le _, hS0, k7⟩
      case round =>
        clear hS0 k7
        obtain ⟨j, rfl, hj, hS, hbs⟩ := hrel
        by_cases hji : j < i
        · have hji' : (j : Int) < i := by omega
          have hLL := hL.out
          obtain ⟨a, ha⟩ : ∃ a, O.getD j 0 = a := ⟨_, rfl⟩
          have hai : a < i := ha ▸ hOlt j hji
          have hnew := hOnew j hji
          rw [ha] at hnew
          have hOL := hOl'.out
          have I1 := hI1.keep (hbs.block D1 hI1.lt)
          have I2 := hI2.keep (hbs.block D2 hI2.lt)
          have cO : _ = _ := I1.cell (i := j) (by omega)
          have cP : _ = _ := I2.cell (i := j) (by simp; omega)
          have cS : _ = _ := hS.cell (i := a) hai
          simp only [intsF, ha] at cO
          simp only [intsF, range_getD hji] at cP
          have hnc : (O.take j).contains a = false := by
            rw [← Bool.not_eq_true, List.contains_iff_mem]
            exact hnew
          simp only [hnc] at cS
          have lO := I1.lt
          have lP := I2.lt
          have lS := hS.lt
          have fS := fun q => hS.frozen q
          have g1 : ¬ ((a : Int) < 0) := by omega
          have g2 : (a : Int) < i := by omega
          have g3 : ¬ ((i : Int) ≤ a) := by omega
          have nS := Lib.hid ((hS.set hai).eq (ha ▸ take_next (O := O) (i := j) (by omega)))
          have nB := Lib.hid (hbs.setCell (p := ⟨w6.heap.size, a, none⟩) (Nat.le_refl _) (.bool true))
          clear hOnew hS I1 I2 hnc hnew
          go_upto_region 17 with fail
          generalize wr.setCell ⟨w6.heap.size, a, none⟩ (.bool true) = ws at *
          have nB := nB.out
          have nS := nS.out
          clear cO cP cS lO lP lS fS hbs
          have J1 := hI1.keep (nB.block D1 hI1.lt)
          have cA : _ = _ := J1.cell (i := j) (by omega)
          simp only [intsF, ha] at cA
          have lA := J1.lt
          have wi : IntKind.i64.wrap ((j : Int) + 1) = (j : Int) + 1 := by rw [wrap_i64]; omega
          by_cases hj0 : 0 < j
          · have hj0' : (0 : Int) < j := by omega
            obtain ⟨q, hq⟩ : ∃ q, q + 1 = j := ⟨j - 1, by omega⟩
            obtain ⟨b, hb⟩ : ∃ b, O.getD q 0 = b := ⟨_, rfl⟩
            have hbi : b < i := hb ▸ hOlt q (by omega)
            have cB : _ = _ := J1.cell (i := q) (by omega)
            simp only [intsF, hb] at cB
            have wq : IntKind.i64.wrap ((j : Int) - 1) = (q : Int) := by rw [wrap_i64]; omega
            have hst := hOstep q (by omega)
            rw [hq, hb, ha] at hst
            obtain ⟨adA, ka, ba, na, fa, sa, CA, la, ca, hA1, hxa, hata⟩ := hp6 a _ (getD_at (by omega))
            obtain ⟨adB, kb, bb, nb, fb, sb, CB, lb, cb, hA2, hxb, hatb⟩ := hp6 b _ (getD_at (by omega))
            rw [hA1] at hA2
            cases hA2
            subst hA1
            have xa := hxa.keep nB
            have xb := hxb.keep nB
            obtain ⟨q6, q0, q1, q2, q3, q4, q5⟩ := hata.keep nB
            obtain ⟨s6, s0, s1, s2, s3, s4, s5⟩ := hatb.keep nB
            have cc : ∀ p : In ws, Calls Try.prog 12 #[valV kb bb nb fb sb CB lb cb, valV ka ba na fa sa CA la ca] p.w (fun e w' => e = .returned (.int .i64 (cmpV (ys.getD b default) (ys.getD a default))) ∧ Below p.w.heap.size p.w w') := fun p => rcmpv_c _ _ _ _ p.w (xb.keep p.h) (xa.keep p.h)
            have hjq : (q : Int) < i := by omega
            have hbi' : (b : Int) < i := by omega
            have hqh := Lib.hid hq
            generalize cmpV (ys.getD b default) (ys.getD a default) = C at *
            obtain ⟨hC1, hC2⟩ := hst
            have hC1' : ¬ 0 < C := by omega
            have hCh := Lib.hid hC2
            clear hq hC2 hxa hxb hata hatb xa xb hOstep hOlt J1
            go_upto_region 18 with fail
            (refine wp_region_flow [] (by kernel_rfl) (by kernel_rfl) ?_; (repeat (((with_reducible refine wpFlow_steps ?_); intro K hK; go_simp; first | (with_reducible refine hK _ ?_; clear hK K) | (apply Exists.intro; (with_reducible refine ⟨fun _ => ⟨?_, _, rfl⟩, hK _ ?_⟩); (· exact rfl); clear hK K) | (apply Exists.intro; (with_reducible refine ⟨fun _ => ⟨_, rfl⟩, hK _ ?_⟩); clear hK K) | (apply Exists.intro; (with_reducible refine ⟨fun _ => ?_, hK _ ?_⟩); (· (with_reducible (first | exact cc _))); clear hK K)))); (refine wpFlow_nil ?_; rintro w1 ⟨q0, hq0⟩; have hb := In.h q0; rw [← hq0] at hb; clear hq0 q0; (first | ((with_reducible obtain ⟨p, hw''⟩ := In.of2 p hb); subst hw'') | (obtain ⟨p, hw''⟩ := In.of hb; subst hw'')); go_simp; intros))
            have bp := p.h
            have nB2 := nB.trans (bp.mono nB.size)
            have nS2 := Lib.hid (nS.keep (bp.block _ nS.lt))
            have cA2 := (bp.cell (p := ⟨D1, j, none⟩) lA).trans cA
            have cB2 := (bp.cell (p := ⟨D1, q, none⟩) lA).trans cB
            have lA2 := Nat.lt_of_lt_of_le lA bp.size
            clear cA cB lA cc q0 q1 q2 q3 q4 q5 q6 s0 s1 s2 s3 s4 s5 s6 hp6 hI1 hI2 nS nB
            generalize p.w = wt at *
            clear bp p
            by_cases hC0 : C = 0
            · have hba := hCh.out hC0
              have hba' : ¬ (a : Int) < b := by omega
              subst hC0
              clear hC1 hC1'
              go_upto_region 19 with fail
              (refine wp_region_flow [] (by kernel_rfl) (by kernel_rfl) ?_; (repeat (((with_reducible refine wpFlow_steps ?_); intro K hK; go_simp; first | (with_reducible refine hK _ ?_; clear hK K) | (apply Exists.intro; (with_reducible refine ⟨fun _ => ⟨?_, _, rfl⟩, hK _ ?_⟩); (· exact rfl); clear hK K) | (apply Exists.intro; (with_reducible refine ⟨fun _ => ⟨_, rfl⟩, hK _ ?_⟩); clear hK K) | (apply Exists.intro; (with_reducible refine ⟨fun _ => ?_, hK _ ?_⟩); (· (with_reducible (fail))); clear hK K)))); (refine wpFlow_nil ?_; rintro w1 ⟨q0, hq0⟩; have hb := In.h q0; rw [← hq0] at hb; clear hq0 q0; (first | ((with_reducible obtain ⟨p, hw''⟩ := In.of2 p hb); subst hw'') | (obtain ⟨p, hw''⟩ := In.of hb; subst hw'')); go_simp; intros))
              have bq := p.h
              have nB3 := nB2.trans (bq.mono nB2.size)
              have nS3 := nS2.out.keep (bq.block _ nS2.out.lt)
              go_wp2_with fail
              exact ⟨⟨j + 1, rfl, hji, nS3, nB3⟩, by simp [intOf]; omega⟩
            · have hC0' : (C == 0) = false := by simp [hC0]
              go_upto_region 19 with fail
              (refine wp_region_flow [] (by kernel_rfl) (by kernel_rfl) ?_; (repeat (((with_reducible refine wpFlow_steps ?_); intro K hK; go_simp; first | (with_reducible refine hK _ ?_; clear hK K) | (apply Exists.intro; (with_reducible refine ⟨fun _ => ⟨?_, _, rfl⟩, hK _ ?_⟩); (· exact rfl); clear hK K) | (apply Exists.intro; (with_reducible refine ⟨fun _ => ⟨_, rfl⟩, hK _ ?_⟩); clear hK K) | (apply Exists.intro; (with_reducible refine ⟨fun _ => ?_, hK _ ?_⟩); (· (with_reducible (fail))); clear hK K)))); (refine wpFlow_nil ?_; rintro w1 ⟨q0, hq0⟩; have hb := In.h q0; rw [← hq0] at hb; clear hq0 q0; (first | ((with_reducible obtain ⟨p, hw''⟩ := In.of2 p hb); subst hw'') | (obtain ⟨p, hw''⟩ := In.of hb; subst hw'')); go_simp; intros))
              have bq := p.h
              have nB3 := nB2.trans (bq.mono nB2.size)
              have nS3 := nS2.out.keep (bq.block _ nS2.out.lt)
              go_wp2_with fail
              exact ⟨⟨j + 1, rfl, hji, nS3, nB3⟩, by simp [intOf]; omega⟩
          · have hj0' : ¬ (0 : Int) < j := by omega
            clear hOstep hOlt J1
            go_wp2_with fail
            exact ⟨⟨j + 1, rfl, hji, nS, nB⟩, by simp [intOf]; omega⟩
        · have hji' : ¬ (j : Int) < i := by omega
          have hB9 := hB.trans (hbs.mono hB.size)
          clear hOlt hOnew hOstep
          go_wp2_with fail
          go_ret
          exact ⟨rfl, hB9⟩
end Go.Proofs.Ytipjelkdbbhcpaa
