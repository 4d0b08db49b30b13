
/-
  TravCuts' walk.
-/
import Derived.Test.YtfccplkfdhpdgaaTrvU
import Derived.Test.YtfccplkfdhpdgaaValS
set_option linter.unusedSimpArgs false
set_option linter.unusedVariables false
namespace Go.Proofs.Ytfccplkfdhpdgaa
open Go.RowKit

set_option maxRecDepth 8000 in
set_option maxHeartbeats 4000000 in
theorem travCuts_walk (A : Option Addr) (cap : Nat) (ts : List TravD) (frm hgh : Int) (w : World) (hx : TParts w A ts) (hl : ts.length ≤ cap) (hcap : cap ≤ maxLen) (hI : I64 frm) (hJ : I64 hgh) :
    Calls Try.prog 7 #[.slice A ts.length cap, .int .i64 frm, .int .i64 hgh] w fun e w' => e = .returned (.bool true) ∧ Below w.heap.size w w' := by
  obtain ⟨i0, hi0, hz0, hz1, hz2⟩ := info_parts Try.info34
  have c1 := cut_row A cap ts w hx hl hcap
  clear hx hl hcap
  go_enter Try.func7, Try.ntmps7
  go_upto_region 2 with ((with_reducible refine c1.mono ?_); rintro e w1 ⟨A1, cap1, ys, rfl, hp1, hyc, hcm, h12, hsm, hb1⟩)
  clear c1
  by_cases hf : frm < 0
  · clear hp1 hsm
    go_wp2_with ((with_reducible refine (awake_c _).mono ?_); rintro e w3 ⟨rfl, hb3⟩)
    go_ret
    exact ⟨rfl, hb1.trans (hb3.mono hb1.size)⟩
  have hf0 : 0 ≤ frm := by omega
  have ho : Ones ys := fun t ht => (hsm t ht).lo
  have hq4 : ∀ t ∈ ys, 1 ≤ t.bulk ∧ t.bulk ≤ 4 := fun t ht => ⟨(hsm t ht).lo, (hsm t ht).hi⟩
  have hq100 : ∀ t ∈ ys, 0 ≤ t.bulk ∧ t.bulk ≤ 10000 := fun t ht => by have := hq4 t ht; omega
  have hg4 := cutL_ok (frm := frm) (hgh := hgh) (Int.le_refl 0) hq4
  have hg100 : ∀ t ∈ cutL frm hgh 0 ys, 0 ≤ t.bulk ∧ t.bulk ≤ 10000 := fun t ht => by have := hg4 t ht; omega
  have hgl := cutL_len frm hgh ys 0
  have hwant := spread_cut frm hgh ys 0 ho
  have hsn : ((spreadV ys).length : Int) ≤ 48 := by rw [spreadV_len ho]; have := sumB_bound hsm; omega
  have hpl := pickL_len frm hgh (spreadV ys) 0
  obtain ⟨N, hN⟩ : ∃ N, (spreadV ys).length = N := ⟨_, rfl⟩
  obtain ⟨L, hL⟩ : ∃ L, ys.length = L := ⟨_, rfl⟩
  obtain ⟨K, hK⟩ : ∃ K, (cutL frm hgh 0 ys).length = K := ⟨_, rfl⟩
  obtain ⟨M, hM⟩ : ∃ M, (pickL frm hgh 0 (spreadV ys)).length = M := ⟨_, rfl⟩
  rw [hN] at hsn
  have hMb : (M : Int) ≤ 48 := by omega
  have hvl : (valuesV (cutL frm hgh 0 ys)).length = M := by rw [valuesV_eq, List.length_map, hwant, hM]
  have cl : Calls Try.prog 14 #[.slice A1 ys.length cap1] w1 (RowEnds (spreadV ys) N w1) := (lspread_c A1 cap1 ys w1 hp1 (by omega) hq100).mono fun e w' h => RowEnds.spread hN h
  have cc : ∀ wx, Below w1.heap.size w1 wx → Calls Try.prog 24 #[.slice A1 ys.length cap1, .int .i64 frm, .int .i64 hgh] wx (RowEnds (cutL frm hgh 0 ys) K wx) := fun wx h => by
    have := tcut_c A1 cap1 ys frm hgh wx (hp1.keep h) (by omega) hq4 hf0 hI hJ
    rwa [hK] at this
  have cv : ∀ wx Aa ca, TParts wx Aa (cutL frm hgh 0 ys) → Calls Try.prog 25 #[.slice Aa K ca] wx (PartsEnds (valuesV (cutL frm hgh 0 ys)) M wx) := fun wx Aa ca h => by
    have := values_c Aa ca (cutL frm hgh 0 ys) wx h (by omega) hg100
    rwa [hK, hvl] at this
  have cg : ∀ wx Aa ca, TParts wx Aa (cutL frm hgh 0 ys) → Calls Try.prog 14 #[.slice Aa K ca] wx (RowEnds (pickL frm hgh 0 (spreadV ys)) M wx) := fun wx Aa ca h => by
    have := (lspread_c Aa ca (cutL frm hgh 0 ys) wx h (by omega) hg100).mono fun e w' h => RowEnds.spread (n := M) (by rw [hwant]; exact hM) h
    rwa [hK, hwant] at this
  have cr : ∀ (wx : World) (Aa Ab : Option Addr) (ca cb : Nat), TParts wx Aa (pickL frm hgh 0 (spreadV ys)) → TParts wx Ab (pickL frm hgh 0 (spreadV ys)) → Calls Try.prog 12 #[.slice Aa M ca, .slice Ab M cb] wx fun e w' => e = .returned (.bool true) ∧ Below wx.heap.size wx w' := fun wx Aa Ab ca cb h1 h2 => by
    have := rows_c (pickL frm hgh 0 (spreadV ys)) (pickL frm hgh 0 (spreadV ys)) Aa Ab ca cb wx h1 h2 (by unfold maxLen; omega)
    rwa [rowsT_self, hM] at this
  have hat2 : ∀ (wx : World) (Aa Ab : Option Addr) (i : Nat), Parts wx Aa (valuesV (cutL frm hgh 0 ys)) → TParts wx Ab (pickL frm hgh 0 (spreadV ys)) → i < M → ∃ ad k b n f s B len c ae k' b' n' f' s' B' len' c' P' pl' pc' T' tl' tc' q', Aa = some ad ∧ Ab = some ae ∧ ValAt wx (ad.add (i * 6)) k b n f s B len c ∧ TravAt wx (ae.add (i * 9)) k' b' n' f' s' B' len' c' P' pl' pc' T' tl' tc' q' ∧
      ∀ p : In wx, Calls Try.prog 26 #[valV k b n f s B len c, valV k' b' n' f' s' B' len' c'] p.w fun e w' => e = .returned (.bool true) ∧ Below p.w.heap.size p.w w' := by
    intro wx Aa Ab i h1 h2 hi
    have e1 : i < (valuesV (cutL frm hgh 0 ys)).length := by rw [hvl]; exact hi
    have e2 : i < (pickL frm hgh 0 (spreadV ys)).length := by rw [hM]; exact hi
    obtain ⟨ad, k, b, n, f, s, B, len, c, rfl, hv, hat⟩ := h1 i (valuesV (cutL frm hgh 0 ys))[i] (by simp)
    obtain ⟨ae, k', b', n', f', s', B', len', c', P', pl', pc', T', tl', tc', q', rfl, ht, hat'⟩ := h2 i (pickL frm hgh 0 (spreadV ys))[i] (by simp)
    have he : (valuesV (cutL frm hgh 0 ys))[i] = (pickL frm hgh 0 (spreadV ys))[i].v := by
      have h3 : (valuesV (cutL frm hgh 0 ys))[i]? = ((pickL frm hgh 0 (spreadV ys)).map (·.v))[i]? := by rw [valuesV_eq, hwant]
      rw [List.getElem?_eq_getElem e1, List.getElem?_map, List.getElem?_eq_getElem e2] at h3
      simpa using h3
    refine ⟨ad, k, b, n, f, s, B, len, c, ae, k', b', n', f', s', B', len', c', P', pl', pc', T', tl', tc', q', rfl, rfl, hat, hat', fun p => ?_⟩
    have := rsame_c _ _ _ _ p.w (hv.keep p.h) (ht.hv.keep p.h)
    rwa [he, sameV_self] at this
  have hpt := fun (i : Nat) (x : TravD) => pickL_take frm hgh (xs := spreadV ys) (i := i) (x := x)
  rw [hL] at cl cc
  rw [hL]
  have hN' := Lib.hid hN
  have hM' := Lib.hid hM
  clear hp1 ho hq4 hq100 hg4 hg100 hgl hwant hN hL hK hM hvl hsm hyc h12 hI hJ
  generalize hsy : spreadV ys = sy at *
  generalize cutL frm hgh 0 ys = got at *
  clear hsy
  go_upto_region 5 with ((with_reducible refine cl.mono ?_); rintro e w2 ⟨A2, cap2, rfl, hp2, hyc2, hcm2, hb2⟩)
  unfold maxLen at hcm2
  have B2 : Below w.heap.size w w2 := hb1.trans (hb2.mono hb1.size)
  obtain ⟨w3, hw3⟩ : ∃ w3, w3 = w2.alloc (.cells #[] 34) := ⟨_, rfl⟩
  have own3 : w3.ownsRow w2.heap.size 34 9 (.slice (some ⟨w2.heap.size, 0, none⟩) 0 0) 0 [] := hw3 ▸ owns_empty9 w2 _ _ (Nat.le_refl _)
  have bel3 : Below w2.heap.size w2 w3 := hw3 ▸ below_alloc w2 _
  have B3 := B2.trans (bel3.mono B2.size)
  have cc3 : ∀ wx, Below w2.heap.size w2 wx → Calls Try.prog 24 #[.slice A1 L cap1, .int .i64 frm, .int .i64 hgh] wx (RowEnds got K wx) := fun wx h => cc wx (hb2.trans (h.mono hb2.size))
  rw [← hw3]
  clear hw3 cl cc
  go_wp2_with fail
  go_loopw [9, 10] (fun a9 a10 wr => ∃ (i : Nat) (ws : List TravD) (xs : List Value), a10 = .int .i64 i ∧ i ≤ N ∧ Hid (ws = pickL frm hgh 0 (sy.take i)) ∧ ws.length ≤ i ∧ wr.ownsRow w2.heap.size 34 9 a9 ws.length xs ∧ TRow w2 ws xs ∧ Below w2.heap.size w2 wr) (fun _ a _ => N - (intOf a).toNat)
  case atStart => exact ⟨0, [], [], rfl, Nat.zero_le _, rfl, Nat.zero_le _, own3, TRow.nil _, bel3⟩
  case round =>
    clear own3 bel3
    obtain ⟨i, ws, xs, rfl, hi, hws, hwl, hown, hrow, hbr⟩ := hrel
    by_cases hin : i < N
    · have hin' : (i : Int) < N := by omega
      have hil : i < sy.length := by rw [hN'.out]; exact hin
      obtain ⟨ad, k, b, n, f, s, B, len, c, P, pl, pc, T, tl, tc, q, rfl, ht, hat⟩ := hp2 i sy[i] (by simp)
      obtain ⟨q9, q0, q1, q2, q3, q4, q5, q6, q7, q8⟩ := hat.keep hbr
      have hst := Lib.hid (hpt i sy[i] (by simp))
      generalize sy[i] = t at *
      have wi : IntKind.i64.wrap ((i : Int) + 1) = (i : Int) + 1 := by rw [wrap_i64]; omega
      clear hat hp2 hpt cc3 cv cg cr hat2
      by_cases d1 : frm ≤ (i : Int)
      · by_cases d2 : hgh < 0
        · skip
          go_wp2_with (at_builtin; refine wpList_append_own _ rfl _ _ 22 rfl w2.heap.size 34 i0 (.agg #[.int .i64 0, .bool false, .int .i64 0, .float .f64 0, .string ByteArray.empty, .slice none 0 0, .slice none 0 0, .slice none 0 0, .int .i64 0]) 9 128 Try.underlying22 hi0 hz0 hz1 hz2 rfl (by decide) _ _ _ rfl (hown.alloc _) ⟨wr.heap.size, 0, none⟩ 1 1 (travC k b n f s B len c P pl pc T tl tc q) rfl rfl ?d1 ?d2 ?d3 ?d4 ?d5 ?_)
          case d1 =>
            intro j u hj
            match j, hj with
            | 0, hj => simp at hj; subst hj; simp [Addr.add, go_sem]
            | 1, hj => simp at hj; subst hj; simp [Addr.add, go_sem]
            | 2, hj => simp at hj; subst hj; simp [Addr.add, go_sem]
            | 3, hj => simp at hj; subst hj; simp [Addr.add, go_sem]
            | 4, hj => simp at hj; subst hj; simp [Addr.add, go_sem]
            | 5, hj => simp at hj; subst hj; simp [Addr.add, go_sem]
            | 6, hj => simp at hj; subst hj; simp [Addr.add, go_sem]
            | 7, hj => simp at hj; subst hj; simp [Addr.add, go_sem]
            | 8, hj => simp at hj; subst hj; simp [Addr.add, go_sem]
          case d2 => intro u hu; simp only [List.mem_cons, List.not_mem_nil, or_false] at hu; rcases hu with rfl | rfl | rfl | rfl | rfl | rfl | rfl | rfl | rfl <;> rfl
          case d3 => unfold maxLen; omega
          case d4 => omega
          case d5 => have := hbr.size; simp; omega
          intro v' w6 hown6 hgrow _
          have bel6 : Below w2.heap.size w2 w6 := (hbr.alloc hbr.size _).grown hgrow (by have := hbr.size; simp; omega) fun k hk => (hown.lt k hk).1
          clear hgrow hown
          go_wp2_with fail
          refine ⟨⟨i + 1, ws ++ [t], _, rfl, hin, ?_, by simp; omega, by simpa using hown6, hrow.snoc ht, bel6⟩, by simp [intOf]; omega⟩
          show _ = _
          rw [hst.out, if_pos (by omega), ← hws.out]
        · by_cases d3 : (i : Int) < hgh
          · skip
            go_wp2_with (at_builtin; refine wpList_append_own _ rfl _ _ 22 rfl w2.heap.size 34 i0 (.agg #[.int .i64 0, .bool false, .int .i64 0, .float .f64 0, .string ByteArray.empty, .slice none 0 0, .slice none 0 0, .slice none 0 0, .int .i64 0]) 9 128 Try.underlying22 hi0 hz0 hz1 hz2 rfl (by decide) _ _ _ rfl (hown.alloc _) ⟨wr.heap.size, 0, none⟩ 1 1 (travC k b n f s B len c P pl pc T tl tc q) rfl rfl ?k1 ?k2 ?k3 ?k4 ?k5 ?_)
            case k2 => exact ⟨rfl, rfl, rfl, rfl, rfl, rfl, rfl, rfl, rfl⟩
            case k3 => unfold maxLen; omega
            case k4 => omega
            case k5 => have := hbr.size; simp; omega
            intro v' w6 hown6 hgrow _
            have bel6 : Below w2.heap.size w2 w6 := (hbr.alloc hbr.size _).grown hgrow (by have := hbr.size; simp; omega) fun k hk => (hown.lt k hk).1
            clear hgrow hown
            go_wp2_with fail
            refine ⟨⟨i + 1, ws ++ [t], _, rfl, hin, ?_, by simp; omega, by simpa using hown6, hrow.snoc ht, bel6⟩, by simp [intOf]; omega⟩
            show _ = _
            rw [hst.out, if_pos (by omega), ← hws.out]
          · skip
            go_wp2_with fail
            refine ⟨⟨i + 1, ws, xs, rfl, hin, ?_, by omega, hown, hrow, hbr⟩, by simp [intOf]; omega⟩
            show _ = _
            rw [hst.out, if_neg (by omega), ← hws.out, List.append_nil]
      · skip
        go_wp2_with fail
        refine ⟨⟨i + 1, ws, xs, rfl, hin, ?_, by omega, hown, hrow, hbr⟩, by simp [intOf]; omega⟩
        show _ = _
        rw [hst.out, if_neg (by omega), ← hws.out, List.append_nil]
    · have hin' : ¬ (i : Int) < N := by omega
      have he := hws.out
      rw [List.take_of_length_le (by rw [hN'.out]; omega)] at he
      have hrow := hrow.keep hbr
      rw [he] at hown hrow
      obtain ⟨A9, cap9, rfl, hp9, hc9, hm9⟩ := TParts.ofRow hown hrow
      have eM := hM'.out
      rw [eM]
      rw [eM] at hc9
      clear he eM hws hwl hown hrow hp2 hpt hM' hN' hm9
      generalize pickL frm hgh 0 sy = want at *
      have hcW := fun (p : In wr) => cc3 p.w (hbr.trans (p.h.mono hbr.size))
      have hcW0 := hcW ⟨wr, Below.refl _ _⟩
      dsimp only at hcW0
      clear cc3 hcW
      have Br := B2.trans (hbr.mono B2.size)
      go_upto_region 12 with (first | ((with_reducible refine hcW0.mono ?_); rintro e w4 ⟨A4, cap4, rfl, hp4, hc4, hm4, hb4⟩; have hp9 := hp9.keep hb4; (first | ((with_reducible obtain ⟨p, hw''⟩ := In.of2 p hb4); subst hw'') | (obtain ⟨p, hw''⟩ := In.of hb4; subst hw''))) | ((with_reducible refine (cv _ _ _ hp4).mono ?_); rintro e w5 ⟨A5, cap5, rfl, hp5, hc5, hm5, hb5⟩; have hp9 := hp9.keep hb5; have hp4 := hp4.keep hb5; (first | ((with_reducible obtain ⟨p, hw''⟩ := In.of2 p hb5); subst hw'') | (obtain ⟨p, hw''⟩ := In.of hb5; subst hw''))))
      have B5 := p.back Br
      generalize p.w = w5 at *
      have cg5 := fun (p : In w5) => cg p.w A4 cap4 (hp4.keep p.h)
      clear cg cv hcW0
      go_upto_region 14 with (first | ((with_reducible refine (awake_c _).mono ?_); rintro e w3 ⟨rfl, hb3⟩; (first | ((with_reducible obtain ⟨p, hw''⟩ := In.of2 p hb3); subst hw'') | (obtain ⟨p, hw''⟩ := In.of hb3; subst hw''))) | ((with_reducible refine (cg5 _).mono ?_); rintro e w6 ⟨A6, cap6, rfl, hp6, hc6, hm6, hb6⟩; (first | ((with_reducible obtain ⟨p, hw''⟩ := In.of2 p hb6); subst hw'') | (obtain ⟨p, hw''⟩ := In.of hb6; subst hw''))) | ((with_reducible refine (cr _ _ _ _ _ hp6 (hp9.keep p.h)).mono ?_); rintro e w7 ⟨rfl, hb7⟩; (first | ((with_reducible obtain ⟨p, hw''⟩ := In.of2 p hb7); subst hw'') | (obtain ⟨p, hw''⟩ := In.of hb7; subst hw''))))
      have bel0 := p.h
      generalize p.w = w7 at *
      clear cg5 cr hp6
      have hat3 := fun (wx : World) (i : Nat) (h : Below w5.heap.size w5 wx) => hat2 wx A5 A9 i (hp5.keep h) (hp9.keep h)
      clear hat2 hp5 hp9 hp4
      go_wp2_with fail
      go_loopw [13] (fun a13 wr => ∃ i : Nat, a13 = .int .i64 i ∧ i ≤ M ∧ Below w5.heap.size w5 wr) (fun a _ => M - (intOf a).toNat)
      case atStart => exact ⟨0, rfl, Nat.zero_le _, bel0⟩
      case round =>
        clear bel0 hbr hi hin
        obtain ⟨i, rfl, hi, hbr⟩ := hrel
        by_cases hin : i < M
        · have hin' : (i : Int) < M := by omega
          obtain ⟨ad, k, b, n, f, s, B, len, c, ae, k', b', n', f', s', B', len', c', P', pl', pc', T', tl', tc', q', rfl, rfl, hat, hat', cr⟩ := hat3 wr i hbr hin
          obtain ⟨q6, q0, q1, q2, q3, q4, q5⟩ := hat
          obtain ⟨s9, s0, s1, s2, s3, s4, s5, s6, s7, s8⟩ := hat'
          have wi : IntKind.i64.wrap ((i : Int) + 1) = (i : Int) + 1 := by rw [wrap_i64]; omega
          clear hat3
          go_upto_region 17 with fail
          (refine wp_region_flow [] (by kernel_rfl) (by kernel_rfl) ?_; (repeat (((with_reducible refine wpFlow_steps ?_); intro K hK; go_simp; first | (with_reducible refine hK _ ?_; clear hK K) | (apply Exists.intro; (with_reducible refine ⟨fun _ => ⟨?_, _, rfl⟩, hK _ ?_⟩); (· exact rfl); clear hK K) | (apply Exists.intro; (with_reducible refine ⟨fun _ => ⟨_, rfl⟩, hK _ ?_⟩); clear hK K) | (apply Exists.intro; (with_reducible refine ⟨fun _ => ?_, hK _ ?_⟩); (· (with_reducible (first | exact cr _))); clear hK K)))); (refine wpFlow_nil ?_; rintro w1 ⟨q0, hq0⟩; have hb := In.h q0; rw [← hq0] at hb; clear hq0 q0; (first | ((with_reducible obtain ⟨p, hw''⟩ := In.of2 p hb); subst hw'') | (obtain ⟨p, hw''⟩ := In.of hb; subst hw'')); go_simp; intros))
          go_wp2_with fail
          exact ⟨⟨i + 1, rfl, hin, hbr.trans (hb.mono hbr.size)⟩, by simp [intOf]; omega⟩
        · have hin' : ¬ (i : Int) < M := by omega
          clear hat3
          go_wp2_with fail
          go_ret
          exact ⟨rfl, B5.trans (hbr.mono B5.size)⟩
end Go.Proofs.Ytfccplkfdhpdgaa
