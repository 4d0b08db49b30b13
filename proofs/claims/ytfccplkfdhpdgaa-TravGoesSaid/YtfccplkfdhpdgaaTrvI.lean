
/-
  The traversers' laws' spread and rows.
-/
import Derived.Test.YtfccplkfdhpdgaaTrvH
set_option linter.unusedSimpArgs false
set_option linter.unusedVariables false
namespace Go.Proofs.Ytfccplkfdhpdgaa
open Go.RowKit

set_option maxRecDepth 8000 in
set_option maxHeartbeats 4000000 in
theorem lspread_c (A : Option Addr) (cap : Nat) (ts : List TravD) (w : World) (hx : TParts w A ts) (hn : ts.length ≤ 1000) (hq : ∀ t ∈ ts, 0 ≤ t.bulk ∧ t.bulk ≤ 10000) :
    Calls Try.prog 14 #[.slice A ts.length cap] w (SpreadEnds ts w) := by
  obtain ⟨i0, hi0, hz0, hz1, hz2⟩ := info_parts Try.info34
  go_enter Try.func14, Try.ntmps14
  go_upto_block 0 with fail
  obtain ⟨w3, hw3⟩ : ∃ w3, w3 = w.alloc (.cells #[] 34) := ⟨_, rfl⟩
  have own3 : w3.ownsRow w.heap.size 34 9 (.slice (some ⟨w.heap.size, 0, none⟩) 0 0) 0 [] := hw3 ▸ owns_empty9 w _ _ (Nat.le_refl _)
  have bel3 : Below w.heap.size w w3 := hw3 ▸ below_alloc w _
  rw [← hw3]
  clear hw3
  go_wp2_with fail
  go_loopw [3, 4] (fun a3 a4 wr => ∃ (i : Nat) (ys : List TravD) (xs : List Value), a4 = .int .i64 i ∧ i ≤ ts.length ∧ Hid (ys = spreadV (ts.take i)) ∧ ys.length ≤ 10000 * i ∧ wr.ownsRow w.heap.size 34 9 a3 ys.length xs ∧ TRow w ys xs ∧ Below w.heap.size w wr) (fun _ a _ => ts.length - (intOf a).toNat)
  case atStart => exact ⟨0, [], [], rfl, Nat.zero_le _, rfl, Nat.zero_le _, own3, TRow.nil _, bel3⟩
  case round =>
    obtain ⟨i, ys, xs, rfl, hi, hys, hyl, hown, hrow, hbr⟩ := hrel
    by_cases hil : i < ts.length
    · have hil' : (i : Int) < ts.length := by omega
      obtain ⟨ad, k, b, n, f, s, B, len, c, P, pl, pc, T, tl, tc, q, rfl, ht, hat⟩ := hx i ts[i] (by simp)
      have hst := Lib.hid (spreadV_take (ts := ts) (i := i) (t := ts[i]) (by simp))
      have hqt := hq ts[i] (List.getElem_mem _)
      generalize ts[i] = t at *
      have hbulk := ht.ebq
      subst hbulk
      obtain ⟨m, hm⟩ : ∃ m : Nat, t.bulk = m := ⟨t.bulk.toNat, by omega⟩
      have ht1 : HasT w k b n f s B len c P pl pc T tl tc 1 (oneB t) := ⟨ht.hv, ht.hp, ht.epl, ht.hpc, ht.hpm, ht.ht, ht.etl, ht.htc, ht.htm, rfl, ⟨by show (-9223372036854775808 : Int) ≤ 1; omega, by show (1 : Int) ≤ 9223372036854775807; omega⟩⟩
      have hmt : t.bulk.toNat = m := by omega
      rw [hmt] at hst
      have hM := Lib.hid hm
      clear hm hmt
      have wi : IntKind.i64.wrap ((i : Int) + 1) = (i : Int) + 1 := by rw [wrap_i64]; omega
      have hcx : ∀ wx, Below w.heap.size w wx → TravAt wx (ad.add (i * 9)) k b n f s B len c P pl pc T tl tc t.bulk := fun wx h => hat.keep h
      clear hat hx hq
      go_wp2_with fail
      go_loopw [3, 5] (fun a3 a5 wx => ∃ (j : Nat) (ys' : List TravD) (xs' : List Value), a5 = .int .i64 j ∧ j ≤ m ∧ Hid (ys' = ys ++ List.replicate j (oneB t)) ∧ ys'.length ≤ 10000 * i + j ∧ wx.ownsRow w.heap.size 34 9 a3 ys'.length xs' ∧ TRow w ys' xs' ∧ Below w.heap.size w wx) (fun _ a _ => m - (intOf a).toNat)
      case atStart => exact ⟨0, ys, xs, rfl, Nat.zero_le _, by show _ = _; simp, by omega, hown, hrow, hbr⟩
      case round =>
        clear hown hbr
        obtain ⟨j, ys', xs', rfl, hj, hys', hyl', hown', hrow', hb'⟩ := hrel
        obtain ⟨q9, q0, q1, q2, q3, q4, q5, q6, q7, q8⟩ := hcx _ hb'
        by_cases hjm : j < m
        · have hjm' : (j : Int) < t.bulk := by have := hM.out; omega
          have wj : IntKind.i64.wrap ((j : Int) + 1) = (j : Int) + 1 := by rw [wrap_i64]; omega
          clear hcx
          go_wp2_with (at_builtin; refine wpList_append_own _ rfl _ _ 22 rfl w.heap.size 34 i0 (.agg #[.int .i64 0, .bool false, .int .i64 0, .float .f64 0, .string ByteArray.empty, .slice none 0 0, .slice none 0 0, .slice none 0 0, .int .i64 0]) 9 128 Try.underlying22 hi0 hz0 hz1 hz2 rfl (by decide) _ _ _ rfl ((hown'.alloc _).alloc _) ⟨wr.heap.size + 1, 0, none⟩ 1 1 (travC k b n f s B len c P pl pc T tl tc 1) rfl rfl ?d1 ?d2 ?d3 ?d4 ?d5 ?_)
          case d1 =>
            intro j u hj
            match j, hj with
            | 0, hj => simp at hj; subst hj; simp [Addr.add, go_sem]
            | 1, hj => simp at hj; subst hj; simp [Addr.add, go_sem]
            | 2, hj => simp at hj; subst hj; simp [Addr.add, go_sem]
            | 3, hj => simp at hj; subst hj; simp [Addr.add, go_sem]
            | 4, hj => simp at hj; subst hj; simp [Addr.add, go_sem]
            | 5, hj => simp at hj; subst hj; simp [Addr.add, go_sem]
            | 6, hj => simp at hj; subst hj; simp [Addr.add, go_sem]
            | 7, hj => simp at hj; subst hj; simp [Addr.add, go_sem]
            | 8, hj => simp at hj; subst hj; simp [Addr.add, go_sem]
          case d2 => intro u hu; simp only [List.mem_cons, List.not_mem_nil, or_false] at hu; rcases hu with rfl | rfl | rfl | rfl | rfl | rfl | rfl | rfl | rfl <;> rfl
          case d3 => unfold maxLen; omega
          case d4 => omega
          case d5 => have := hb'.size; simp; omega
          intro v' w6 hown6 hgrow _
          have bel6 : Below w.heap.size w w6 := ((hb'.alloc hb'.size _).alloc (by have := hb'.size; simp; omega) _).grown hgrow (by have := hb'.size; simp; omega) fun k hk => (hown'.lt k hk).1
          clear hgrow hown'
          go_wp2_with fail
          refine ⟨⟨j + 1, ys' ++ [oneB t], _, rfl, hjm, ?_, by simp; omega, by simpa using hown6, hrow'.snoc ht1, bel6⟩, by simp [intOf]; omega⟩
          show _ = _
          rw [hys'.out, List.replicate_succ', List.append_assoc]
        · have hjm' : ¬ (j : Int) < t.bulk := by have := hM.out; omega
          clear hcx
          go_wp2_with fail
          have hjm2 : j = m := by omega
          refine ⟨⟨i + 1, ys', xs', rfl, hil, ?_, by have := hM.out; omega, hown', hrow', hb'⟩, by simp [intOf]; omega⟩
          show _ = _
          rw [hst.out, ← hys.out, hys'.out, hjm2]
    · have hil' : ¬ (i : Int) < ts.length := by omega
      have he := hys.out
      rw [List.take_of_length_le (by omega)] at he
      have fin : SpreadEnds ts w (.returned u3) wr := ⟨u3, xs, rfl, he ▸ hown, he ▸ hrow.keep hbr, hbr⟩
      clear he hx hq
      go_wp2_with fail
      go_ret
      exact fin

theorem rowT_no {x y : TravD} (h : sameT x y = false) : rowT x y = false := by simp [rowT, h]
theorem rowT_bulk {x y : TravD} (h : sameT x y = true) : rowT x y = !(x.bulk != y.bulk) := by simp [rowT, h, bne]
set_option maxRecDepth 8000 in
set_option maxHeartbeats 4000000 in
theorem rows_c (la lb : List TravD) (A B : Option Addr) (capa capb : Nat) (w : World) (hpa : TParts w A la) (hpb : TParts w B lb) (hma : la.length ≤ maxLen) :
    Calls Try.prog 12 #[.slice A la.length capa, .slice B lb.length capb] w fun e w' => e = .returned (.bool (rowsT la lb)) ∧ Below w.heap.size w w' := by
  unfold maxLen at hma
  by_cases hll : la.length = lb.length
  · have hne : ((la.length : Int) != lb.length) = false := by simp; omega
    go_enter Try.func12, Try.ntmps12
    have hL := Lib.hid hll
    clear hll
    go_wp2_with fail
    clear hne
    go_loopw [5] (fun a5 wr => ∃ i : Nat, a5 = .int .i64 i ∧ i ≤ la.length ∧ Hid (eqBy rowT la lb = eqBy rowT (la.drop i) (lb.drop i)) ∧ Below w.heap.size w wr) (fun a _ => la.length - (intOf a).toNat)
    case atStart => exact ⟨0, rfl, Nat.zero_le _, rfl, Below.refl _ _⟩
    case round =>
      obtain ⟨i, rfl, hia, hcm, hbr⟩ := hrel
      by_cases hin : i < la.length
      · have hla' : (i : Int) < la.length := by omega
        have hib : i < lb.length := by have := hL.out; omega
        have hlb' : (i : Int) < lb.length := by omega
        obtain ⟨ad, k, b, n, f, s, C, len, c, P, pl, pc, T, tl, tc, q, rfl, hx, hat⟩ := hpa i la[i] (by simp)
        obtain ⟨ae, k', b', n', f', s', C', len', c', P', pl', pc', T', tl', tc', q', rfl, hy, hau⟩ := hpb i lb[i] (by simp)
        obtain ⟨q9, q0, q1, q2, q3, q4, q5, q6, q7, q8⟩ := hat.keep hbr
        obtain ⟨s9, s0, s1, s2, s3, s4, s5, s6, s7, s8⟩ := hau.keep hbr
        have wi : IntKind.i64.wrap ((i : Int) + 1) = (i : Int) + 1 := by rw [wrap_i64]; omega
        have hst := Lib.hid (eqBy_step rowT (la := la) (lb := lb) (i := i) (x := la[i]) (y := lb[i]) (by simp) (by simp))
        have cr : ∀ p : In wr, Calls Try.prog 16 #[travV k b n f _ C len c P pl pc T tl tc q, travV k' b' n' f' _ C' len' c' P' pl' pc' T' tl' tc' q'] p.w fun e w' => e = .returned (.bool (sameT la[i] lb[i])) ∧ Below p.w.heap.size p.w w' :=
          fun p => lsame_c la[i] lb[i] k b n f _ C len c P pl pc T tl tc q k' b' n' f' _ C' len' c' P' pl' pc' T' tl' tc' q' p.w ((hx.keep hbr).keep p.h) ((hy.keep hbr).keep p.h)
        generalize la[i] = x at *
        generalize lb[i] = y at *
        have eq1 := hx.ebq
        have eq2 := hy.ebq
        subst eq1 eq2
        clear hx hy hat hau hpa hpb
        cases hs : sameT x y
        · rw [hs] at cr
          have hF := Lib.hid (rowT_no hs)
          go_upto_region 6 with fail
          (refine wp_region_flow [] (by kernel_rfl) (by kernel_rfl) ?_; (repeat (((with_reducible refine wpFlow_steps ?_); intro K hK; go_simp; first | (with_reducible refine hK _ ?_; clear hK K) | (apply Exists.intro; (with_reducible refine ⟨fun _ => ⟨?_, _, rfl⟩, hK _ ?_⟩); (· exact rfl); clear hK K) | (apply Exists.intro; (with_reducible refine ⟨fun _ => ⟨_, rfl⟩, hK _ ?_⟩); clear hK K) | (apply Exists.intro; (with_reducible refine ⟨fun _ => ?_, hK _ ?_⟩); (· (with_reducible (first | exact cr _))); clear hK K)))); (refine wpFlow_nil ?_; rintro w1 ⟨q0, hq0⟩; have hb := In.h q0; rw [← hq0] at hb; clear hq0 q0; (first | ((with_reducible obtain ⟨p, hw''⟩ := In.of2 p hb); subst hw'') | (obtain ⟨p, hw''⟩ := In.of hb; subst hw'')); go_simp; intros))
          go_wp2_with fail
          go_ret
          exact ⟨ret_bool (by unfold rowsT; rw [hcm.out, hst.out, hF.out]; rfl), p.back hbr⟩
        · rw [hs] at cr
          have hF := Lib.hid (rowT_bulk hs)
          cases hq : (x.bulk != y.bulk)
          · rw [hq] at hF
            go_upto_region 6 with fail
            (refine wp_region_flow [] (by kernel_rfl) (by kernel_rfl) ?_; (repeat (((with_reducible refine wpFlow_steps ?_); intro K hK; go_simp; first | (with_reducible refine hK _ ?_; clear hK K) | (apply Exists.intro; (with_reducible refine ⟨fun _ => ⟨?_, _, rfl⟩, hK _ ?_⟩); (· exact rfl); clear hK K) | (apply Exists.intro; (with_reducible refine ⟨fun _ => ⟨_, rfl⟩, hK _ ?_⟩); clear hK K) | (apply Exists.intro; (with_reducible refine ⟨fun _ => ?_, hK _ ?_⟩); (· (with_reducible (first | exact cr _))); clear hK K)))); (refine wpFlow_nil ?_; rintro w1 ⟨q0, hq0⟩; have hb := In.h q0; rw [← hq0] at hb; clear hq0 q0; (first | ((with_reducible obtain ⟨p, hw''⟩ := In.of2 p hb); subst hw'') | (obtain ⟨p, hw''⟩ := In.of hb; subst hw'')); go_simp; intros))
            go_wp2_with fail
            refine ⟨⟨i + 1, rfl, hin, ?_, hbr.trans (hb.mono hbr.size)⟩, by simp [intOf]; omega⟩
            show _ = _
            rw [hcm.out, hst.out, hF.out]; rfl
          · rw [hq] at hF
            go_upto_region 6 with fail
            (refine wp_region_flow [] (by kernel_rfl) (by kernel_rfl) ?_; (repeat (((with_reducible refine wpFlow_steps ?_); intro K hK; go_simp; first | (with_reducible refine hK _ ?_; clear hK K) | (apply Exists.intro; (with_reducible refine ⟨fun _ => ⟨?_, _, rfl⟩, hK _ ?_⟩); (· exact rfl); clear hK K) | (apply Exists.intro; (with_reducible refine ⟨fun _ => ⟨_, rfl⟩, hK _ ?_⟩); clear hK K) | (apply Exists.intro; (with_reducible refine ⟨fun _ => ?_, hK _ ?_⟩); (· (with_reducible (first | exact cr _))); clear hK K)))); (refine wpFlow_nil ?_; rintro w1 ⟨q0, hq0⟩; have hb := In.h q0; rw [← hq0] at hb; clear hq0 q0; (first | ((with_reducible obtain ⟨p, hw''⟩ := In.of2 p hb); subst hw'') | (obtain ⟨p, hw''⟩ := In.of hb; subst hw'')); go_simp; intros))
            go_wp2_with fail
            go_ret
            exact ⟨ret_bool (by unfold rowsT; rw [hcm.out, hst.out, hF.out]; rfl), p.back hbr⟩
      · have hla' : ¬ (i : Int) < la.length := by omega
        have hF := Lib.hid (hcm.out.trans (eqBy_end rowT (by omega) hL.out))
        clear hpa hpb
        go_wp2_with fail
        go_ret
        exact ⟨ret_bool hF.out.symm, hbr⟩
  · have hne : ((la.length : Int) != lb.length) = true := by simp; omega
    have hF := Lib.hid (eqBy_len rowT la lb hll)
    clear hpa hpb hll
    go_enter Try.func12, Try.ntmps12
    go_wp2_with fail
    go_ret
    exact ⟨ret_bool hF.out.symm, Below.refl _ _⟩
end Go.Proofs.Ytfccplkfdhpdgaa
