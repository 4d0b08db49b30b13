
/-
  trav.Merge.
-/
import Derived.Test.YtfccplkfdhpdgaaTrvD
set_option linter.unusedSimpArgs false
set_option linter.unusedVariables false
namespace Go.Proofs.Ytfccplkfdhpdgaa
open Go.RowKit

def mstep (out : List TravD) (t : TravD) : List TravD := match out.getLast? with
  | some l => if sameT l t then out.dropLast ++ [{ l with bulk := l.bulk + t.bulk }] else out ++ [t]
  | none => [t]
def mergeV (ts : List TravD) : List TravD := ts.foldl mstep []
theorem mergeV_take {ts : List TravD} {i : Nat} {t : TravD} (h : ts[i]? = some t) : mergeV (ts.take (i + 1)) = mstep (mergeV (ts.take i)) t := by
  obtain ⟨hi, rfl⟩ := List.getElem?_eq_some_iff.1 h
  unfold mergeV
  rw [List.take_succ_eq_append_getElem hi, List.foldl_append]
  rfl
/-- a row of one's own, as a slice of traversers -/
theorem TParts.ofRow {w : World} {base : Nat} {v : Value} {ys : List TravD} {xs : List Value} (ho : w.ownsRow base 34 9 v ys.length xs) (hr : TRow w ys xs) : ∃ A cap, v = .slice A ys.length cap ∧ TParts w A ys ∧ ys.length ≤ cap ∧ cap ≤ maxLen := by
  rcases ho.2 with ⟨hv, hn⟩ | ⟨g, cap, cur, hv, hb, hc, hn, hm, hs, ht⟩
  · have e : ys = [] := List.eq_nil_of_length_eq_zero hn
    subst e
    exact ⟨none, 0, hv, (fun i t h => by simp at h), Nat.le_refl _, Nat.zero_le _⟩
  · refine ⟨some ⟨g, 0, none⟩, cap, hv, fun i t hi => ?_, hn, hm⟩
    obtain ⟨k, b, n, f, s, B, len, c, P, pl, pc, T, tl, tc, q, h1, h2⟩ := hr.2 i t hi
    have hil : i < ys.length := (List.getElem?_eq_some_iff.1 hi).1
    have hcell : ∀ j u, (travC k b n f s B len c P pl pc T tl tc q)[j]? = some u → w.cell? ⟨g, i * 9 + j, none⟩ = some u := fun j u hu => by
      have h3 := h2 j u hu
      rw [hv] at ho
      have hlt : i * 9 + j < ys.length * 9 := by have := (List.getElem?_eq_some_iff.1 h3).1; rw [hr.1] at this; exact this
      rw [ho.cellAt (i * 9 + j) hlt]
      exact h3
    have ha : (⟨g, 0, none⟩ : Addr).add (i * 9) = ⟨g, i * 9, none⟩ := by cases i with | zero => rfl | succ i => simp [Addr.add]
    have e0 := hcell 0 _ rfl
    refine ⟨⟨g, 0, none⟩, k, b, n, f, s, B, len, c, P, pl, pc, T, tl, tc, q, rfl, h1, ?_⟩
    rw [ha]
    exact ⟨cell_lt' e0, e0, hcell 1 _ rfl, hcell 2 _ rfl, hcell 3 _ rfl, hcell 4 _ rfl, hcell 5 _ rfl, hcell 6 _ rfl, hcell 7 _ rfl, hcell 8 _ rfl⟩

theorem TRow.setLast {w : World} {ys : List TravD} {l : TravD} {xs : List Value} (h : TRow w (ys ++ [l]) xs) (q : Int) (hq : I64 q) : TRow w (ys ++ [{ l with bulk := q }]) (xs.set (ys.length * 9 + 8) (.int .i64 q)) := by
  have hlen := h.1
  rw [List.length_append, List.length_singleton] at hlen
  refine ⟨by rw [List.length_set, hlen]; simp, fun i t hi => ?_⟩
  by_cases hl : i < ys.length
  · rw [List.getElem?_append_left hl] at hi
    obtain ⟨k, b, n, f, s, B, len, c, P, pl, pc, T, tl, tc, q', h1, h2⟩ := h.2 i t (by rw [List.getElem?_append_left hl]; exact hi)
    refine ⟨k, b, n, f, s, B, len, c, P, pl, pc, T, tl, tc, q', h1, fun j u hu => ?_⟩
    have hj : j < 9 := (List.getElem?_eq_some_iff.1 hu).1
    rw [List.getElem?_set_ne (by omega)]
    exact h2 j u hu
  · have hl2 : i = ys.length := by
      have := (List.getElem?_eq_some_iff.1 hi).1
      simp at this; omega
    subst hl2
    simp at hi
    subst hi
    obtain ⟨k, b, n, f, s, B, len, c, P, pl, pc, T, tl, tc, q', h1, h2⟩ := h.2 ys.length l (by simp)
    refine ⟨k, b, n, f, s, B, len, c, P, pl, pc, T, tl, tc, q, ⟨h1.hv, h1.hp, h1.epl, h1.hpc, h1.hpm, h1.ht, h1.etl, h1.htc, h1.htm, rfl, hq⟩, fun j u hu => ?_⟩
    by_cases h8 : j = 8
    · subst h8
      simp at hu
      subst hu
      rw [List.getElem?_set_self (by omega)]
    · have hj : j < 9 := (List.getElem?_eq_some_iff.1 hu).1
      rw [List.getElem?_set_ne (by omega)]
      refine h2 j u ?_
      match j, h8, hj, hu with
      | 0, _, _, hu => exact hu
      | 1, _, _, hu => exact hu
      | 2, _, _, hu => exact hu
      | 3, _, _, hu => exact hu
      | 4, _, _, hu => exact hu
      | 5, _, _, hu => exact hu
      | 6, _, _, hu => exact hu
      | 7, _, _, hu => exact hu
      | j' + 8, h8, hj, _ => omega

def MergeEnds (ts : List TravD) (w : World) (e : Ending) (w' : World) : Prop := ∃ v xs, e = .returned v ∧ w'.ownsRow w.heap.size 34 9 v (mergeV ts).length xs ∧ TRow w' (mergeV ts) xs ∧ Below w.heap.size w w'
set_option maxRecDepth 8000 in
set_option maxHeartbeats 4000000 in
theorem merge_c (A : Option Addr) (cap : Nat) (ts : List TravD) (w : World) (hx : TParts w A ts) (hl : ts.length ≤ cap) (hcap : cap ≤ maxLen) (hn : ts.length ≤ 100) (hq : ∀ t ∈ ts, 0 ≤ t.bulk ∧ t.bulk ≤ 100) :
    Calls Try.prog 10 #[.slice A ts.length cap] w (MergeEnds ts w) := by
  unfold maxLen at hcap
  obtain ⟨i0, hi0, hz0, hz1, hz2⟩ := info_parts Try.info34
  go_enter Try.func10, Try.ntmps10
  go_wp2_with fail
  go_loopw [3, 9] (fun a3 a9 wr => ∃ (i : Nat) (ys : List TravD) (xs : List Value), a9 = .int .i64 i ∧ i ≤ ts.length ∧ Hid (ys = mergeV (ts.take i)) ∧ ys.length ≤ i ∧ wr.ownsRow w.heap.size 34 9 a3 ys.length xs ∧ TRow w ys xs ∧ (∀ t ∈ ys, 0 ≤ t.bulk ∧ t.bulk ≤ 100 * i) ∧ Below w.heap.size w wr) (fun _ a _ => ts.length - (intOf a).toNat)
  case atStart => exact ⟨0, [], [], rfl, Nat.zero_le _, rfl, Nat.zero_le _, World.ownsRow_nil _ _ _ _, TRow.nil _, (fun t h => by cases h), Below.refl _ _⟩
  case round =>
    obtain ⟨i, ys, xs, rfl, hi, hys, hyl, hown, hrow, hbq, hbr⟩ := hrel
    by_cases hil : i < ts.length
    · have hil' : (i : Int) < ts.length := by omega
      obtain ⟨ad, k, b, n, f, s, B, len, c, P, pl, pc, T, tl, tc, q, rfl, ht, hat⟩ := hx i ts[i] (by simp)
      obtain ⟨q9, q0, q1, q2, q3, q4, q5, q6, q7, q8⟩ := hat.keep hbr
      have hmt := mergeV_take (ts := ts) (i := i) (t := ts[i]) (by simp)
      have hqt := hq ts[i] (List.getElem_mem _)
      generalize ts[i] = t at *
      have hbulk := ht.ebq
      subst hbulk
      rcases List.eq_nil_or_concat ys with hnil | ⟨ys', l, hcon⟩
      · subst hnil
        obtain ⟨ao, capo, rfl⟩ : ∃ ao capo, u3 = .slice ao 0 capo := by
          rcases hown.2 with ⟨hv, _⟩ | ⟨g, cap, cur, hv, _⟩
          · exact ⟨_, _, hv⟩
          · exact ⟨_, _, hv⟩
        have wi : IntKind.i64.wrap ((i : Int) + 1) = (i : Int) + 1 := by rw [wrap_i64]; omega
        clear hat
        go_upto_region 6 with fail
        obtain ⟨wa, hwa⟩ : ∃ wa, wa = wr.alloc (.cells #[.int .i64 k, .bool b, .int .i64 n, .float .f64 f, .string (st s), .slice B len c, .slice P pl pc, .slice T tl tc, .int .i64 t.bulk] 34) := ⟨_, rfl⟩
        have hba : Below wr.heap.size wr wa := hwa ▸ below_alloc wr _
        have z9 : wr.heap.size < wa.heap.size := by rw [hwa]; simp
        have hz : ∀ j u, (travC k b n f s B len c P pl pc T tl tc t.bulk)[j]? = some u → wa.cell? ⟨wr.heap.size, j, none⟩ = some u := fun j u hu => by
          rw [hwa, World.cell?]
          have : (wr.alloc (.cells #[.int .i64 k, .bool b, .int .i64 n, .float .f64 f, .string (st s), .slice B len c, .slice P pl pc, .slice T tl tc, .int .i64 t.bulk] 34)).heap[wr.heap.size]? = some (.cells #[.int .i64 k, .bool b, .int .i64 n, .float .f64 f, .string (st s), .slice B len c, .slice P pl pc, .slice T tl tc, .int .i64 t.bulk] 34) := by
            show (wr.heap.push _)[wr.heap.size]? = _
            simp
          simp only [this]
          simpa using hu
        have z0 := hz 0 _ rfl
        have z1 := hz 1 _ rfl
        have z2 := hz 2 _ rfl
        have z3 := hz 3 _ rfl
        have z4 := hz 4 _ rfl
        have z5 := hz 5 _ rfl
        have z6 := hz 6 _ rfl
        have z7 := hz 7 _ rfl
        have z8 := hz 8 _ rfl
        have bela : Below w.heap.size w wa := hbr.trans (hba.mono hbr.size)
        have owna := own_below hown hba
        rw [← hwa]
        clear hwa hz q0 q1 q2 q3 q4 q5 q6 q7 q8
        (refine wp_region_flow [] (by kernel_rfl) (by kernel_rfl) ?_; (repeat (((with_reducible refine wpFlow_steps ?_); intro K hK; go_simp; first | (with_reducible refine hK _ ?_; clear hK K) | (apply Exists.intro; (with_reducible refine ⟨fun _ => ⟨?_, _, rfl⟩, hK _ ?_⟩); (· exact rfl); clear hK K) | (apply Exists.intro; (with_reducible refine ⟨fun _ => ⟨_, rfl⟩, hK _ ?_⟩); clear hK K) | (apply Exists.intro; (with_reducible refine ⟨fun _ => ?_, hK _ ?_⟩); (· (with_reducible (fail))); clear hK K)))); (refine wpFlow_nil ?_; rintro w1 ⟨q0, hq0⟩; have hb := In.h q0; rw [← hq0] at hb; clear hq0 q0; (first | ((with_reducible obtain ⟨p, hw''⟩ := In.of2 p hb); subst hw'') | (obtain ⟨p, hw''⟩ := In.of hb; subst hw'')); go_simp; intros))
        have own6 := own_below owna hb
        have bel6 := bela.trans (hb.mono bela.size)
        go_wp2_with (at_builtin; refine wpList_append_own _ rfl _ _ 22 rfl w.heap.size 34 i0 (.agg #[.int .i64 0, .bool false, .int .i64 0, .float .f64 0, .string ByteArray.empty, .slice none 0 0, .slice none 0 0, .slice none 0 0, .int .i64 0]) 9 128 Try.underlying22 hi0 hz0 hz1 hz2 rfl (by decide) _ _ _ rfl (own6.alloc _) ⟨p.w.heap.size, 0, none⟩ 1 1 (travC k b n f s B len c P pl pc T tl tc t.bulk) rfl rfl ?e1 ?e2 ?e3 ?e4 ?e5 ?_)
        case e1 =>
          intro j u hj
          match j, hj with
          | 0, hj => simp at hj; subst hj; simp [Addr.add, go_sem]
          | 1, hj => simp at hj; subst hj; simp [Addr.add, go_sem]
          | 2, hj => simp at hj; subst hj; simp [Addr.add, go_sem]
          | 3, hj => simp at hj; subst hj; simp [Addr.add, go_sem]
          | 4, hj => simp at hj; subst hj; simp [Addr.add, go_sem]
          | 5, hj => simp at hj; subst hj; simp [Addr.add, go_sem]
          | 6, hj => simp at hj; subst hj; simp [Addr.add, go_sem]
          | 7, hj => simp at hj; subst hj; simp [Addr.add, go_sem]
          | 8, hj => simp at hj; subst hj; simp [Addr.add, go_sem]
        case e2 => intro u hu; simp only [List.mem_cons, List.not_mem_nil, or_false] at hu; rcases hu with rfl | rfl | rfl | rfl | rfl | rfl | rfl | rfl | rfl <;> rfl
        case e3 => show 0 + 1 ≤ maxLen; unfold maxLen; omega
        case e4 => show (0 + 1) * 128 ≤ _; omega
        case e5 => have := bel6.size; simp; omega
        intro v' w6 hown' hgrow _
        have bel7 : Below w.heap.size w w6 := (bel6.alloc bel6.size _).grown hgrow (by have := bel6.size; simp; omega) fun k hk => (own6.lt k hk).1
        clear hgrow own6
        go_wp2_with fail
        refine ⟨⟨i + 1, [t], _, rfl, hil, ?_, by simp, by simpa using hown', hrow.snoc ht, ?_, bel7⟩, by simp [intOf]; omega⟩
        · show _ = _
          rw [hmt, ← hys.out]
          simp [mstep]
        · intro t2 ht2
          rw [List.mem_singleton.1 ht2]; omega
      · rw [List.concat_eq_append] at hcon
        subst hcon
        obtain ⟨g, capo, rfl⟩ : ∃ g capo, u3 = .slice (some ⟨g, 0, none⟩) (ys' ++ [l]).length capo := by
          rcases hown.2 with ⟨hv, hn⟩ | ⟨g, cap, cur, hv, _⟩
          · simp at hn
          · exact ⟨g, cap, hv⟩
        obtain ⟨k', b', n', f', s', B', len', c', P', pl', pc', T', tl', tc', q', hlT, hlx⟩ := hrow.2 ys'.length l (by simp)
        have hcell : ∀ j u, (travC k' b' n' f' s' B' len' c' P' pl' pc' T' tl' tc' q')[j]? = some u → wr.cell? ⟨g, ys'.length * 9 + j, none⟩ = some u := fun j u hu => by
          have h3 := hlx j u hu
          have hlt : ys'.length * 9 + j < (ys' ++ [l]).length * 9 := by have := (List.getElem?_eq_some_iff.1 h3).1; rw [hrow.1] at this; exact this
          rw [hown.cellAt _ hlt]
          exact h3
        have r0 := hcell 0 _ rfl
        have r1 := hcell 1 _ rfl
        have r2 := hcell 2 _ rfl
        have r3 := hcell 3 _ rfl
        have r4 := hcell 4 _ rfl
        have r5 := hcell 5 _ rfl
        have r6 := hcell 6 _ rfl
        have r7 := hcell 7 _ rfl
        have r8 := hcell 8 _ rfl
        have r9 := cell_lt' r0
        rw [Nat.add_zero] at r0
        have hyn : (ys' ++ [l]).length = ys'.length + 1 := by simp
        rw [hyn] at hown hyl ⊢
        have wn : IntKind.i64.wrap ((ys'.length : Int) + 1 - 1) = (ys'.length : Int) := by rw [wrap_i64]; omega
        have wn2 : IntKind.i64.wrap (ys'.length : Int) = (ys'.length : Int) := by rw [wrap_i64]; omega
        have hbulk' := hlT.ebq
        subst hbulk'
        clear hat
        go_upto_region 6 with fail
        obtain ⟨wa, hwa⟩ : ∃ wa, wa = wr.alloc (.cells #[.int .i64 k, .bool b, .int .i64 n, .float .f64 f, .string (st s), .slice B len c, .slice P pl pc, .slice T tl tc, .int .i64 t.bulk] 34) := ⟨_, rfl⟩
        have hba : Below wr.heap.size wr wa := hwa ▸ below_alloc wr _
        have z9 : wr.heap.size < wa.heap.size := by rw [hwa]; simp
        have hz : ∀ j u, (travC k b n f s B len c P pl pc T tl tc t.bulk)[j]? = some u → wa.cell? ⟨wr.heap.size, j, none⟩ = some u := fun j u hu => by
          rw [hwa, World.cell?]
          have : (wr.alloc (.cells #[.int .i64 k, .bool b, .int .i64 n, .float .f64 f, .string (st s), .slice B len c, .slice P pl pc, .slice T tl tc, .int .i64 t.bulk] 34)).heap[wr.heap.size]? = some (.cells #[.int .i64 k, .bool b, .int .i64 n, .float .f64 f, .string (st s), .slice B len c, .slice P pl pc, .slice T tl tc, .int .i64 t.bulk] 34) := by
            show (wr.heap.push _)[wr.heap.size]? = _
            simp
          simp only [this]
          simpa using hu
        have z0 := hz 0 _ rfl
        have z1 := hz 1 _ rfl
        have z2 := hz 2 _ rfl
        have z3 := hz 3 _ rfl
        have z4 := hz 4 _ rfl
        have z5 := hz 5 _ rfl
        have z6 := hz 6 _ rfl
        have z7 := hz 7 _ rfl
        have z8 := hz 8 _ rfl
        have y0 := (hba.cell (p := ⟨g, ys'.length * 9, none⟩) r9).trans r0
        have y1 := (hba.cell (p := ⟨g, ys'.length * 9 + 1, none⟩) r9).trans r1
        have y2 := (hba.cell (p := ⟨g, ys'.length * 9 + 2, none⟩) r9).trans r2
        have y3 := (hba.cell (p := ⟨g, ys'.length * 9 + 3, none⟩) r9).trans r3
        have y4 := (hba.cell (p := ⟨g, ys'.length * 9 + 4, none⟩) r9).trans r4
        have y5 := (hba.cell (p := ⟨g, ys'.length * 9 + 5, none⟩) r9).trans r5
        have y6 := (hba.cell (p := ⟨g, ys'.length * 9 + 6, none⟩) r9).trans r6
        have y7 := (hba.cell (p := ⟨g, ys'.length * 9 + 7, none⟩) r9).trans r7
        have y8 := (hba.cell (p := ⟨g, ys'.length * 9 + 8, none⟩) r9).trans r8
        have y9 := Nat.lt_of_lt_of_le r9 hba.size
        have bela : Below w.heap.size w wa := hbr.trans (hba.mono hbr.size)
        have owna := own_below hown hba
        have cs : ∀ p : In wa, Calls Try.prog 17 #[travV k' b' n' f' s' B' len' c' P' pl' pc' T' tl' tc' l.bulk, travV k b n f s B len c P pl pc T tl tc t.bulk] p.w fun e w' => e = .returned (.bool (sameT l t)) ∧ Below p.w.heap.size p.w w' :=
          fun p => sameT_c l t k' b' n' f' s' B' len' c' P' pl' pc' T' tl' tc' l.bulk k b n f s B len c P pl pc T tl tc t.bulk p.w ((hlT.keep bela).keep p.h) ((ht.keep bela).keep p.h)
        rw [← hwa]
        clear hwa hz hcell r0 r1 r2 r3 r4 r5 r6 r7 r8 q0 q1 q2 q3 q4 q5 q6 q7 q8
        have hpos : 0 < (ys'.length : Int) + 1 := by omega
        have hlt1 : (ys'.length : Int) < (ys'.length : Int) + 1 := by omega
        cases hsm : sameT l t
        · rw [hsm] at cs
          (refine wp_region_flow [] (by kernel_rfl) (by kernel_rfl) ?_; (repeat (((with_reducible refine wpFlow_steps ?_); intro K hK; go_simp; first | (with_reducible refine hK _ ?_; clear hK K) | (apply Exists.intro; (with_reducible refine ⟨fun _ => ⟨?_, _, rfl⟩, hK _ ?_⟩); (· exact rfl); clear hK K) | (apply Exists.intro; (with_reducible refine ⟨fun _ => ⟨_, rfl⟩, hK _ ?_⟩); clear hK K) | (apply Exists.intro; (with_reducible refine ⟨fun _ => ?_, hK _ ?_⟩); (· (with_reducible (first | exact cs _))); clear hK K)))); (refine wpFlow_nil ?_; rintro w1 ⟨q0, hq0⟩; have hb := In.h q0; rw [← hq0] at hb; clear hq0 q0; (first | ((with_reducible obtain ⟨p, hw''⟩ := In.of2 p hb); subst hw'') | (obtain ⟨p, hw''⟩ := In.of hb; subst hw'')); go_simp; intros))
          have own6 := own_below owna hb
          have bel6 := bela.trans (hb.mono bela.size)
          have wi : IntKind.i64.wrap ((i : Int) + 1) = (i : Int) + 1 := by rw [wrap_i64]; omega
          go_wp2_with (at_builtin; refine wpList_append_own _ rfl _ _ 22 rfl w.heap.size 34 i0 (.agg #[.int .i64 0, .bool false, .int .i64 0, .float .f64 0, .string ByteArray.empty, .slice none 0 0, .slice none 0 0, .slice none 0 0, .int .i64 0]) 9 128 Try.underlying22 hi0 hz0 hz1 hz2 rfl (by decide) _ _ _ rfl (own6.alloc _) ⟨p.w.heap.size, 0, none⟩ 1 1 (travC k b n f s B len c P pl pc T tl tc t.bulk) rfl rfl ?d1 ?d2 ?d3 ?d4 ?d5 ?_)
          case d2 => exact ⟨rfl, rfl, rfl, rfl, rfl, rfl, rfl, rfl, rfl⟩
          case d3 => unfold maxLen; omega
          case d4 => omega
          case d5 => have := bel6.size; simp; omega
          intro v' w6 hown' hgrow _
          have bel7 : Below w.heap.size w w6 := (bel6.alloc bel6.size _).grown hgrow (by have := bel6.size; simp; omega) fun k hk => (own6.lt k hk).1
          clear hgrow own6
          go_wp2_with fail
          refine ⟨⟨i + 1, ys' ++ [l] ++ [t], _, rfl, hil, ?_, by simp; omega, by simpa using hown', hrow.snoc ht, ?_, bel7⟩, by simp [intOf]; omega⟩
          · show _ = _
            rw [hmt, ← hys.out]
            simp [mstep, hsm]
          · intro t2 ht2
            rcases List.mem_append.1 ht2 with h | h
            · have := hbq t2 h; omega
            · rw [List.mem_singleton.1 h]; omega
        · rw [hsm] at cs
          (refine wp_region_flow [] (by kernel_rfl) (by kernel_rfl) ?_; (repeat (((with_reducible refine wpFlow_steps ?_); intro K hK; go_simp; first | (with_reducible refine hK _ ?_; clear hK K) | (apply Exists.intro; (with_reducible refine ⟨fun _ => ⟨?_, _, rfl⟩, hK _ ?_⟩); (· exact rfl); clear hK K) | (apply Exists.intro; (with_reducible refine ⟨fun _ => ⟨_, rfl⟩, hK _ ?_⟩); clear hK K) | (apply Exists.intro; (with_reducible refine ⟨fun _ => ?_, hK _ ?_⟩); (· (with_reducible (first | exact cs _))); clear hK K)))); (refine wpFlow_nil ?_; rintro w1 ⟨q0, hq0⟩; have hb := In.h q0; rw [← hq0] at hb; clear hq0 q0; (first | ((with_reducible obtain ⟨p, hw''⟩ := In.of2 p hb); subst hw'') | (obtain ⟨p, hw''⟩ := In.of hb; subst hw'')); go_simp; intros))
          have own6 := own_below owna hb
          have bel6 := bela.trans (hb.mono bela.size)
          go_upto_region 7 with fail
          refine wp_region_flow_last (l := [_, _, _, _, _, _, _, _, _, _, _]) [] (by kernel_rfl) (by kernel_rfl) (by kernel_rfl) ?_
          repeat (((with_reducible refine wpFlow_steps ?_); intro K hK; go_simp; first | (with_reducible refine hK _ ?_; clear hK K) | (apply Exists.intro; (with_reducible refine ⟨fun _ => ⟨?_, _, rfl⟩, hK _ ?_⟩); (· exact rfl); clear hK K) | (apply Exists.intro; (with_reducible refine ⟨fun _ => ⟨_, rfl⟩, hK _ ?_⟩); clear hK K) | (apply Exists.intro; (with_reducible refine ⟨fun _ => ?_, hK _ ?_⟩); (· (with_reducible (fail))); clear hK K)))
          refine wpFlow_nil ?_
          rintro _ ⟨p2, rfl⟩
          have own7 := own_below own6 p2.h
          have bel7 := bel6.trans (p2.h.mono bel6.size)
          have fr := own7.frozenAt (ys'.length * 9 + 8)
          have g9 := Nat.lt_of_lt_of_le (Nat.lt_of_lt_of_le y9 hb.size) p2.h.size
          have v8 := (p2.h.cell (p := ⟨g, ys'.length * 9 + 8, none⟩) (Nat.lt_of_lt_of_le y9 hb.size)).trans ((hb.cell (p := ⟨g, ys'.length * 9 + 8, none⟩) y9).trans y8)
          have hlb := hbq l (by simp)
          have wb : IntKind.i64.wrap (l.bulk + t.bulk) = l.bulk + t.bulk := by rw [wrap_i64]; omega
          have wi : IntKind.i64.wrap ((i : Int) + 1) = (i : Int) + 1 := by rw [wrap_i64]; omega
          have hst := own7.stored (ys'.length * 9 + 8) (.int .i64 (l.bulk + t.bulk))
          have hrow2 := hrow.setLast (l.bulk + t.bulk) ⟨by omega, by omega⟩
          have bel8 : Below w.heap.size w (p2.w.setCell ⟨g, ys'.length * 9 + 8, none⟩ (.int .i64 (l.bulk + t.bulk))) := bel7.setCell ((own7.lt g rfl).1) _
          refine ⟨by kernel_rfl, ?_⟩
          go_simp
          go_wp2_with fail
          refine ⟨⟨i + 1, ys' ++ [{ l with bulk := l.bulk + t.bulk }], _, rfl, hil, ?_, by simp; omega, by simpa using hst.1, hrow2, ?_, bel8⟩, by simp [intOf]; omega⟩
          · show _ = _
            rw [hmt, ← hys.out]
            simp [mstep, hsm]
          · intro t2 ht2
            rcases List.mem_append.1 ht2 with h | h
            · have := hbq t2 (by simp [h]); omega
            · rw [List.mem_singleton.1 h]
              show 0 ≤ l.bulk + t.bulk ∧ l.bulk + t.bulk ≤ _
              omega
    · have hil' : ¬ (i : Int) < ts.length := by omega
      have hie : i = ts.length := by omega
      have he := hys.out
      rw [hie, List.take_length] at he
      clear hx hq
      have fin : MergeEnds ts w (.returned u3) wr := ⟨u3, xs, rfl, he ▸ hown, he ▸ hrow.keep hbr, hbr⟩
      clear he hie
      go_wp2_with fail
      go_ret
      exact fin
end Go.Proofs.Ytfccplkfdhpdgaa
