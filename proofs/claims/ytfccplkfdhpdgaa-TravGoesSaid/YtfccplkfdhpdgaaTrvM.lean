
/-
  The walks of TravMerges and TravAgain.
-/
import Derived.Test.YtfccplkfdhpdgaaTrvI
import Derived.Test.YtfccplkfdhpdgaaTrvT
set_option linter.unusedSimpArgs false
set_option linter.unusedVariables false
namespace Go.Proofs.Ytfccplkfdhpdgaa
open Go.RowKit

/-- a slice of traversers of which it is known what they are -/
def RowEnds (ys : List TravD) (n : Nat) (w : World) (e : Ending) (w' : World) : Prop := ∃ A cap, e = .returned (.slice A n cap) ∧ TParts w' A ys ∧ n ≤ cap ∧ cap ≤ maxLen ∧ Below w.heap.size w w'
theorem RowEnds.spread {ts : List TravD} {n : Nat} (hn : (spreadV ts).length = n) {w : World} {e : Ending} {w' : World} (h : SpreadEnds ts w e w') : RowEnds (spreadV ts) n w e w' := by
  obtain ⟨v, xs, rfl, ho, hr, hb⟩ := h
  obtain ⟨A, cap, rfl, h1, h2, h3⟩ := TParts.ofRow ho hr
  subst hn
  exact ⟨A, cap, rfl, h1, h2, h3, hb⟩
theorem RowEnds.merge {ts : List TravD} {n : Nat} (hn : (mergeV ts).length = n) {w : World} {e : Ending} {w' : World} (h : MergeEnds ts w e w') : RowEnds (mergeV ts) n w e w' := by
  obtain ⟨v, xs, rfl, ho, hr, hb⟩ := h
  obtain ⟨A, cap, rfl, h1, h2, h3⟩ := TParts.ofRow ho hr
  subst hn
  exact ⟨A, cap, rfl, h1, h2, h3, hb⟩
/-- what the laws' cut leaves -/
def CutRow (w : World) (e : Ending) (w' : World) : Prop := ∃ A cap ys, e = .returned (.slice A (List.length ys) cap) ∧ TParts w' A ys ∧ ys.length ≤ cap ∧ cap ≤ maxLen ∧ ys.length ≤ 12 ∧ (∀ t ∈ ys, Small t) ∧ Below w.heap.size w w'
theorem cut_row (A : Option Addr) (cap : Nat) (ts : List TravD) (w : World) (hx : TParts w A ts) (hl : ts.length ≤ cap) (hcap : cap ≤ maxLen) :
    Calls Try.prog 9 #[.slice A ts.length cap] w (CutRow w) := by
  refine (cut_c A cap ts w hx hl hcap).mono ?_
  rintro e w8 ⟨v, ys, xs, rfl, own8, h12, hs, row8, hb8⟩
  obtain ⟨A8, c8, rfl, hp8, hc8, hm8⟩ := TParts.ofRow own8 row8
  exact ⟨A8, c8, ys, rfl, hp8, hc8, hm8, h12, hs, hb8⟩
theorem mstep_len (out : List TravD) (t : TravD) : (mstep out t).length ≤ out.length + 1 := by
  rcases List.eq_nil_or_concat out with he | ⟨ys, l, he⟩
  · subst he; simp [mstep_nil]
  · rw [List.concat_eq_append] at he
    subst he
    rw [mstep_snoc]
    split <;> simp
theorem foldl_len (ts : List TravD) : ∀ out, (ts.foldl mstep out).length ≤ out.length + ts.length := by
  induction ts with
  | nil => intro out; simp
  | cons t ts ih => intro out; rw [List.foldl_cons, List.length_cons]; have := ih (mstep out t); have := mstep_len out t; omega
theorem mergeV_len (ts : List TravD) : (mergeV ts).length ≤ ts.length := by have := foldl_len ts []; simpa [mergeV] using this
theorem sumB_bound : ∀ {ts : List TravD}, (∀ t ∈ ts, Small t) → sumB ts ≤ 4 * ts.length
  | [], _ => by simp [sumB]
  | t :: ts, h => by
    have h1 := (h t (by simp)).hi
    have h2 := sumB_bound (ts := ts) fun x hx => h x (by simp [hx])
    simp only [sumB, List.length_cons]
    omega
theorem sumB_mem : ∀ {ts : List TravD}, Ones ts → ∀ t ∈ ts, t.bulk ≤ sumB ts
  | [], _, t, h => by cases h
  | x :: ts, h, t, ht => by
    have h0 := h x (by simp)
    have hr : Ones ts := fun y hy => h y (by simp [hy])
    have hp : 0 ≤ sumB ts := by
      have := spreadV_len hr; omega
    rcases List.mem_cons.1 ht with rfl | h1
    · simp only [sumB]; omega
    · have := sumB_mem hr t h1
      simp only [sumB]; omega
theorem mergeV_bulk {ts : List TravD} (hs : ∀ t ∈ ts, Small t) (hl : ts.length ≤ 12) : ∀ t ∈ mergeV ts, 0 ≤ t.bulk ∧ t.bulk ≤ 100 := by
  intro t ht
  have ho : Ones ts := fun t ht => (hs t ht).lo
  have h1 := mergeV_ones ho t ht
  have h2 := sumB_mem (mergeV_ones ho) t ht
  rw [mergeV_sum] at h2
  have h3 := sumB_bound hs
  omega

set_option maxRecDepth 8000 in
set_option maxHeartbeats 4000000 in
theorem travMerges_walk (A : Option Addr) (cap : Nat) (ts : List TravD) (w : World) (hx : TParts w A ts) (hl : ts.length ≤ cap) (hcap : cap ≤ maxLen) :
    Calls Try.prog 3 #[.slice A ts.length cap] w fun e w' => e = .returned (.bool true) ∧ Below w.heap.size w w' := by
  have c1 := cut_row A cap ts w hx hl hcap
  clear hx hl hcap
  go_enter Try.func3, Try.ntmps3
  go_upto_region 2 with ((with_reducible refine c1.mono ?_); rintro e w1 ⟨A1, cap1, ys, rfl, hp1, hyc, hcm, h12, hsm, hb1⟩)
  clear c1
  have ho : Ones ys := fun t ht => (hsm t ht).lo
  have hq100 : ∀ t ∈ ys, 0 ≤ t.bulk ∧ t.bulk ≤ 100 := fun t ht => ⟨by have := (hsm t ht).lo; omega, by have := (hsm t ht).hi; omega⟩
  have hqm := mergeV_bulk hsm h12
  have hml := mergeV_len ys
  have hqm4 : ∀ t ∈ mergeV ys, 0 ≤ t.bulk ∧ t.bulk ≤ 10000 := fun t ht => ⟨(hqm t ht).1, by have := (hqm t ht).2; omega⟩
  have hq4 : ∀ t ∈ ys, 0 ≤ t.bulk ∧ t.bulk ≤ 10000 := fun t ht => ⟨(hq100 t ht).1, by have := (hq100 t ht).2; omega⟩
  have hsp := mergeV_spread ho
  have hsl := eqBy_true_len hsp
  have hap := mergeV_apart ys
  have hsum : sumB (mergeV ys) = ((spreadV ys).length : Int) := by rw [mergeV_sum, spreadV_len ho]
  have hsn : ((spreadV ys).length : Int) ≤ 48 := by rw [spreadV_len ho]; have := sumB_bound hsm; omega
  obtain ⟨N, hN⟩ : ∃ N, (spreadV ys).length = N := ⟨_, rfl⟩
  have hNm := hsl.symm.trans hN
  rw [hN] at hsum hsn
  have cm := (merge_c A1 cap1 ys w1 hp1 hyc hcm (by omega) hq100).mono fun e w' h => RowEnds.merge rfl h
  have cl : ∀ wx, Below w1.heap.size w1 wx → Calls Try.prog 14 #[.slice A1 ys.length cap1] wx (RowEnds (spreadV ys) N wx) := fun wx h => (lspread_c A1 cap1 ys wx (hp1.keep h) (by omega) hq4).mono fun e w' h => RowEnds.spread hN h
  clear hp1
  go_upto_region 3 with ((with_reducible refine cm.mono ?_); rintro e w2 ⟨A2, cap2, rfl, hp2, hyc2, hcm2, hb2⟩)
  clear cm
  have B2 : Below w.heap.size w w2 := hb1.trans (hb2.mono hb1.size)
  have cn : ∀ p : In w2, Calls Try.prog 15 #[.slice A2 (mergeV ys).length cap2] p.w fun e w' => e = .returned (.int .i64 (N : Int)) ∧ Below p.w.heap.size p.w w' := fun p => by
    have := many_c A2 cap2 (mergeV ys) p.w (hp2.keep p.h) (by omega) hqm4
    rwa [hsum] at this
  have cs : ∀ p : In w2, Calls Try.prog 13 #[.slice A2 (mergeV ys).length cap2] p.w (RowEnds (spreadV (mergeV ys)) N p.w) := fun p => (spread_c A2 cap2 (mergeV ys) p.w (hp2.keep p.h) (by omega) hqm4).mono fun e w' h => RowEnds.spread hNm h
  have cls : ∀ p : In w2, Calls Try.prog 14 #[.slice A2 (mergeV ys).length cap2] p.w (RowEnds (spreadV (mergeV ys)) N p.w) := fun p => (lspread_c A2 cap2 (mergeV ys) p.w (hp2.keep p.h) (by omega) hqm4).mono fun e w' h => RowEnds.spread hNm h
  have cl2 : ∀ p : In w2, Calls Try.prog 14 #[.slice A1 ys.length cap1] p.w (RowEnds (spreadV ys) N p.w) := fun p => cl p.w (hb2.trans (p.h.mono hb2.size))
  have cr : ∀ (wx : World) (Aa Ab : Option Addr) (ca cb : Nat), TParts wx Aa (spreadV (mergeV ys)) → TParts wx Ab (spreadV (mergeV ys)) → Calls Try.prog 12 #[.slice Aa N ca, .slice Ab N cb] wx fun e w' => e = .returned (.bool true) ∧ Below wx.heap.size wx w' := fun wx Aa Ab ca cb h1 h2 => by
    have := rows_c (spreadV (mergeV ys)) (spreadV (mergeV ys)) Aa Ab ca cb wx h1 h2 (by unfold maxLen; omega)
    rwa [rowsT_self, hNm] at this
  clear cl hq100 hqm hqm4 hq4 ho hsm hsum hsl
  have hN := Lib.hid hN
  have hNm := Lib.hid hNm
  have hsp := Lib.hid hsp
  generalize spreadV ys = sy at *
  generalize spreadV (mergeV ys) = sm at *
  have hm12 : (mergeV ys).length ≤ 12 := by omega
  generalize mergeV ys = m at *
  clear hml h12
  have wN : IntKind.i64.wrap (N : Int) = (N : Int) := by rw [wrap_i64]; omega
  go_upto_region 5 with (first | ((with_reducible refine (awake_c _).mono ?_); rintro e w3 ⟨rfl, hb3⟩; (first | ((with_reducible obtain ⟨p, hw''⟩ := In.of2 p hb3); subst hw'') | (obtain ⟨p, hw''⟩ := In.of hb3; subst hw''))) | ((with_reducible refine (cs _).mono ?_); rintro e w4 ⟨A4, cap4, rfl, hp4, _, _, hb4⟩; (first | ((with_reducible obtain ⟨p, hw''⟩ := In.of2 p hb4); subst hw'') | (obtain ⟨p, hw''⟩ := In.of hb4; subst hw''))) | ((with_reducible refine (cls _).mono ?_); rintro e w5 ⟨A5, cap5, rfl, hp5, _, _, hb5⟩; have hp4 := hp4.keep hb5; (first | ((with_reducible obtain ⟨p, hw''⟩ := In.of2 p hb5); subst hw'') | (obtain ⟨p, hw''⟩ := In.of hb5; subst hw''))) | ((with_reducible refine (cr _ _ _ _ _ hp4 hp5).mono ?_); rintro e w6 ⟨rfl, hb6⟩; (first | ((with_reducible obtain ⟨p, hw''⟩ := In.of2 p hb6); subst hw'') | (obtain ⟨p, hw''⟩ := In.of hb6; subst hw''))) | ((with_reducible refine (cn _).mono ?_); rintro e w7 ⟨rfl, hb7⟩; (first | ((with_reducible obtain ⟨p, hw''⟩ := In.of2 p hb7); subst hw'') | (obtain ⟨p, hw''⟩ := In.of hb7; subst hw''))) | ((with_reducible refine (cl2 _).mono ?_); rintro e w8 ⟨A8, cap8, rfl, _, _, _, hb8⟩; (first | ((with_reducible obtain ⟨p, hw''⟩ := In.of2 p hb8); subst hw'') | (obtain ⟨p, hw''⟩ := In.of hb8; subst hw''))))
  clear cr cn hp4 hp5
  go_upto_region 8 with (first | ((with_reducible refine (cl2 _).mono ?_); rintro e w3 ⟨A9, cap9, rfl, hp9, hc9, hm9, hb3⟩; (first | ((with_reducible obtain ⟨p, hw''⟩ := In.of2 p hb3); subst hw'') | (obtain ⟨p, hw''⟩ := In.of hb3; subst hw''))) | ((with_reducible refine (cls _).mono ?_); rintro e w4 ⟨A10, cap10, rfl, hp10, hc10, hm10, hb4⟩; have hp9 := hp9.keep hb4; (first | ((with_reducible obtain ⟨p, hw''⟩ := In.of2 p hb4); subst hw'') | (obtain ⟨p, hw''⟩ := In.of hb4; subst hw''))))
  clear cl2 cls cs
  unfold maxLen at hm9 hm10 hcm2
  have bel0 := p.h
  generalize p.w = w3 at *
  have B3 := B2.trans (bel0.mono B2.size)
  have hp3 := hp2.keep bel0
  clear hp2
  have hs1 : ∀ (wx : World) (i : Nat), Below w3.heap.size w3 wx → i < N → ∃ ad k b n f s B len c P pl pc T tl tc q ae k' b' n' f' s' B' len' c' P' pl' pc' T' tl' tc' q', A9 = some ad ∧ A10 = some ae ∧ TravAt wx (ad.add (i * 9)) k b n f s B len c P pl pc T tl tc q ∧ TravAt wx (ae.add (i * 9)) k' b' n' f' s' B' len' c' P' pl' pc' T' tl' tc' q' ∧
      ∀ p : In wx, Calls Try.prog 16 #[travV k b n f s B len c P pl pc T tl tc q, travV k' b' n' f' s' B' len' c' P' pl' pc' T' tl' tc' q'] p.w fun e w' => e = .returned (.bool true) ∧ Below p.w.heap.size p.w w' := by
    intro wx i hwx hi
    have h1 : i < sy.length := by rw [hN.out]; exact hi
    have h2 : i < sm.length := by rw [hNm.out]; exact hi
    obtain ⟨ad, k, b, n, f, s, B, len, c, P, pl, pc, T, tl, tc, q, rfl, ht, hat⟩ := (hp9.keep hwx) i sy[i] (by simp)
    obtain ⟨ae, k', b', n', f', s', B', len', c', P', pl', pc', T', tl', tc', q', rfl, ht', hat'⟩ := (hp10.keep hwx) i sm[i] (by simp)
    refine ⟨ad, k, b, n, f, s, B, len, c, P, pl, pc, T, tl, tc, q, ae, k', b', n', f', s', B', len', c', P', pl', pc', T', tl', tc', q', rfl, rfl, hat, hat', fun p => ?_⟩
    have hsame := eqBy_at hsp.out (i := i) (x := sy[i]) (y := sm[i]) (by simp) (by simp)
    have := lsame_c sy[i] sm[i] k b n f s B len c P pl pc T tl tc q k' b' n' f' s' B' len' c' P' pl' pc' T' tl' tc' q' p.w (ht.keep p.h) (ht'.keep p.h)
    rwa [hsame] at this
  have hs2 : ∀ (wx : World) (j : Nat), Below w3.heap.size w3 wx → j + 1 < m.length → ∃ ad k b n f s B len c P pl pc T tl tc q k' b' n' f' s' B' len' c' P' pl' pc' T' tl' tc' q', A2 = some ad ∧ TravAt wx (ad.add (j * 9)) k b n f s B len c P pl pc T tl tc q ∧ TravAt wx (ad.add ((j + 1) * 9)) k' b' n' f' s' B' len' c' P' pl' pc' T' tl' tc' q' ∧
      (∀ p : In wx, Calls Try.prog 16 #[travV k b n f s B len c P pl pc T tl tc q, travV k' b' n' f' s' B' len' c' P' pl' pc' T' tl' tc' q'] p.w fun e w' => e = .returned (.bool false) ∧ Below p.w.heap.size p.w w') ∧
      ∀ p : In wx, Calls Try.prog 17 #[travV k b n f s B len c P pl pc T tl tc q, travV k' b' n' f' s' B' len' c' P' pl' pc' T' tl' tc' q'] p.w fun e w' => e = .returned (.bool false) ∧ Below p.w.heap.size p.w w' := by
    intro wx j hwx hj
    obtain ⟨ad, k, b, n, f, s, B, len, c, P, pl, pc, T, tl, tc, q, rfl, ht, hat⟩ := (hp3.keep hwx) j m[j] (by simp)
    obtain ⟨ae, k', b', n', f', s', B', len', c', P', pl', pc', T', tl', tc', q', he, ht', hat'⟩ := (hp3.keep hwx) (j + 1) m[j + 1] (by simp)
    cases he
    have hd := hap j m[j] m[j + 1] (by simp) (by simp)
    refine ⟨ad, k, b, n, f, s, B, len, c, P, pl, pc, T, tl, tc, q, k', b', n', f', s', B', len', c', P', pl', pc', T', tl', tc', q', rfl, hat, hat', fun p => ?_, fun p => ?_⟩
    · have := lsame_c m[j] m[j + 1] k b n f s B len c P pl pc T tl tc q k' b' n' f' s' B' len' c' P' pl' pc' T' tl' tc' q' p.w (ht.keep p.h) (ht'.keep p.h)
      rwa [hd] at this
    · have := sameT_c m[j] m[j + 1] k b n f s B len c P pl pc T tl tc q k' b' n' f' s' B' len' c' P' pl' pc' T' tl' tc' q' p.w (ht.keep p.h) (ht'.keep p.h)
      rwa [hd] at this
  clear hp9 hp10 hp3 hap hsp hN hNm
  generalize m.length = M at *
  have bel1 := Below.refl w3.heap.size w3
  go_wp2_with fail
  go_loopw [7] (fun a7 wr => ∃ i : Nat, a7 = .int .i64 i ∧ i ≤ N ∧ Below w3.heap.size w3 wr) (fun a _ => N - (intOf a).toNat)
  case atStart => exact ⟨0, rfl, Nat.zero_le _, bel1⟩
  case round =>
    obtain ⟨i, rfl, hi, hbr⟩ := hrel
    by_cases hin : i < N
    · have hin' : (i : Int) < N := by omega
      obtain ⟨ad, k, b, n, f, s, B, len, c, P, pl, pc, T, tl, tc, q, ae, k', b', n', f', s', B', len', c', P', pl', pc', T', tl', tc', q', rfl, rfl, hat, hat', cr⟩ := hs1 wr i hbr hin
      obtain ⟨q9, q0, q1, q2, q3, q4, q5, q6, q7, q8⟩ := hat
      obtain ⟨s9, s0, s1, s2, s3, s4, s5, s6, s7, s8⟩ := hat'
      have wi : IntKind.i64.wrap ((i : Int) + 1) = (i : Int) + 1 := by rw [wrap_i64]; omega
      clear hs1 hs2
      go_upto_region 11 with fail
      (refine wp_region_flow [] (by kernel_rfl) (by kernel_rfl) ?_; (repeat (((with_reducible refine wpFlow_steps ?_); intro K hK; go_simp; first | (with_reducible refine hK _ ?_; clear hK K) | (apply Exists.intro; (with_reducible refine ⟨fun _ => ⟨?_, _, rfl⟩, hK _ ?_⟩); (· exact rfl); clear hK K) | (apply Exists.intro; (with_reducible refine ⟨fun _ => ⟨_, rfl⟩, hK _ ?_⟩); clear hK K) | (apply Exists.intro; (with_reducible refine ⟨fun _ => ?_, hK _ ?_⟩); (· (with_reducible (first | exact cr _))); clear hK K)))); (refine wpFlow_nil ?_; rintro w1 ⟨q0, hq0⟩; have hb := In.h q0; rw [← hq0] at hb; clear hq0 q0; (first | ((with_reducible obtain ⟨p, hw''⟩ := In.of2 p hb); subst hw'') | (obtain ⟨p, hw''⟩ := In.of hb; subst hw'')); go_simp; intros))
      go_wp2_with fail
      exact ⟨⟨i + 1, rfl, hin, hbr.trans (hb.mono hbr.size)⟩, by simp [intOf]; omega⟩
    · have hin' : ¬ (i : Int) < N := by omega
      clear hs1
      go_wp2_with fail
      go_loopw [8] (fun a8 wr => ∃ j : Nat, a8 = .int .i64 ((j : Int) + 1) ∧ (j = 0 ∨ j + 1 ≤ M) ∧ Below w3.heap.size w3 wr) (fun a _ => M - (intOf a).toNat)
      case atStart => exact ⟨0, rfl, .inl rfl, hbr⟩
      case round =>
        clear hbr
        obtain ⟨j, rfl, hj, hbr⟩ := hrel
        by_cases hjn : j + 1 < M
        · have hjn' : (j : Int) + 1 < M := by omega
          obtain ⟨ad, k, b, n, f, s, B, len, c, P, pl, pc, T, tl, tc, q, k', b', n', f', s', B', len', c', P', pl', pc', T', tl', tc', q', rfl, hat, hat', cr, cr'⟩ := hs2 wr j hbr hjn
          obtain ⟨q9, q0, q1, q2, q3, q4, q5, q6, q7, q8⟩ := hat
          obtain ⟨s9, s0, s1, s2, s3, s4, s5, s6, s7, s8⟩ := hat'
          have wj : IntKind.i64.wrap ((j : Int) + 1 + 1) = (j : Int) + 1 + 1 := by rw [wrap_i64]; omega
          have wj0 : IntKind.i64.wrap ((j : Int) + 1 - 1) = (j : Int) := by rw [wrap_i64]; omega
          have wj2 : IntKind.i64.wrap (j : Int) = (j : Int) := by rw [wrap_i64]; omega
          have hj0 : (j : Int) < M := by omega
          have hj1 : 0 ≤ (j : Int) + 1 := by omega
          have hj2 : ((j : Int) + 1).toNat = j + 1 := by omega
          clear hs2
          go_upto_region 16 with fail
          (refine wp_region_flow [] (by kernel_rfl) (by kernel_rfl) ?_; (repeat (((with_reducible refine wpFlow_steps ?_); intro K hK; go_simp; first | (with_reducible refine hK _ ?_; clear hK K) | (apply Exists.intro; (with_reducible refine ⟨fun _ => ⟨?_, _, rfl⟩, hK _ ?_⟩); (· exact rfl); clear hK K) | (apply Exists.intro; (with_reducible refine ⟨fun _ => ⟨_, rfl⟩, hK _ ?_⟩); clear hK K) | (apply Exists.intro; (with_reducible refine ⟨fun _ => ?_, hK _ ?_⟩); (· (with_reducible (first | exact cr _ | exact cr' _))); clear hK K)))); (refine wpFlow_nil ?_; rintro w1 ⟨q0, hq0⟩; have hb := In.h q0; rw [← hq0] at hb; clear hq0 q0; (first | ((with_reducible obtain ⟨p, hw''⟩ := In.of2 p hb); subst hw'') | (obtain ⟨p, hw''⟩ := In.of hb; subst hw'')); go_simp; intros))
          go_wp2_with fail
          exact ⟨⟨j + 1, by simp, by omega, hbr.trans (hb.mono hbr.size)⟩, by simp [intOf]; omega⟩
        · have hjn' : ¬ (j : Int) + 1 < M := by omega
          clear hs2
          go_wp2_with fail
          go_ret
          exact ⟨rfl, B3.trans (hbr.mono B3.size)⟩
end Go.Proofs.Ytfccplkfdhpdgaa
