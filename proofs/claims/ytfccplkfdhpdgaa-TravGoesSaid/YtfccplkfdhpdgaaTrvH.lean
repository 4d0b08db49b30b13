
/-
  The traversers' laws' same.
-/
import Derived.Test.YtfccplkfdhpdgaaTrvG
import Derived.Test.YtfccplkfdhpdgaaTrvP
set_option linter.unusedSimpArgs false
set_option linter.unusedVariables false
namespace Go.Proofs.Ytfccplkfdhpdgaa
open Go.RowKit

/-- a traverser in a block of its own -/
structure TBox (w : World) (g : Nat) (k : Int) (b : Bool) (n : Int) (f : Nat) (s : List UInt8) (B : Option Addr) (len c : Nat) (P : Option Addr) (pl pc : Nat) (T : Option Addr) (tl tc : Nat) (q : Int) : Prop where
  lt : g < w.heap.size
  c0 : w.cell? ⟨g, 0, none⟩ = some (.int .i64 k)
  c1 : w.cell? ⟨g, 1, none⟩ = some (.bool b)
  c2 : w.cell? ⟨g, 2, none⟩ = some (.int .i64 n)
  c3 : w.cell? ⟨g, 3, none⟩ = some (.float .f64 f)
  c4 : w.cell? ⟨g, 4, none⟩ = some (.string (st s))
  c5 : w.cell? ⟨g, 5, none⟩ = some (.slice B len c)
  c6 : w.cell? ⟨g, 6, none⟩ = some (.slice P pl pc)
  c7 : w.cell? ⟨g, 7, none⟩ = some (.slice T tl tc)
  c8 : w.cell? ⟨g, 8, none⟩ = some (.int .i64 q)
theorem TBox.keep {w w' : World} {g : Nat} {k : Int} {b : Bool} {n : Int} {f : Nat} {s : List UInt8} {B : Option Addr} {len c : Nat} {P : Option Addr} {pl pc : Nat} {T : Option Addr} {tl tc : Nat} {q : Int} (h : TBox w g k b n f s B len c P pl pc T tl tc q) (hb : Below w.heap.size w w') : TBox w' g k b n f s B len c P pl pc T tl tc q :=
  ⟨Nat.lt_of_lt_of_le h.lt hb.size, (hb.cell (p := ⟨g, 0, none⟩) h.lt).trans h.c0, (hb.cell (p := ⟨g, 1, none⟩) h.lt).trans h.c1, (hb.cell (p := ⟨g, 2, none⟩) h.lt).trans h.c2, (hb.cell (p := ⟨g, 3, none⟩) h.lt).trans h.c3, (hb.cell (p := ⟨g, 4, none⟩) h.lt).trans h.c4, (hb.cell (p := ⟨g, 5, none⟩) h.lt).trans h.c5, (hb.cell (p := ⟨g, 6, none⟩) h.lt).trans h.c6, (hb.cell (p := ⟨g, 7, none⟩) h.lt).trans h.c7, (hb.cell (p := ⟨g, 8, none⟩) h.lt).trans h.c8⟩
theorem TBox.new (w : World) (k : Int) (b : Bool) (n : Int) (f : Nat) (s : List UInt8) (B : Option Addr) (len c : Nat) (P : Option Addr) (pl pc : Nat) (T : Option Addr) (tl tc : Nat) (q : Int) (U : TypeId) : TBox (w.alloc (.cells #[.int .i64 k, .bool b, .int .i64 n, .float .f64 f, .string (st s), .slice B len c, .slice P pl pc, .slice T tl tc, .int .i64 q] U)) w.heap.size k b n f s B len c P pl pc T tl tc q :=
  ⟨by simp, by simp [go_sem], by simp [go_sem], by simp [go_sem], by simp [go_sem], by simp [go_sem], by simp [go_sem], by simp [go_sem], by simp [go_sem], by simp [go_sem]⟩
theorem TBox.new2 (w : World) (k : Int) (b : Bool) (n : Int) (f : Nat) (s : List UInt8) (B : Option Addr) (len c : Nat) (P : Option Addr) (pl pc : Nat) (T : Option Addr) (tl tc : Nat) (q : Int) (U : TypeId) (o : Obj) : TBox ((w.alloc o).alloc (.cells #[.int .i64 k, .bool b, .int .i64 n, .float .f64 f, .string (st s), .slice B len c, .slice P pl pc, .slice T tl tc, .int .i64 q] U)) (w.heap.size + 1) k b n f s B len c P pl pc T tl tc q := by
  have h := TBox.new (w.alloc o) k b n f s B len c P pl pc T tl tc q U
  rwa [show (w.alloc o).heap.size = w.heap.size + 1 from by simp] at h

theorem sameT_v {t t' : TravD} (h : (cmpV t.v t'.v != 0) = true) : sameT t t' = false := by
  have : eqV t.v t'.v = false := by simpa [eqV] using h
  simp [sameT, this]
theorem sameT_path {t t' : TravD} (h : t.path.length ≠ t'.path.length) : sameT t t' = false := by simp [sameT, eqBy_len eqV _ _ h]
theorem sameT_tags {t t' : TravD} (h : t.tags.length ≠ t'.tags.length) : sameT t t' = false := by simp [sameT, eqBy_len eqTg _ _ h]
set_option maxRecDepth 8000 in
set_option maxHeartbeats 4000000 in
theorem lsame_c (t t' : TravD) (k : Int) (b : Bool) (n : Int) (f : Nat) (s : List UInt8) (B : Option Addr) (len c : Nat) (P : Option Addr) (pl pc : Nat) (T : Option Addr) (tl tc : Nat) (q : Int)
    (k' : Int) (b' : Bool) (n' : Int) (f' : Nat) (s' : List UInt8) (B' : Option Addr) (len' c' : Nat) (P' : Option Addr) (pl' pc' : Nat) (T' : Option Addr) (tl' tc' : Nat) (q' : Int) (w : World)
    (hx : HasT w k b n f s B len c P pl pc T tl tc q t) (hy : HasT w k' b' n' f' s' B' len' c' P' pl' pc' T' tl' tc' q' t') :
    Calls Try.prog 16 #[travV k b n f s B len c P pl pc T tl tc q, travV k' b' n' f' s' B' len' c' P' pl' pc' T' tl' tc' q'] w fun e w' => e = .returned (.bool (sameT t t')) ∧ Below w.heap.size w w' := by
  have hpl := hx.epl
  have htl := hx.etl
  have hpl' := hy.epl
  have htl' := hy.etl
  subst hpl htl hpl' htl'
  have hmp := Nat.le_trans hx.hpc hx.hpm
  have hmt := Nat.le_trans hx.htc hx.htm
  unfold maxLen at hmp hmt
  go_enter Try.func16, Try.ntmps16
  go_upto_region 1 with fail
  obtain ⟨w1, hw1⟩ : ∃ w1, w1 = (w.alloc (.cells #[.int .i64 k, .bool b, .int .i64 n, .float .f64 f, .string (st s), .slice B len c, .slice P t.path.length pc, .slice T t.tags.length tc, .int .i64 q] 34)).alloc (.cells #[.int .i64 k', .bool b', .int .i64 n', .float .f64 f', .string (st s'), .slice B' len' c', .slice P' t'.path.length pc', .slice T' t'.tags.length tc', .int .i64 q'] 34) := ⟨_, rfl⟩
  have bk : Below w.heap.size w w1 := hw1 ▸ (below_alloc w _).alloc (by simp) _
  obtain ⟨x9, x0, x1, x2, x3, x4, x5, x6, x7, x8⟩ : TBox w1 w.heap.size k b n f s B len c P t.path.length pc T t.tags.length tc q := hw1 ▸ (TBox.new w k b n f s B len c P t.path.length pc T t.tags.length tc q _).keep (below_alloc _ _)
  obtain ⟨y9, y0, y1, y2, y3, y4, y5, y6, y7, y8⟩ : TBox w1 (w.heap.size + 1) k' b' n' f' s' B' len' c' P' t'.path.length pc' T' t'.tags.length tc' q' := hw1 ▸ TBox.new2 w k' b' n' f' s' B' len' c' P' t'.path.length pc' T' t'.tags.length tc' q' _ _
  rw [← hw1]
  clear hw1
  have cv : ∀ p : In w1, Calls Try.prog 22 #[valV k b n f s B len c, valV k' b' n' f' s' B' len' c'] p.w fun e w' => e = .returned (.int .i64 (cmpV t.v t'.v)) ∧ Below p.w.heap.size p.w w' := fun p => rcmpv_c t.v t'.v _ _ p.w (hx.hv.keep (p.back bk)) (hy.hv.keep (p.back bk))
  have cv0 := cv ⟨w1, Below.refl _ _⟩
  dsimp only at cv0
  have hpa := hx.hp
  have hpb := hy.hp
  have hta := hx.ht
  have htb := hy.ht
  have hsT : sameT t t' = (eqV t.v t'.v && eqBy eqV t.path t'.path && eqBy eqTg t.tags t'.tags) := rfl
  have hS := Lib.hid hsT
  clear hsT cv
  have hn1 := sameT_v (t := t) (t' := t')
  have hn2 := sameT_path (t := t) (t' := t')
  have hn3 := sameT_tags (t := t) (t' := t')
  clear hx hy
  generalize t.path = path at *
  generalize t'.path = path' at *
  generalize t.tags = tags at *
  generalize t'.tags = tags' at *
  cases hc : (cmpV t.v t'.v != 0)
  · have hev : eqV t.v t'.v = true := by unfold eqV; simpa using hc
    have hE := Lib.hid hev
    clear hev hn1
    generalize cmpV t.v t'.v = cvv at *
    by_cases h1 : path.length = path'.length
    · have hne1 : ((path.length : Int) != path'.length) = false := by simp; omega
      have hL1 := Lib.hid h1
      clear h1 hn2
      by_cases h2 : tags.length = tags'.length
      · have hne2 : ((tags.length : Int) != tags'.length) = false := by simp; omega
        have hL2 := Lib.hid h2
        clear h2 hn3
        go_wp2_with ((with_reducible refine cv0.mono ?_); rintro e w2 ⟨rfl, hb2⟩; (first | ((with_reducible obtain ⟨p, hw''⟩ := In.of2 p hb2); subst hw'') | (obtain ⟨p, hw''⟩ := In.of hb2; subst hw'')))
        have bel0 := p.h
        generalize p.w = w2 at *
        clear hne1 hne2 hc cv0
        go_loopw [5] (fun a5 wr => ∃ i : Nat, a5 = .int .i64 i ∧ i ≤ path.length ∧ Hid (eqBy eqV path path' = eqBy eqV (path.drop i) (path'.drop i)) ∧ Below w1.heap.size w1 wr) (fun a _ => path.length - (intOf a).toNat)
        case atStart => exact ⟨0, rfl, Nat.zero_le _, rfl, bel0⟩
        case round =>
          clear bel0
          obtain ⟨i, rfl, hi, hcm, hbr⟩ := hrel
          have x6r := (hbr.cell (p := ⟨w.heap.size, 6, none⟩) x9).trans x6
          have y6r := (hbr.cell (p := ⟨w.heap.size + 1, 6, none⟩) y9).trans y6
          have x9r := Nat.lt_of_lt_of_le x9 hbr.size
          have y9r := Nat.lt_of_lt_of_le y9 hbr.size
          have bkr := bk.trans (hbr.mono bk.size)
          by_cases hin : i < path.length
          · have hla' : (i : Int) < path.length := by omega
            have hib : i < path'.length := by have := hL1.out; omega
            have hlb' : (i : Int) < path'.length := by omega
            obtain ⟨ad, k1, b1, n1, f1, s1, C1, len1, c1, rfl, hx, hat⟩ := hpa i path[i] (by simp)
            obtain ⟨ae, k2, b2, n2, f2, s2, C2, len2, c2, rfl, hy, hau⟩ := hpb i path'[i] (by simp)
            obtain ⟨q0, q1, q2, q3, q4, q5, q6⟩ := hat.keep bkr
            obtain ⟨s0, s1, s2, s3, s4, s5, s6⟩ := hau.keep bkr
            have wi : IntKind.i64.wrap ((i : Int) + 1) = (i : Int) + 1 := by rw [wrap_i64]; omega
            have hst := Lib.hid (eqBy_step eqV (la := path) (lb := path') (i := i) (x := path[i]) (y := path'[i]) (by simp) (by simp))
            have cr : ∀ p : In wr, Calls Try.prog 22 #[valV k1 b1 n1 f1 _ C1 len1 c1, valV k2 b2 n2 f2 _ C2 len2 c2] p.w fun e w' => e = .returned (.int .i64 (cmpV path[i] path'[i])) ∧ Below p.w.heap.size p.w w' := fun p => rcmpv_c path[i] path'[i] _ _ p.w (hx.keep (p.back bkr)) (hy.keep (p.back bkr))
            generalize path[i] = x at *
            generalize path'[i] = y at *
            clear hx hy hat hau hpa hpb hta htb x0 x1 x2 x3 x4 x5 x6 x7 x8 y0 y1 y2 y3 y4 y5 y6 y7 y8
            cases hc0 : (cmpV x y != 0)
            · have hee : eqV x y = true := by unfold eqV; simpa using hc0
              have hE2 := Lib.hid hee
              clear hee
              generalize cmpV x y = cxy at *
              go_upto_region 6 with fail
              (refine wp_region_flow [] (by kernel_rfl) (by kernel_rfl) ?_; (repeat (((with_reducible refine wpFlow_steps ?_); intro K hK; go_simp; first | (with_reducible refine hK _ ?_; clear hK K) | (apply Exists.intro; (with_reducible refine ⟨fun _ => ⟨?_, _, rfl⟩, hK _ ?_⟩); (· exact rfl); clear hK K) | (apply Exists.intro; (with_reducible refine ⟨fun _ => ⟨_, rfl⟩, hK _ ?_⟩); clear hK K) | (apply Exists.intro; (with_reducible refine ⟨fun _ => ?_, hK _ ?_⟩); (· (with_reducible (first | exact cr _))); clear hK K)))); (refine wpFlow_nil ?_; rintro w1 ⟨q0, hq0⟩; have hb := In.h q0; rw [← hq0] at hb; clear hq0 q0; (first | ((with_reducible obtain ⟨p, hw''⟩ := In.of2 p hb); subst hw'') | (obtain ⟨p, hw''⟩ := In.of hb; subst hw'')); go_simp; intros))
              go_wp2_with fail
              refine ⟨⟨i + 1, rfl, hin, ?_, hbr.trans (hb.mono hbr.size)⟩, by simp [intOf]; omega⟩
              show _ = _
              rw [hcm.out, hst.out, hE2.out]; rfl
            · have hee : eqV x y = false := by unfold eqV; simpa using hc0
              have hE2 := Lib.hid hee
              clear hee
              generalize cmpV x y = cxy at *
              go_upto_region 6 with fail
              (refine wp_region_flow [] (by kernel_rfl) (by kernel_rfl) ?_; (repeat (((with_reducible refine wpFlow_steps ?_); intro K hK; go_simp; first | (with_reducible refine hK _ ?_; clear hK K) | (apply Exists.intro; (with_reducible refine ⟨fun _ => ⟨?_, _, rfl⟩, hK _ ?_⟩); (· exact rfl); clear hK K) | (apply Exists.intro; (with_reducible refine ⟨fun _ => ⟨_, rfl⟩, hK _ ?_⟩); clear hK K) | (apply Exists.intro; (with_reducible refine ⟨fun _ => ?_, hK _ ?_⟩); (· (with_reducible (first | exact cr _))); clear hK K)))); (refine wpFlow_nil ?_; rintro w1 ⟨q0, hq0⟩; have hb := In.h q0; rw [← hq0] at hb; clear hq0 q0; (first | ((with_reducible obtain ⟨p, hw''⟩ := In.of2 p hb); subst hw'') | (obtain ⟨p, hw''⟩ := In.of hb; subst hw'')); go_simp; intros))
              go_wp2_with fail
              go_ret
              exact ⟨ret_bool (by rw [hS.out, hcm.out, hst.out, hE2.out]; simp), p.back bkr⟩
          · have hla' : ¬ (i : Int) < path.length := by omega
            have hF := Lib.hid (hcm.out.trans (eqBy_end eqV (by omega) hL1.out))
            clear hpa hpb hcm
            go_wp2_with fail
            go_loopw [6] (fun a6 wr => ∃ i : Nat, a6 = .int .i64 i ∧ i ≤ tags.length ∧ Hid (eqBy eqTg tags tags' = eqBy eqTg (tags.drop i) (tags'.drop i)) ∧ Below w1.heap.size w1 wr) (fun a _ => tags.length - (intOf a).toNat)
            case atStart => exact ⟨0, rfl, Nat.zero_le _, rfl, hbr⟩
            case round =>
              clear x6r y6r x9r y9r bkr hbr
              obtain ⟨j, rfl, hj, hcm, hbr⟩ := hrel
              have x7r := (hbr.cell (p := ⟨w.heap.size, 7, none⟩) x9).trans x7
              have y7r := (hbr.cell (p := ⟨w.heap.size + 1, 7, none⟩) y9).trans y7
              have x9r := Nat.lt_of_lt_of_le x9 hbr.size
              have y9r := Nat.lt_of_lt_of_le y9 hbr.size
              have bkr := bk.trans (hbr.mono bk.size)
              by_cases hjn : j < tags.length
              · have hla' : (j : Int) < tags.length := by omega
                have hib : j < tags'.length := by have := hL2.out; omega
                have hlb' : (j : Int) < tags'.length := by omega
                obtain ⟨ad, k1, b1, n1, f1, s1, C1, len1, c1, rfl, _, hx, hat⟩ := hta j tags[j] (by simp)
                obtain ⟨ae, k2, b2, n2, f2, s2, C2, len2, c2, rfl, _, hy, hau⟩ := htb j tags'[j] (by simp)
                obtain ⟨q0, q1, q2, q3, q4, q5, q6, q7⟩ := hat.keep bkr
                obtain ⟨s0, s1, s2, s3, s4, s5, s6, s7⟩ := hau.keep bkr
                have wj : IntKind.i64.wrap ((j : Int) + 1) = (j : Int) + 1 := by rw [wrap_i64]; omega
                have hst := Lib.hid (eqBy_step eqTg (la := tags) (lb := tags') (i := j) (x := tags[j]) (y := tags'[j]) (by simp) (by simp))
                have cr : ∀ p : In wr, Calls Try.prog 22 #[valV k1 b1 n1 f1 _ C1 len1 c1, valV k2 b2 n2 f2 _ C2 len2 c2] p.w fun e w' => e = .returned (.int .i64 (cmpV tags[j].2 tags'[j].2)) ∧ Below p.w.heap.size p.w w' := fun p => rcmpv_c tags[j].2 tags'[j].2 _ _ p.w (hx.keep (p.back bkr)) (hy.keep (p.back bkr))
                generalize tags[j] = x at *
                generalize tags'[j] = y at *
                obtain ⟨xn, xv⟩ := x
                obtain ⟨yn, yv⟩ := y
                dsimp only at *
                clear hx hy hat hau hta htb x0 x1 x2 x3 x4 x5 x6 x7 x8 y0 y1 y2 y3 y4 y5 y6 y7 y8
                cases hnm : (xn == yn)
                · have hee : eqTg (xn, xv) (yn, yv) = false := by simp [eqTg, hnm]
                  have hE2 := Lib.hid hee
                  clear hee
                  generalize cmpV xv yv = cxy at *
                  go_upto_region 11 with fail
                  (refine wp_region_flow [] (by kernel_rfl) (by kernel_rfl) ?_; (repeat (((with_reducible refine wpFlow_steps ?_); intro K hK; go_simp; first | (with_reducible refine hK _ ?_; clear hK K) | (apply Exists.intro; (with_reducible refine ⟨fun _ => ⟨?_, _, rfl⟩, hK _ ?_⟩); (· exact rfl); clear hK K) | (apply Exists.intro; (with_reducible refine ⟨fun _ => ⟨_, rfl⟩, hK _ ?_⟩); clear hK K) | (apply Exists.intro; (with_reducible refine ⟨fun _ => ?_, hK _ ?_⟩); (· (with_reducible (first | exact cr _))); clear hK K)))); (refine wpFlow_nil ?_; rintro w1 ⟨q0, hq0⟩; have hb := In.h q0; rw [← hq0] at hb; clear hq0 q0; (first | ((with_reducible obtain ⟨p, hw''⟩ := In.of2 p hb); subst hw'') | (obtain ⟨p, hw''⟩ := In.of hb; subst hw'')); go_simp; intros))
                  go_wp2_with fail
                  go_ret
                  exact ⟨ret_bool (by rw [hS.out, hcm.out, hst.out, hE2.out]; simp), p.back bkr⟩
                · cases hc0 : (cmpV xv yv != 0)
                  · have hee : eqTg (xn, xv) (yn, yv) = true := by simp only [eqTg, hnm, eqV]; simpa using hc0
                    have hE2 := Lib.hid hee
                    clear hee
                    generalize cmpV xv yv = cxy at *
                    go_upto_region 11 with fail
                    (refine wp_region_flow [] (by kernel_rfl) (by kernel_rfl) ?_; (repeat (((with_reducible refine wpFlow_steps ?_); intro K hK; go_simp; first | (with_reducible refine hK _ ?_; clear hK K) | (apply Exists.intro; (with_reducible refine ⟨fun _ => ⟨?_, _, rfl⟩, hK _ ?_⟩); (· exact rfl); clear hK K) | (apply Exists.intro; (with_reducible refine ⟨fun _ => ⟨_, rfl⟩, hK _ ?_⟩); clear hK K) | (apply Exists.intro; (with_reducible refine ⟨fun _ => ?_, hK _ ?_⟩); (· (with_reducible (first | exact cr _))); clear hK K)))); (refine wpFlow_nil ?_; rintro w1 ⟨q0, hq0⟩; have hb := In.h q0; rw [← hq0] at hb; clear hq0 q0; (first | ((with_reducible obtain ⟨p, hw''⟩ := In.of2 p hb); subst hw'') | (obtain ⟨p, hw''⟩ := In.of hb; subst hw'')); go_simp; intros))
                    go_wp2_with fail
                    refine ⟨⟨j + 1, rfl, hjn, ?_, hbr.trans (hb.mono hbr.size)⟩, by simp [intOf]; omega⟩
                    show _ = _
                    rw [hcm.out, hst.out, hE2.out]; rfl
                  · have hee : eqTg (xn, xv) (yn, yv) = false := by simp only [eqTg, hnm, eqV]; simpa using hc0
                    have hE2 := Lib.hid hee
                    clear hee
                    generalize cmpV xv yv = cxy at *
                    go_upto_region 11 with fail
                    (refine wp_region_flow [] (by kernel_rfl) (by kernel_rfl) ?_; (repeat (((with_reducible refine wpFlow_steps ?_); intro K hK; go_simp; first | (with_reducible refine hK _ ?_; clear hK K) | (apply Exists.intro; (with_reducible refine ⟨fun _ => ⟨?_, _, rfl⟩, hK _ ?_⟩); (· exact rfl); clear hK K) | (apply Exists.intro; (with_reducible refine ⟨fun _ => ⟨_, rfl⟩, hK _ ?_⟩); clear hK K) | (apply Exists.intro; (with_reducible refine ⟨fun _ => ?_, hK _ ?_⟩); (· (with_reducible (first | exact cr _))); clear hK K)))); (refine wpFlow_nil ?_; rintro w1 ⟨q0, hq0⟩; have hb := In.h q0; rw [← hq0] at hb; clear hq0 q0; (first | ((with_reducible obtain ⟨p, hw''⟩ := In.of2 p hb); subst hw'') | (obtain ⟨p, hw''⟩ := In.of hb; subst hw'')); go_simp; intros))
                    go_wp2_with fail
                    go_ret
                    exact ⟨ret_bool (by rw [hS.out, hcm.out, hst.out, hE2.out]; simp), p.back bkr⟩
              · have hla' : ¬ (j : Int) < tags.length := by omega
                have hF2 := Lib.hid (hcm.out.trans (eqBy_end eqTg (by omega) hL2.out))
                clear hta htb hcm
                go_wp2_with fail
                go_ret
                exact ⟨ret_bool (by rw [hS.out, hE.out, hF.out, hF2.out]; rfl), bkr⟩
      · have hne2 : ((tags.length : Int) != tags'.length) = true := by simp; omega
        have hF := Lib.hid (hn3 h2)
        clear h2 hpa hpb hta htb hn3
        go_wp2_with ((with_reducible refine cv0.mono ?_); rintro e w2 ⟨rfl, hb2⟩; (first | ((with_reducible obtain ⟨p, hw''⟩ := In.of2 p hb2); subst hw'') | (obtain ⟨p, hw''⟩ := In.of hb2; subst hw'')))
        go_ret
        exact ⟨ret_bool hF.out.symm, p.back bk⟩
    · have hne1 : ((path.length : Int) != path'.length) = true := by simp; omega
      have hF := Lib.hid (hn2 h1)
      clear h1 hpa hpb hta htb hn2 hn3
      go_wp2_with ((with_reducible refine cv0.mono ?_); rintro e w2 ⟨rfl, hb2⟩; (first | ((with_reducible obtain ⟨p, hw''⟩ := In.of2 p hb2); subst hw'') | (obtain ⟨p, hw''⟩ := In.of hb2; subst hw'')))
      go_ret
      exact ⟨ret_bool hF.out.symm, p.back bk⟩
  · have hF := Lib.hid (hn1 hc)
    clear hpa hpb hta htb hn1 hn2 hn3
    generalize cmpV t.v t'.v = cvv at *
    go_wp2_with ((with_reducible refine cv0.mono ?_); rintro e w2 ⟨rfl, hb2⟩; (first | ((with_reducible obtain ⟨p, hw''⟩ := In.of2 p hb2); subst hw'') | (obtain ⟨p, hw''⟩ := In.of hb2; subst hw'')))
    go_ret
    exact ⟨ret_bool hF.out.symm, p.back bk⟩
end Go.Proofs.Ytfccplkfdhpdgaa
