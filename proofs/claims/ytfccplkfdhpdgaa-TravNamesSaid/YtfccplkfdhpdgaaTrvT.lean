
/-
  TravSimple's walk.
-/
import Derived.Test.YtfccplkfdhpdgaaTrvS
set_option linter.unusedSimpArgs false
set_option linter.unusedVariables false
namespace Go.Proofs.Ytfccplkfdhpdgaa
open Go.RowKit

/-- one traverser that is laid in a row of its own, cut -/
theorem cut_one (k : Int) (b : Bool) (n : Int) (f : Nat) (s : List UInt8) (B : Option Addr) (len c : Nat) (P : Option Addr) (pl pc : Nat) (T : Option Addr) (tl tc : Nat) (q : Int) (t : TravD) (w : World) (ht : HasT w k b n f s B len c P pl pc T tl tc q t) :
    Calls Try.prog 9 #[.slice (some ⟨w.heap.size, 0, none⟩) 1 1] (w.alloc (.cells #[.int .i64 k, .bool b, .int .i64 n, .float .f64 f, .string (st s), .slice B len c, .slice P pl pc, .slice T tl tc, .int .i64 q] 34)) fun e w' => ∃ A cap ys, e = .returned (.slice A (List.length ys) cap) ∧ TParts w' A ys ∧ ys.length ≤ cap ∧ cap ≤ maxLen ∧ ys.length ≤ 12 ∧ (∀ t ∈ ys, Small t) ∧ Below w.heap.size w w' := by
  obtain ⟨w7, hw7⟩ : ∃ w7, w7 = w.alloc (.cells #[.int .i64 k, .bool b, .int .i64 n, .float .f64 f, .string (st s), .slice B len c, .slice P pl pc, .slice T tl tc, .int .i64 q] 34) := ⟨_, rfl⟩
  have hb7 : Below w.heap.size w w7 := hw7 ▸ below_alloc w _
  have own7 : w7.ownsRow w.heap.size 34 9 (.slice (some ⟨w.heap.size, 0, none⟩) 1 1) 1 (travC k b n f s B len c P pl pc T tl tc q) := by
    refine ⟨rfl, .inr ⟨w.heap.size, 1, _, rfl, Nat.le_refl _, by rw [hw7]; show (w.heap.push _)[w.heap.size]? = _; simp; rfl, Nat.le_refl _, by unfold maxLen; omega, rfl, rfl⟩⟩
  have row7 : TRow w7 [t] (travC k b n f s B len c P pl pc T tl tc q) := (TRow.nil w7).snoc (ht.keep hb7)
  obtain ⟨A7, c7, he7, hp7, hc7, hm7⟩ := TParts.ofRow (ys := [t]) own7 row7
  have he7' : (Value.slice (some ⟨w.heap.size, 0, none⟩) 1 1) = .slice A7 1 c7 := he7
  rw [← hw7, he7']
  refine (cut_c A7 c7 [t] w7 hp7 hc7 hm7).mono ?_
  rintro e w8 ⟨v, ys, xs, rfl, own8, h12, hs, row8, hb8⟩
  obtain ⟨A8, c8, rfl, hp8, hc8, hm8⟩ := TParts.ofRow own8 row8
  exact ⟨A8, c8, ys, rfl, hp8, hc8, hm8, h12, hs, hb7.trans (hb8.mono hb7.size)⟩

set_option maxRecDepth 8000 in
set_option maxHeartbeats 1500000 in
theorem travSimple_walk (k : Int) (b : Bool) (n : Int) (f : Nat) (s : List UInt8) (B : Option Addr) (len c : Nat) (P : Option Addr) (pl pc : Nat) (T : Option Addr) (tl tc : Nat) (q : Int) (t : TravD) (w : World) (ht : HasT w k b n f s B len c P pl pc T tl tc q t) :
    Calls Try.prog 6 #[travV k b n f s B len c P pl pc T tl tc q] w fun e w' => e = .returned (.bool true) ∧ Below w.heap.size w w' := by
  have c1 := cut_one k b n f s B len c P pl pc T tl tc q t (w.alloc (.cells #[.int .i64 k, .bool b, .int .i64 n, .float .f64 f, .string (st s), .slice B len c, .slice P pl pc, .slice T tl tc, .int .i64 q] 34)) (ht.keep (below_alloc w _))
  rw [show (w.alloc (.cells #[.int .i64 k, .bool b, .int .i64 n, .float .f64 f, .string (st s), .slice B len c, .slice P pl pc, .slice T tl tc, .int .i64 q] 34)).heap.size = w.heap.size + 1 from by simp] at c1
  clear ht
  go_enter Try.func6, Try.ntmps6
  go_upto_region 2 with ((with_reducible refine c1.mono ?_); rintro e w2 ⟨A, capA, ys, rfl, hp, hyc, hcm, h12, hsm, hb2⟩)
  have B2 : Below w.heap.size w w2 := (below_alloc w _).trans (hb2.mono (by simp))
  clear c1 hb2
  cases ys with
  | nil =>
    go_wp2_with ((with_reducible refine (awake_c _).mono ?_); rintro e w3 ⟨rfl, hb3⟩)
    go_ret
    exact ⟨rfl, B2.trans (hb3.mono B2.size)⟩
  | cons y ys =>
    obtain ⟨ad, k, b, n, f, s, B, len, c, P, pl, pc, T, tl, tc, q, rfl, ht, hat⟩ := hp 0 y rfl
    have ha : ad.add (0 * 9) = ad := by simp [Addr.add]
    rw [ha] at hat
    have hsy := hsm y (by simp)
    have hp4 := hsy.path
    have hpp := ht.hp
    have epl := ht.epl
    subst epl
    clear hp hsm ha hsy hcm hyc
    have hne : ((ys.length : Int) + 1 == 0) = false := by simp; omega
    have hpos : 0 < (ys.length : Int) + 1 := by omega
    generalize ys.length = ny at *
    have hcx : ∀ wx, Below w2.heap.size w2 wx → TravAt wx ad k b n f s B len c P y.path.length pc T tl tc q := fun wx h => hat.keep h
    have hpx : ∀ wx, Below w2.heap.size w2 wx → Parts wx P y.path := fun wx h => hpp.keep h
    have cs : ∀ wx, Below w2.heap.size w2 wx → Calls Try.prog 23 #[travV k b n f s B len c P y.path.length pc T tl tc q] wx fun e w' => e = .returned (.bool (aloneTo y.path y.path.length)) ∧ Below wx.heap.size wx w' := fun wx h => simple_c y k b n f s B len c P y.path.length pc T tl tc q wx (ht.keep h)
    generalize hpath : y.path = path at *
    clear ht hpp hat
    go_wp2_with fail
    go_loopw [4, 5] (fun a4 a5 wr => ∃ i : Nat, a5 = .int .i64 i ∧ a4 = .bool (aloneTo path i) ∧ i ≤ path.length ∧ Below w2.heap.size w2 wr) (fun _ a _ => path.length - (intOf a).toNat)
    case atStart => exact ⟨0, rfl, rfl, Nat.zero_le _, Below.refl _ _⟩
    case round =>
      obtain ⟨i, rfl, rfl, hi, hbr⟩ := hrel
      obtain ⟨q9, q0, q1, q2, q3, q4, q5, q6, q7, q8⟩ := hcx wr hbr
      by_cases hil : i < path.length
      · have hil' : (i : Int) < path.length := by omega
        have hst := Lib.hid (aloneTo_succ (l := path) (i := i) (x := path[i]) (by simp))
        have wi : IntKind.i64.wrap ((i : Int) + 1) = (i : Int) + 1 := by rw [wrap_i64]; omega
        have hxi : path[i]? = some path[i] := by simp
        have hxi := Lib.hid hxi
        go_wp2_with fail
        generalize path[i] = x at *
        generalize aloneTo path i = al at *
        go_loopw [4, 6] (fun a4 a6 wx => ∃ j : Nat, a6 = .int .i64 j ∧ a4 = .bool (al && !anyV x (path.take j)) ∧ j ≤ i ∧ Below w2.heap.size w2 wx) (fun _ a _ => i - (intOf a).toNat)
        case atStart => exact ⟨0, rfl, by simp [anyV], Nat.zero_le _, hbr⟩
        case round =>
          clear q9 q0 q1 q2 q3 q4 q5 q6 q7 q8 hbr
          obtain ⟨j, rfl, rfl, hj, hbr⟩ := hrel
          by_cases hji : j < i
          · have hji' : (j : Int) < i := by omega
            have hjl' : (j : Int) < path.length := by omega
            have hjl : j < path.length := by omega
            have wj : IntKind.i64.wrap ((j : Int) + 1) = (j : Int) + 1 := by rw [wrap_i64]; omega
            have hsn := Lib.hid (anyV_snoc (v := x) (l := path) (i := j) (x := path[j]) (by simp))
            obtain ⟨q9, q0, q1, q2, q3, q4, q5, q6, q7, q8⟩ := hcx wr hbr
            obtain ⟨ae, k1, b1, n1, f1, s1, B1, len1, c1, rfl, hx1, hat1⟩ := hpx wr hbr i x hxi.out
            obtain ⟨ae', k2, b2, n2, f2, s2, B2', len2, c2, he2, hx2, hat2⟩ := hpx wr hbr j path[j] (by simp)
            cases he2
            obtain ⟨x9, x0, x1, x2, x3, x4, x5⟩ := hat1
            obtain ⟨z9, z0, z1, z2, z3, z4, z5⟩ := hat2
            have cr : ∀ p : In wr, Calls Try.prog 22 #[valV k1 b1 n1 f1 s1 B1 len1 c1, valV k2 b2 n2 f2 s2 B2' len2 c2] p.w fun e w' => e = .returned (.int .i64 (cmpV x path[j])) ∧ Below p.w.heap.size p.w w' := fun p => rcmpv_c x path[j] _ _ p.w (hx1.keep p.h) (hx2.keep p.h)
            generalize path[j] = z at *
            clear hx1 hx2 hcx hpx cs
            cases hw : (al && !anyV x (path.take j))
            · go_wp2_with fail
              refine wp_region_flow [] (by kernel_rfl) (by kernel_rfl) ?_
              iterate 20 (((with_reducible refine wpFlow_steps ?_); intro K hK; go_simp; first | (with_reducible refine hK _ ?_; clear hK K) | (apply Exists.intro; (with_reducible refine ⟨fun _ => ⟨?_, _, rfl⟩, hK _ ?_⟩); (· exact rfl); clear hK K) | (apply Exists.intro; (with_reducible refine ⟨fun _ => ⟨_, rfl⟩, hK _ ?_⟩); clear hK K) | (apply Exists.intro; (with_reducible refine ⟨fun _ => ?_, hK _ ?_⟩); (· (with_reducible (fail))); clear hK K)))
              (refine wpFlow_nil ?_; rintro w1 ⟨q0, hq0⟩; have hb := In.h q0; rw [← hq0] at hb; clear hq0 q0; (first | ((with_reducible obtain ⟨p, hw''⟩ := In.of2 p hb); subst hw'') | (obtain ⟨p, hw''⟩ := In.of hb; subst hw'')); go_simp; intros)
              go_wp2_with fail
              have hval : (al && !anyV x (path.take (j + 1))) = false := by
                rw [hsn.out]
                cases al <;> simp at hw ⊢
                simp [hw]
              exact ⟨by ((repeat' apply Exists.intro); exact ⟨⟨j + 1, rfl, by rw [hval], hji, hbr.trans (hb.mono hbr.size)⟩, rfl⟩), by simp [intOf]; omega⟩
            · go_wp2_with fail
              refine wp_region_flow [] (by kernel_rfl) (by kernel_rfl) ?_
              iterate 20 (((with_reducible refine wpFlow_steps ?_); intro K hK; go_simp; first | (with_reducible refine hK _ ?_; clear hK K) | (apply Exists.intro; (with_reducible refine ⟨fun _ => ⟨?_, _, rfl⟩, hK _ ?_⟩); (· exact rfl); clear hK K) | (apply Exists.intro; (with_reducible refine ⟨fun _ => ⟨_, rfl⟩, hK _ ?_⟩); clear hK K) | (apply Exists.intro; (with_reducible refine ⟨fun _ => ?_, hK _ ?_⟩); (· (with_reducible (first | exact cr _))); clear hK K)))
              (refine wpFlow_nil ?_; rintro w1 ⟨q0, hq0⟩; have hb := In.h q0; rw [← hq0] at hb; clear hq0 q0; (first | ((with_reducible obtain ⟨p, hw''⟩ := In.of2 p hb); subst hw'') | (obtain ⟨p, hw''⟩ := In.of hb; subst hw'')); go_simp; intros)
              go_wp2_with fail
              have hval : (al && !anyV x (path.take (j + 1))) = (cmpV x z != 0) := by
                rw [hsn.out]
                simp at hw
                simp [hw.1, hw.2, eqV, bne]
              exact ⟨by ((repeat' apply Exists.intro); exact ⟨⟨j + 1, rfl, by rw [hval], hji, hbr.trans (hb.mono hbr.size)⟩, rfl⟩), by simp [intOf]; omega⟩
          · have hji' : ¬ (j : Int) < i := by omega
            have hje : j = i := by omega
            subst hje
            clear hcx hpx cs
            go_wp2_with fail
            exact ⟨⟨j + 1, rfl, by rw [hst.out], hil, hbr⟩, by simp [intOf]; omega⟩
      · have hil' : ¬ (i : Int) < path.length := by omega
        have hie : i = path.length := by omega
        subst hie
        clear hcx hpx
        go_wp2_with (first | ((with_reducible refine (awake_c _).mono ?_); rintro e w3 ⟨rfl, hb3⟩; (first | ((with_reducible obtain ⟨p, hw''⟩ := In.of2 p hb3); subst hw'') | (obtain ⟨p, hw''⟩ := In.of hb3; subst hw''))) | ((with_reducible refine (cs _ (hbr.trans (p.h.mono hbr.size))).mono ?_); rintro e w4 ⟨rfl, hb4⟩))
        go_ret
        exact ⟨by simp, B2.trans ((hbr.trans ((p.h.mono hbr.size).trans (hb4.mono (Nat.le_trans hbr.size p.h.size)))).mono B2.size)⟩
end Go.Proofs.Ytfccplkfdhpdgaa
