
/-
  The reference's Same: the same values, of the same kinds, bits and all.
-/
import Derived.Test.YtipjelkdbbhcpaaValP
import Derived.Test.YtipjelkdbbhcpaaEqBy
set_option linter.unusedSimpArgs false
set_option linter.unusedVariables false
namespace Go.Proofs.Ytipjelkdbbhcpaa
open Go.RowKit

mutual
/-- the same values, bits and all? -/
def sameV : Val → Val → Bool
  | .mk ka ba na fa sa la, .mk kb bb nb fb sb lb => ka == kb && ba == bb && na == nb && canon fa == canon fb && sa == sb && sameVL la lb
def sameVL : List Val → List Val → Bool
  | [], [] => true
  | a :: la, b :: lb => sameV a b && sameVL la lb
  | _, _ => false
end
theorem sameVL_eq : ∀ la lb : List Val, sameVL la lb = eqBy sameV la lb
  | [], [] => rfl
  | [], _ :: _ => rfl
  | _ :: _, [] => rfl
  | a :: la, b :: lb => by simp [sameVL, eqBy, sameVL_eq la lb]
mutual
theorem sameV_self : ∀ v : Val, sameV v v = true
  | .mk k b n f s l => by simp [sameV, sameVL_self l]
theorem sameVL_self : ∀ l : List Val, sameVL l l = true
  | [] => rfl
  | v :: l => by simp [sameVL, sameV_self v, sameVL_self l]
end
theorem fb_ne {x y : Nat} : (fb x != fb y) = !(x == y) := by
  unfold fb
  rw [Bool.eq_iff_iff]
  simp
  omega
set_option maxRecDepth 8000 in
set_option maxHeartbeats 4000000 in
theorem rsame_c (a : Val) : ∀ (b : Val) (u v : Value) (w : World), Has w u a → Has w v b → Calls Try.prog 15 #[u, v] w fun e w' => e = .returned (.bool (sameV a b)) ∧ Below w.heap.size w w' := by
  generalize hz : wsz a = z
  induction z using Nat.strongRecOn generalizing a with
  | _ z ih =>
    intro b u v w hu hv
    obtain ⟨A, capa, rfl, ik, im, jf, hsa, hlba, hla, hca, hpa⟩ := hu.open
    obtain ⟨B, capb, rfl, jk, jm, kf, hsb, hlbb, hlb, hcb, hpb⟩ := hv.open
    have hpart := fun i x => wsz_part (v := a) (x := x) (i := i)
    rw [hz] at hpart
    unfold maxLen at hca hcb
    obtain ⟨ka, ba, na, fa, sa, la⟩ := a
    obtain ⟨kb, bb, nb, ff, sb, lb⟩ := b
    dsimp only [Val.k, Val.b, Val.n, Val.f, Val.s, Val.l] at *
    have c1 : ∀ w : World, Calls Try.prog 38 #[.float .f64 fa] w fun e w' => e = .returned (.int .u64 (fb (canon fa))) ∧ Below w.heap.size w w' := fun w => (rcanon_c fa w).mono fun e w' ⟨h1, h2⟩ => ⟨h1, h2 ▸ Below.refl _ _⟩
    have c2 : ∀ w : World, Calls Try.prog 38 #[.float .f64 ff] w fun e w' => e = .returned (.int .u64 (fb (canon ff))) ∧ Below w.heap.size w w' := fun w => (rcanon_c ff w).mono fun e w' ⟨h1, h2⟩ => ⟨h1, h2 ▸ Below.refl _ _⟩
    have hv : sameV (.mk ka ba na fa sa la) (.mk kb bb nb ff sb lb) = (ka == kb && ba == bb && na == nb && canon fa == canon ff && sa == sb && eqBy sameV la lb) := by simp only [sameV, sameVL_eq]
    have hV := Lib.hid hv
    clear hu hv hz ik im jf jk jm kf
    go_enter Try.func15, Try.ntmps15
    go_upto_region 1 with fail
    obtain ⟨w1, hw1⟩ : ∃ w1, w1 = (w.alloc (.cells #[.int .i64 ka, .bool ba, .int .i64 na, .float .f64 fa, .string (st sa), .slice A la.length capa] 27)).alloc (.cells #[.int .i64 kb, .bool bb, .int .i64 nb, .float .f64 ff, .string (st sb), .slice B lb.length capb] 27) := ⟨_, rfl⟩
    have bk : Below w.heap.size w w1 := hw1 ▸ (below_alloc w _).alloc (by simp) _
    obtain ⟨x6, x0, x1, x2, x3, x4, x5⟩ : Box w1 w.heap.size ka ba na fa sa A la.length capa := hw1 ▸ (Box.new w ka ba na fa sa A la.length capa _).keep (below_alloc _ _)
    obtain ⟨y6, y0, y1, y2, y3, y4, y5⟩ : Box w1 (w.heap.size + 1) kb bb nb ff sb B lb.length capb := hw1 ▸ Box.new2 w kb bb nb ff sb B lb.length capb _ _
    rw [← hw1]
    clear hw1
    have hcf := fb_ne (x := canon fa) (y := canon ff)
    generalize fb (canon fa) = ga at *
    generalize fb (canon ff) = gb at *
    cases h1 : (ka != kb)
    · have e1 : (ka == kb) = true := by simpa using h1
      have E1 := Lib.hid e1
      clear e1
      have e2 : (ba == bb) = true ∨ (ba == bb) = false := by cases (ba == bb) <;> simp
      rcases e2 with h2 | h2
      · have E2 := Lib.hid h2
        cases h3 : (na != nb)
        · have e3 : (na == nb) = true := by simpa using h3
          have E3 := Lib.hid e3
          clear e3
          cases h4 : (ga != gb)
          · have e4 : (canon fa == canon ff) = true := by rw [h4] at hcf; simpa using hcf
            have E4 := Lib.hid e4
            clear e4 hcf
            cases h5 : (sa == sb)
            · have E5 := Lib.hid h5
              (refine wp_region_flow [] (by kernel_rfl) (by kernel_rfl) ?_; (repeat (((with_reducible refine wpFlow_steps ?_); intro K hK; go_simp; first | (with_reducible refine hK _ ?_; clear hK K) | (apply Exists.intro; (with_reducible refine ⟨fun _ => ⟨?_, _, rfl⟩, hK _ ?_⟩); (· exact rfl); clear hK K) | (apply Exists.intro; (with_reducible refine ⟨fun _ => ⟨_, rfl⟩, hK _ ?_⟩); clear hK K) | (apply Exists.intro; (with_reducible refine ⟨fun _ => ?_, hK _ ?_⟩); (· (with_reducible (first | exact c1 _ | exact c2 _))); clear hK K)))); (refine wpFlow_nil ?_; rintro w1 ⟨q0, hq0⟩; have hb := In.h q0; rw [← hq0] at hb; clear hq0 q0; (first | ((with_reducible obtain ⟨p, hw''⟩ := In.of2 p hb); subst hw'') | (obtain ⟨p, hw''⟩ := In.of hb; subst hw'')); go_simp; intros))
              go_wp2
              go_ret
              exact ⟨ret_bool (by rw [hV.out, E5.out]; simp), p.back bk⟩
            · have E5 := Lib.hid h5
              by_cases hll : la.length = lb.length
              · have hne : ((la.length : Int) != lb.length) = false := by simp; omega
                have hL := Lib.hid hll
                clear hll
                (refine wp_region_flow [] (by kernel_rfl) (by kernel_rfl) ?_; (repeat (((with_reducible refine wpFlow_steps ?_); intro K hK; go_simp; first | (with_reducible refine hK _ ?_; clear hK K) | (apply Exists.intro; (with_reducible refine ⟨fun _ => ⟨?_, _, rfl⟩, hK _ ?_⟩); (· exact rfl); clear hK K) | (apply Exists.intro; (with_reducible refine ⟨fun _ => ⟨_, rfl⟩, hK _ ?_⟩); clear hK K) | (apply Exists.intro; (with_reducible refine ⟨fun _ => ?_, hK _ ?_⟩); (· (with_reducible (first | exact c1 _ | exact c2 _))); clear hK K)))); (refine wpFlow_nil ?_; rintro w1 ⟨q0, hq0⟩; have hb := In.h q0; rw [← hq0] at hb; clear hq0 q0; (first | ((with_reducible obtain ⟨p, hw''⟩ := In.of2 p hb); subst hw'') | (obtain ⟨p, hw''⟩ := In.of hb; subst hw'')); go_simp; intros))
                go_wp2_with fail
                have bel0 := p.h
                generalize p.w = w3 at *
                clear hb hne h1 h2 h3 h4 h5 c1 c2
                go_loopw [5] (fun a5 wr => ∃ i : Nat, a5 = .int .i64 i ∧ i ≤ la.length ∧ Hid (eqBy sameV la lb = eqBy sameV (la.drop i) (lb.drop i)) ∧ Below w1.heap.size w1 wr) (fun a _ => la.length - (intOf a).toNat)
                case atStart => exact ⟨0, rfl, Nat.zero_le _, rfl, bel0⟩
                case round =>
                  clear bel0
                  obtain ⟨i, rfl, hi, hcm, hbr⟩ := hrel
                  have x5r := (hbr.cell (p := ⟨w.heap.size, 5, none⟩) x6).trans x5
                  have y5r := (hbr.cell (p := ⟨w.heap.size + 1, 5, none⟩) y6).trans y5
                  have x6r := Nat.lt_of_lt_of_le x6 hbr.size
                  have y6r := Nat.lt_of_lt_of_le y6 hbr.size
                  have bkr := bk.trans (hbr.mono bk.size)
                  clear x0 x1 x2 x3 x4 y0 y1 y2 y3 y4
                  by_cases hin : i < la.length
                  · have hla' : (i : Int) < la.length := by omega
                    have hib : i < lb.length := by have := hL.out; omega
                    have hlb' : (i : Int) < lb.length := by omega
                    obtain ⟨ad, k1, b1, n1, f1, s1, C1, len1, c1, rfl, hx, hat⟩ := hpa i la[i] (by simp)
                    obtain ⟨ae, k2, b2, n2, f2, s2, C2, len2, c2, rfl, hy, hau⟩ := hpb i lb[i] (by simp)
                    obtain ⟨q0, q1, q2, q3, q4, q5, q6⟩ := hat.keep bkr
                    obtain ⟨s0, s1, s2, s3, s4, s5, s6⟩ := hau.keep bkr
                    have wi : IntKind.i64.wrap ((i : Int) + 1) = (i : Int) + 1 := by rw [wrap_i64]; omega
                    have hst := Lib.hid (eqBy_step sameV (la := la) (lb := lb) (i := i) (x := la[i]) (y := lb[i]) (by simp) (by simp))
                    have cr : ∀ p : In wr, Calls Try.prog 15 #[valV k1 b1 n1 f1 _ C1 len1 c1, valV k2 b2 n2 f2 _ C2 len2 c2] p.w fun e w' => e = .returned (.bool (sameV la[i] lb[i])) ∧ Below p.w.heap.size p.w w' := fun p => ih (wsz la[i]) (hpart i la[i] (by simp)) la[i] rfl lb[i] _ _ p.w (hx.keep (p.back bkr)) (hy.keep (p.back bkr))
                    generalize la[i] = x at *
                    generalize lb[i] = y at *
                    clear hx hy hat hau hpa hpb ih hpart
                    cases hc0 : sameV x y
                    · rw [hc0] at cr
                      go_upto_region 6 with fail
                      (refine wp_region_flow [] (by kernel_rfl) (by kernel_rfl) ?_; (repeat (((with_reducible refine wpFlow_steps ?_); intro K hK; go_simp; first | (with_reducible refine hK _ ?_; clear hK K) | (apply Exists.intro; (with_reducible refine ⟨fun _ => ⟨?_, _, rfl⟩, hK _ ?_⟩); (· exact rfl); clear hK K) | (apply Exists.intro; (with_reducible refine ⟨fun _ => ⟨_, rfl⟩, hK _ ?_⟩); clear hK K) | (apply Exists.intro; (with_reducible refine ⟨fun _ => ?_, hK _ ?_⟩); (· (with_reducible (first | exact cr _))); clear hK K)))); (refine wpFlow_nil ?_; rintro w1 ⟨q0, hq0⟩; have hb := In.h q0; rw [← hq0] at hb; clear hq0 q0; (first | ((with_reducible obtain ⟨p, hw''⟩ := In.of2 p hb); subst hw'') | (obtain ⟨p, hw''⟩ := In.of hb; subst hw'')); go_simp; intros))
                      go_wp2_with fail
                      go_ret
                      exact ⟨ret_bool (by rw [hV.out, hcm.out, hst.out, hc0]; simp), p.back bkr⟩
                    · rw [hc0] at cr
                      go_upto_region 6 with fail
                      (refine wp_region_flow [] (by kernel_rfl) (by kernel_rfl) ?_; (repeat (((with_reducible refine wpFlow_steps ?_); intro K hK; go_simp; first | (with_reducible refine hK _ ?_; clear hK K) | (apply Exists.intro; (with_reducible refine ⟨fun _ => ⟨?_, _, rfl⟩, hK _ ?_⟩); (· exact rfl); clear hK K) | (apply Exists.intro; (with_reducible refine ⟨fun _ => ⟨_, rfl⟩, hK _ ?_⟩); clear hK K) | (apply Exists.intro; (with_reducible refine ⟨fun _ => ?_, hK _ ?_⟩); (· (with_reducible (first | exact cr _))); clear hK K)))); (refine wpFlow_nil ?_; rintro w1 ⟨q0, hq0⟩; have hb := In.h q0; rw [← hq0] at hb; clear hq0 q0; (first | ((with_reducible obtain ⟨p, hw''⟩ := In.of2 p hb); subst hw'') | (obtain ⟨p, hw''⟩ := In.of hb; subst hw'')); go_simp; intros))
                      go_wp2_with fail
                      refine ⟨⟨i + 1, rfl, hin, ?_, hbr.trans (hb.mono hbr.size)⟩, by simp [intOf]; omega⟩
                      show _ = _
                      rw [hcm.out, hst.out, hc0]; rfl
                  · have hla' : ¬ (i : Int) < la.length := by omega
                    have hF := Lib.hid (hcm.out.trans (eqBy_end sameV (by omega) hL.out))
                    clear hpa hpb hcm ih hpart
                    go_wp2_with fail
                    go_ret
                    exact ⟨ret_bool (by rw [hV.out, E1.out, E2.out, E3.out, E4.out, E5.out, hF.out]; rfl), bkr⟩
              · have hne : ((la.length : Int) != lb.length) = true := by simp; omega
                have hF := Lib.hid (eqBy_len sameV la lb hll)
                clear hll hpa hpb
                (refine wp_region_flow [] (by kernel_rfl) (by kernel_rfl) ?_; (repeat (((with_reducible refine wpFlow_steps ?_); intro K hK; go_simp; first | (with_reducible refine hK _ ?_; clear hK K) | (apply Exists.intro; (with_reducible refine ⟨fun _ => ⟨?_, _, rfl⟩, hK _ ?_⟩); (· exact rfl); clear hK K) | (apply Exists.intro; (with_reducible refine ⟨fun _ => ⟨_, rfl⟩, hK _ ?_⟩); clear hK K) | (apply Exists.intro; (with_reducible refine ⟨fun _ => ?_, hK _ ?_⟩); (· (with_reducible (first | exact c1 _ | exact c2 _))); clear hK K)))); (refine wpFlow_nil ?_; rintro w1 ⟨q0, hq0⟩; have hb := In.h q0; rw [← hq0] at hb; clear hq0 q0; (first | ((with_reducible obtain ⟨p, hw''⟩ := In.of2 p hb); subst hw'') | (obtain ⟨p, hw''⟩ := In.of hb; subst hw'')); go_simp; intros))
                go_wp2
                go_ret
                exact ⟨ret_bool (by rw [hV.out, hF.out]; simp), p.back bk⟩
          · have e4 : (canon fa == canon ff) = false := by rw [h4] at hcf; simpa using hcf
            have E4 := Lib.hid e4
            clear e4 hcf
            (refine wp_region_flow [] (by kernel_rfl) (by kernel_rfl) ?_; (repeat (((with_reducible refine wpFlow_steps ?_); intro K hK; go_simp; first | (with_reducible refine hK _ ?_; clear hK K) | (apply Exists.intro; (with_reducible refine ⟨fun _ => ⟨?_, _, rfl⟩, hK _ ?_⟩); (· exact rfl); clear hK K) | (apply Exists.intro; (with_reducible refine ⟨fun _ => ⟨_, rfl⟩, hK _ ?_⟩); clear hK K) | (apply Exists.intro; (with_reducible refine ⟨fun _ => ?_, hK _ ?_⟩); (· (with_reducible (first | exact c1 _ | exact c2 _))); clear hK K)))); (refine wpFlow_nil ?_; rintro w1 ⟨q0, hq0⟩; have hb := In.h q0; rw [← hq0] at hb; clear hq0 q0; (first | ((with_reducible obtain ⟨p, hw''⟩ := In.of2 p hb); subst hw'') | (obtain ⟨p, hw''⟩ := In.of hb; subst hw'')); go_simp; intros))
            go_wp2
            go_ret
            exact ⟨ret_bool (by rw [hV.out, E4.out]; simp), p.back bk⟩
        · have e3 : (na == nb) = false := by simpa using h3
          have E3 := Lib.hid e3
          clear e3 hcf
          (refine wp_region_flow [] (by kernel_rfl) (by kernel_rfl) ?_; (repeat (((with_reducible refine wpFlow_steps ?_); intro K hK; go_simp; first | (with_reducible refine hK _ ?_; clear hK K) | (apply Exists.intro; (with_reducible refine ⟨fun _ => ⟨?_, _, rfl⟩, hK _ ?_⟩); (· exact rfl); clear hK K) | (apply Exists.intro; (with_reducible refine ⟨fun _ => ⟨_, rfl⟩, hK _ ?_⟩); clear hK K) | (apply Exists.intro; (with_reducible refine ⟨fun _ => ?_, hK _ ?_⟩); (· (with_reducible (first | exact c1 _ | exact c2 _))); clear hK K)))); (refine wpFlow_nil ?_; rintro w1 ⟨q0, hq0⟩; have hb := In.h q0; rw [← hq0] at hb; clear hq0 q0; (first | ((with_reducible obtain ⟨p, hw''⟩ := In.of2 p hb); subst hw'') | (obtain ⟨p, hw''⟩ := In.of hb; subst hw'')); go_simp; intros))
          go_wp2
          go_ret
          exact ⟨ret_bool (by rw [hV.out, E3.out]; simp), p.back bk⟩
      · have E2 := Lib.hid h2
        clear hcf
        (refine wp_region_flow [] (by kernel_rfl) (by kernel_rfl) ?_; (repeat (((with_reducible refine wpFlow_steps ?_); intro K hK; go_simp; first | (with_reducible refine hK _ ?_; clear hK K) | (apply Exists.intro; (with_reducible refine ⟨fun _ => ⟨?_, _, rfl⟩, hK _ ?_⟩); (· exact rfl); clear hK K) | (apply Exists.intro; (with_reducible refine ⟨fun _ => ⟨_, rfl⟩, hK _ ?_⟩); clear hK K) | (apply Exists.intro; (with_reducible refine ⟨fun _ => ?_, hK _ ?_⟩); (· (with_reducible (first | exact c1 _ | exact c2 _))); clear hK K)))); (refine wpFlow_nil ?_; rintro w1 ⟨q0, hq0⟩; have hb := In.h q0; rw [← hq0] at hb; clear hq0 q0; (first | ((with_reducible obtain ⟨p, hw''⟩ := In.of2 p hb); subst hw'') | (obtain ⟨p, hw''⟩ := In.of hb; subst hw'')); go_simp; intros))
        go_wp2
        go_ret
        exact ⟨ret_bool (by rw [hV.out, E2.out]; simp), p.back bk⟩
    · have e1 : (ka == kb) = false := by simpa using h1
      have E1 := Lib.hid e1
      clear e1 hcf
      (refine wp_region_flow [] (by kernel_rfl) (by kernel_rfl) ?_; (repeat (((with_reducible refine wpFlow_steps ?_); intro K hK; go_simp; first | (with_reducible refine hK _ ?_; clear hK K) | (apply Exists.intro; (with_reducible refine ⟨fun _ => ⟨?_, _, rfl⟩, hK _ ?_⟩); (· exact rfl); clear hK K) | (apply Exists.intro; (with_reducible refine ⟨fun _ => ⟨_, rfl⟩, hK _ ?_⟩); clear hK K) | (apply Exists.intro; (with_reducible refine ⟨fun _ => ?_, hK _ ?_⟩); (· (with_reducible (first | exact c1 _ | exact c2 _))); clear hK K)))); (refine wpFlow_nil ?_; rintro w1 ⟨q0, hq0⟩; have hb := In.h q0; rw [← hq0] at hb; clear hq0 q0; (first | ((with_reducible obtain ⟨p, hw''⟩ := In.of2 p hb); subst hw'') | (obtain ⟨p, hw''⟩ := In.of hb; subst hw'')); go_simp; intros))
      go_wp2
      go_ret
      exact ⟨ret_bool (by rw [hV.out, E1.out]; simp), p.back bk⟩
end Go.Proofs.Ytipjelkdbbhcpaa
