
/-
  FoldTurns: the walk.
-/
import Derived.Test.YtipjelkdbbhcpaaFad
import Derived.Test.YtipjelkdbbhcpaaLate
set_option linter.unusedSimpArgs false
set_option linter.unusedVariables false
namespace Go.Proofs.Ytipjelkdbbhcpaa
open Go.RowKit Go.Deep

theorem mul_one_int {a : Val} (hk : a.k = 2) (hn : I64 a.n) : arV .mul (· * ·) a (intV 1) = (intV a.n, 0) := by
  have hf : fits a.n = true := by unfold fits; simp; exact ⟨hn.lo, hn.hi⟩
  have h1 : isNum a = true := by unfold isNum; rw [hk]; rfl
  have h2 : (a.k == 3) = false := by rw [hk]; rfl
  unfold arV
  rw [h1, h2]
  show (if fits (a.n * 1) = true then (intV (a.n * 1), (0 : Int)) else (noV, 191)) = _
  rw [Int.mul_one, hf]
  rfl
theorem add_zero_int {a : Val} (hk : a.k = 2) (hn : I64 a.n) : arV .add (· + ·) a (intV 0) = (intV a.n, 0) := by
  have hf : fits a.n = true := by unfold fits; simp; exact ⟨hn.lo, hn.hi⟩
  have h1 : isNum a = true := by unfold isNum; rw [hk]; rfl
  have h2 : (a.k == 3) = false := by rw [hk]; rfl
  unfold arV
  rw [h1, h2]
  show (if fits (a.n + 0) = true then (intV (a.n + 0), (0 : Int)) else (noV, 191)) = _
  rw [Int.add_zero, hf]
  rfl
set_option maxRecDepth 8000 in
set_option maxHeartbeats 2000000 in
theorem foldTurns_walk (u : Value) (a : Val) (v : Value) (b : Val) (w : World) (hu : Has w u a) (hv : Has w v b) :
    Calls Try.prog 7 #[u, v] w fun e w' => e = .returned (.bool true) ∧ Below w.heap.size w w' := by
  obtain ⟨A, ca, rfl, _, hna, _⟩ := hu.open
  obtain ⟨B, cb, rfl, _, hnb, _⟩ := hv.open
  have cA := fun wx => fadd_c a b A B a.l.length ca b.l.length cb wx hna hnb
  have cA2 := fun wx => fadd_c b a B A b.l.length cb a.l.length ca wx hnb hna
  have cM := fun wx => fmul_c a b A B a.l.length ca b.l.length cb wx hna hnb
  have cM2 := fun wx => fmul_c b a B A b.l.length cb a.l.length ca wx hnb hna
  have i1 : I64 (intV 1).n := ⟨by show (-9223372036854775808 : Int) ≤ 1; omega, by show (1 : Int) ≤ 9223372036854775807; omega⟩
  have i0 : I64 (intV 0).n := ⟨by show (-9223372036854775808 : Int) ≤ 0; omega, by show (0 : Int) ≤ 9223372036854775807; omega⟩
  have cM3 : ∀ wx, Calls Try.prog 22 #[valV a.k a.b a.n a.f a.s A a.l.length ca, valV 2 false 1 0 [] none 0 0] wx (ArEnds (arV .mul (· * ·) a (intV 1)) wx) := fun wx => fmul_c a (intV 1) A none a.l.length ca 0 0 wx hna i1
  have cA3 : ∀ wx, Calls Try.prog 20 #[valV a.k a.b a.n a.f a.s A a.l.length ca, valV 2 false 0 0 [] none 0 0] wx (ArEnds (arV .add (· + ·) a (intV 0)) wx) := fun wx => fadd_c a (intV 0) A none a.l.length ca 0 0 wx hna i0
  rw [add_turn] at cA2
  rw [mul_turn] at cM2
  have fX := arV_flat .add (· + ·) a b
  have fY := arV_flat .mul (· * ·) a b
  have fZ := arV_flat .mul (· * ·) a (intV 1)
  have fW := arV_flat .add (· + ·) a (intV 0)
  have hone := fun hk => mul_one_int (a := a) hk hna
  have hzero := fun hk => add_zero_int (a := a) hk hna
  have hna := Lib.hid hna
  clear hu hv hnb i1 i0
  generalize arV .add (· + ·) a b = X at *
  generalize arV .mul (· * ·) a b = Y at *
  generalize arV .mul (· * ·) a (intV 1) = Z at *
  generalize arV .add (· + ·) a (intV 0) = W at *
  obtain ⟨x, e1⟩ := X
  obtain ⟨y, e2⟩ := Y
  obtain ⟨z, e3⟩ := Z
  obtain ⟨t, e4⟩ := W
  unfold ArEnds at cA cM cA2 cM2 cM3 cA3
  dsimp only at cA cM cA2 cM2 fX fY fZ fW hone hzero
  have hone := Lib.hid hone
  have hzero := Lib.hid hzero
  generalize a.l.length = la at *
  generalize b.l.length = lb at *
  go_enter Try.func7, Try.ntmps7
  obtain ⟨w1, hw1, k1, xa1, s1⟩ := box_step w a A la ca
  obtain ⟨w2, hw2, k2, xb2, s2⟩ := box_step w1 b B lb cb
  rw [s1] at xb2
  have xa2 := xa1.keep k2
  have B2 := k1.trans (k2.mono k1.size)
  generalize w.heap.size + 1 = g at *
  have xaH := Lib.hid xa2
  have xbH := Lib.hid xb2
  obtain ⟨p6, p0, p1, p2, p3, p4, p5⟩ := xa2
  obtain ⟨q6, q0, q1, q2, q3, q4, q5⟩ := xb2
  go_upto_region 2 with ((with_reducible refine (cA _).mono ?_); rintro e w3 ⟨rfl, hb3⟩)
  obtain ⟨w4, hw4, k4, x4, -⟩ := box_step w3 x none 0 0
  have j4 := hb3.trans (k4.mono hb3.size)
  have B4 := B2.trans (j4.mono B2.size)
  have xaH := Lib.hid (xaH.out.keep j4)
  have xbH := Lib.hid (xbH.out.keep j4)
  clear p0 p1 p2 p3 p4 p5 p6 q0 q1 q2 q3 q4 q5 q6
  obtain ⟨p6, p0, p1, p2, p3, p4, p5⟩ := xaH.out
  obtain ⟨q6, q0, q1, q2, q3, q4, q5⟩ := xbH.out
  rw [hw4]
  clear hw4 hb3 k4 j4
  go_upto_region 3 with ((with_reducible refine (cA2 _).mono ?_); rintro e w5 ⟨rfl, hb5⟩)
  obtain ⟨w6, hw6, k6, x6, -⟩ := box_step w5 x none 0 0
  have j6 := hb5.trans (k6.mono hb5.size)
  have B6 := B4.trans (j6.mono B4.size)
  have xaH := Lib.hid (xaH.out.keep j6)
  have xbH := Lib.hid (xbH.out.keep j6)
  have x4 := x4.keep j6
  clear p0 p1 p2 p3 p4 p5 p6 q0 q1 q2 q3 q4 q5 q6
  obtain ⟨p6, p0, p1, p2, p3, p4, p5⟩ := xaH.out
  obtain ⟨q6, q0, q1, q2, q3, q4, q5⟩ := xbH.out
  rw [hw6]
  clear hw6 hb5 k6 j6
  go_upto_region 4 with ((with_reducible refine (cM _).mono ?_); rintro e w7 ⟨rfl, hb7⟩)
  obtain ⟨w8, hw8, k8, x8, -⟩ := box_step w7 y none 0 0
  have j8 := hb7.trans (k8.mono hb7.size)
  have B8 := B6.trans (j8.mono B6.size)
  have xaH := Lib.hid (xaH.out.keep j8)
  have xbH := Lib.hid (xbH.out.keep j8)
  have x4 := x4.keep j8
  have x6 := x6.keep j8
  clear p0 p1 p2 p3 p4 p5 p6 q0 q1 q2 q3 q4 q5 q6
  obtain ⟨p6, p0, p1, p2, p3, p4, p5⟩ := xaH.out
  obtain ⟨q6, q0, q1, q2, q3, q4, q5⟩ := xbH.out
  rw [hw8]
  clear hw8 hb7 k8 j8
  go_upto_region 5 with ((with_reducible refine (cM2 _).mono ?_); rintro e w9 ⟨rfl, hb9⟩)
  obtain ⟨w10, hw10, k10, x10, -⟩ := box_step w9 y none 0 0
  have j10 := hb9.trans (k10.mono hb9.size)
  have B10 := B8.trans (j10.mono B8.size)
  have xaH := Lib.hid (xaH.out.keep j10)
  have xbH := Lib.hid (xbH.out.keep j10)
  have x4 := x4.keep j10
  have x6 := x6.keep j10
  have x8 := x8.keep j10
  clear p0 p1 p2 p3 p4 p5 p6 q0 q1 q2 q3 q4 q5 q6
  obtain ⟨p6, p0, p1, p2, p3, p4, p5⟩ := xaH.out
  obtain ⟨q6, q0, q1, q2, q3, q4, q5⟩ := xbH.out
  rw [hw10]
  clear hw10 hb9 k10 j10
  have aw := fun w => awake_c w
  have cs1 : ∀ p : In w10, Calls Try.prog 15 #[valV x.k x.b x.n x.f x.s none 0 0, valV x.k x.b x.n x.f x.s none 0 0] p.w fun e w' => e = .returned (.bool true) ∧ Below p.w.heap.size p.w w' := fun p => by
    have := rsame_c x x _ _ p.w (fX.has p.w) (fX.has p.w)
    rwa [sameV_self] at this
  have cs2 : ∀ p : In w10, Calls Try.prog 15 #[valV y.k y.b y.n y.f y.s none 0 0, valV y.k y.b y.n y.f y.s none 0 0] p.w fun e w' => e = .returned (.bool true) ∧ Below p.w.heap.size p.w w' := fun p => by
    have := rsame_c y y _ _ p.w (fY.has p.w) (fY.has p.w)
    rwa [sameV_self] at this
  clear p0 p1 p2 p3 p4 p5 p6 q0 q1 q2 q3 q4 q5 q6 cA cA2 cM cM2 fX fY xa1
  obtain ⟨p6, p0, p1, p2, p3, p4, p5⟩ := x4
  obtain ⟨q6, q0, q1, q2, q3, q4, q5⟩ := x6
  obtain ⟨r6, r0, r1, r2, r3, r4, r5⟩ := x8
  obtain ⟨s6, s0, s1, s2, s3, s4, s5⟩ := x10
  go_upto_region 7 with (first | ((with_reducible refine (aw _).mono ?_); rintro e w11 ⟨rfl, hb11⟩; (first | ((with_reducible obtain ⟨p, hw''⟩ := In.of2 p hb11); subst hw'') | (obtain ⟨p, hw''⟩ := In.of hb11; subst hw''))) | ((with_reducible refine (cs1 _).mono ?_); rintro e w12 ⟨rfl, hb12⟩; (first | ((with_reducible obtain ⟨p, hw''⟩ := In.of2 p hb12); subst hw'') | (obtain ⟨p, hw''⟩ := In.of hb12; subst hw''))) | ((with_reducible refine (cs2 _).mono ?_); rintro e w13 ⟨rfl, hb13⟩; (first | ((with_reducible obtain ⟨p, hw''⟩ := In.of2 p hb13); subst hw'') | (obtain ⟨p, hw''⟩ := In.of hb13; subst hw''))))
  have B11 := p.back B10
  have xaH := Lib.hid (xaH.out.keep p.h)
  clear p0 p1 p2 p3 p4 p5 p6 q0 q1 q2 q3 q4 q5 q6 r0 r1 r2 r3 r4 r5 r6 s0 s1 s2 s3 s4 s5 s6 cs1 cs2 xbH B10
  generalize p.w = w14 at *
  clear p
  obtain ⟨p6, p0, p1, p2, p3, p4, p5⟩ := xaH.out
  (refine wp_region_late_at (7) (5) [13] [13] (by kernel_rfl) (by kernel_rfl) (by kernel_rfl) (by kernel_rfl) ?_; (simp only [List.take_succ_cons, List.take_zero, List.drop_succ_cons, List.drop_zero, LateTail]))
  ((with_reducible refine wpRel_none (by kernel_rfl) (by kernel_rfl) ?_); intro K hK; go_simp; first | (with_reducible refine hK _ ?_; clear hK K) | (apply Exists.intro; (with_reducible refine ⟨fun _ => ⟨?_, _, rfl⟩, hK _ ?_⟩); (· exact rfl); clear hK K) | (apply Exists.intro; (with_reducible refine ⟨fun _ => ?_, hK _ ?_⟩); (· (with_reducible (fail))); clear hK K))
  ((with_reducible refine wpRel_none (by kernel_rfl) (by kernel_rfl) ?_); intro K hK; go_simp; first | (with_reducible refine hK _ ?_; clear hK K) | (apply Exists.intro; (with_reducible refine ⟨fun _ => ⟨?_, _, rfl⟩, hK _ ?_⟩); (· exact rfl); clear hK K) | (apply Exists.intro; (with_reducible refine ⟨fun _ => ?_, hK _ ?_⟩); (· (with_reducible (exact one_c 1 _))); clear hK K))
  ((with_reducible refine wpRel_none (by kernel_rfl) (by kernel_rfl) ?_); intro K hK; go_simp; first | (with_reducible refine hK _ ?_; clear hK K) | (apply Exists.intro; (with_reducible refine ⟨fun _ => ⟨?_, _, rfl⟩, hK _ ?_⟩); (· exact rfl); clear hK K) | (apply Exists.intro; (with_reducible refine ⟨fun _ => ?_, hK _ ?_⟩); (· (with_reducible (exact cM3 _))); clear hK K))
  ((with_reducible refine wpRel_none (by kernel_rfl) (by kernel_rfl) ?_); intro K hK; go_simp; first | (with_reducible refine hK _ ?_; clear hK K) | (apply Exists.intro; (with_reducible refine ⟨fun _ => ⟨?_, _, rfl⟩, hK _ ?_⟩); (· exact rfl); clear hK K) | (apply Exists.intro; (with_reducible refine ⟨fun _ => ?_, hK _ ?_⟩); (· (with_reducible (fail))); clear hK K))
  ((with_reducible refine wpRel_none (by kernel_rfl) (by kernel_rfl) ?_); intro K hK; go_simp; first | (with_reducible refine hK _ ?_; clear hK K) | (apply Exists.intro; (with_reducible refine ⟨fun _ => ⟨?_, _, rfl⟩, hK _ ?_⟩); (· exact rfl); clear hK K) | (apply Exists.intro; (with_reducible refine ⟨fun _ => ?_, hK _ ?_⟩); (· (with_reducible (fail))); clear hK K))
  ((with_reducible refine wpRel_none (by kernel_rfl) (by kernel_rfl) ?_); intro K hK; go_simp; first | (with_reducible refine hK _ ?_; clear hK K) | (apply Exists.intro; (with_reducible refine ⟨fun _ => ⟨?_, _, rfl⟩, hK _ ?_⟩); (· exact rfl); clear hK K) | (apply Exists.intro; (with_reducible refine ⟨fun _ => ?_, hK _ ?_⟩); (· (with_reducible (fail))); clear hK K))
  ((with_reducible refine wpRel_fact [] (13) (VarAt (w14.heap.size) (#[.int .i64 0, .bool false, .int .i64 0, .float .f64 0, .string (st []), .slice none 0 0]) (27)) (by kernel_rfl) rfl rfl (VarAt.steady _ _ _) (by first | exact rfl | go_simp) ?_ ?_); (· intro p; rw [pickR_nil]; (simp only [fillR]); go_wp2_with fail; exact var_post p.h.size rfl rfl))
  ((with_reducible refine wpRel_nil ?_); intro p; (simp only [fillR]))
  rintro u13 ⟨b13, h13, rfl, z13⟩
  intro _
  have k15 := p.h
  clear p0 p1 p2 p3 p4 p5 p6 cM3
  generalize p.w = w15 at *
  clear p
  have y13 : Cel w15 b13 0 false 0 0 [] none 0 0 := ⟨⟨(Array.getElem?_eq_some_iff.1 z13).1, cell_of z13 0, cell_of z13 1, cell_of z13 2, cell_of z13 3, cell_of z13 4, cell_of z13 5⟩, _, z13⟩
  obtain ⟨w16, hw16⟩ : ∃ w', put6 w15 b13 z.k z.b z.n z.f z.s none 0 0 = w' := ⟨_, rfl⟩
  have v13 : Box w16 b13 z.k z.b z.n z.f z.s none 0 0 := hw16 ▸ (y13.put _ _ _ _ _ none 0 0).box
  have k16 : Below w14.heap.size w14 w16 := hw16 ▸ put6_below k15 h13 _ _ _ _ _ _ _ _
  have B16 := B11.trans (k16.mono B11.size)
  have xaH := Lib.hid (xaH.out.keep k16)
  unfold put6 at hw16
  have q13 := fun j => y13.frozen j
  have l13 := y13.lt
  obtain ⟨t6, t0, t1, t2, t3, t4, t5⟩ := y13.box
  clear y13 z13
  go_simp
  go_upto_region 8 with fail
  clear hw16 t0 t1 t2 t3 t4 t5 t6 q13 l13 k15 h13
  obtain ⟨p6, p0, p1, p2, p3, p4, p5⟩ := xaH.out
  (refine wp_region_late_at (7) (5) [15] [15] (by kernel_rfl) (by kernel_rfl) (by kernel_rfl) (by kernel_rfl) ?_; (simp only [List.take_succ_cons, List.take_zero, List.drop_succ_cons, List.drop_zero, LateTail]))
  ((with_reducible refine wpRel_none (by kernel_rfl) (by kernel_rfl) ?_); intro K hK; go_simp; first | (with_reducible refine hK _ ?_; clear hK K) | (apply Exists.intro; (with_reducible refine ⟨fun _ => ⟨?_, _, rfl⟩, hK _ ?_⟩); (· exact rfl); clear hK K) | (apply Exists.intro; (with_reducible refine ⟨fun _ => ?_, hK _ ?_⟩); (· (with_reducible (fail))); clear hK K))
  ((with_reducible refine wpRel_none (by kernel_rfl) (by kernel_rfl) ?_); intro K hK; go_simp; first | (with_reducible refine hK _ ?_; clear hK K) | (apply Exists.intro; (with_reducible refine ⟨fun _ => ⟨?_, _, rfl⟩, hK _ ?_⟩); (· exact rfl); clear hK K) | (apply Exists.intro; (with_reducible refine ⟨fun _ => ?_, hK _ ?_⟩); (· (with_reducible (exact one_c 0 _))); clear hK K))
  ((with_reducible refine wpRel_none (by kernel_rfl) (by kernel_rfl) ?_); intro K hK; go_simp; first | (with_reducible refine hK _ ?_; clear hK K) | (apply Exists.intro; (with_reducible refine ⟨fun _ => ⟨?_, _, rfl⟩, hK _ ?_⟩); (· exact rfl); clear hK K) | (apply Exists.intro; (with_reducible refine ⟨fun _ => ?_, hK _ ?_⟩); (· (with_reducible (exact cA3 _))); clear hK K))
  ((with_reducible refine wpRel_none (by kernel_rfl) (by kernel_rfl) ?_); intro K hK; go_simp; first | (with_reducible refine hK _ ?_; clear hK K) | (apply Exists.intro; (with_reducible refine ⟨fun _ => ⟨?_, _, rfl⟩, hK _ ?_⟩); (· exact rfl); clear hK K) | (apply Exists.intro; (with_reducible refine ⟨fun _ => ?_, hK _ ?_⟩); (· (with_reducible (fail))); clear hK K))
  ((with_reducible refine wpRel_none (by kernel_rfl) (by kernel_rfl) ?_); intro K hK; go_simp; first | (with_reducible refine hK _ ?_; clear hK K) | (apply Exists.intro; (with_reducible refine ⟨fun _ => ⟨?_, _, rfl⟩, hK _ ?_⟩); (· exact rfl); clear hK K) | (apply Exists.intro; (with_reducible refine ⟨fun _ => ?_, hK _ ?_⟩); (· (with_reducible (fail))); clear hK K))
  ((with_reducible refine wpRel_none (by kernel_rfl) (by kernel_rfl) ?_); intro K hK; go_simp; first | (with_reducible refine hK _ ?_; clear hK K) | (apply Exists.intro; (with_reducible refine ⟨fun _ => ⟨?_, _, rfl⟩, hK _ ?_⟩); (· exact rfl); clear hK K) | (apply Exists.intro; (with_reducible refine ⟨fun _ => ?_, hK _ ?_⟩); (· (with_reducible (fail))); clear hK K))
  ((with_reducible refine wpRel_fact [] (15) (VarAt (w16.heap.size) (#[.int .i64 0, .bool false, .int .i64 0, .float .f64 0, .string (st []), .slice none 0 0]) (27)) (by kernel_rfl) rfl rfl (VarAt.steady _ _ _) (by first | exact rfl | go_simp) ?_ ?_); (· intro p; rw [pickR_nil]; (simp only [fillR]); go_wp2_with fail; exact var_post p.h.size rfl rfl))
  ((with_reducible refine wpRel_nil ?_); intro p; (simp only [fillR]))
  rintro u15 ⟨b15, h15, rfl, z15⟩
  intro _
  have k17 := p.h
  clear p0 p1 p2 p3 p4 p5 p6 cA3
  generalize p.w = w17 at *
  clear p
  have y15 : Cel w17 b15 0 false 0 0 [] none 0 0 := ⟨⟨(Array.getElem?_eq_some_iff.1 z15).1, cell_of z15 0, cell_of z15 1, cell_of z15 2, cell_of z15 3, cell_of z15 4, cell_of z15 5⟩, _, z15⟩
  obtain ⟨w18, hw18⟩ : ∃ w', put6 w17 b15 t.k t.b t.n t.f t.s none 0 0 = w' := ⟨_, rfl⟩
  have v15 : Box w18 b15 t.k t.b t.n t.f t.s none 0 0 := hw18 ▸ (y15.put _ _ _ _ _ none 0 0).box
  have k18 : Below w16.heap.size w16 w18 := hw18 ▸ put6_below k17 h15 _ _ _ _ _ _ _ _
  have B18 := B16.trans (k18.mono B16.size)
  have xaH := Lib.hid (xaH.out.keep k18)
  have v13 := v13.keep k18
  unfold put6 at hw18
  have q15 := fun j => y15.frozen j
  have l15 := y15.lt
  obtain ⟨t6, t0, t1, t2, t3, t4, t5⟩ := y15.box
  clear y15 z15
  go_simp
  go_upto_region 9 with fail
  clear hw18 t0 t1 t2 t3 t4 t5 t6 q15 l15 k17 h15
  obtain ⟨p6, p0, p1, p2, p3, p4, p5⟩ := xaH.out
  by_cases hk : a.k = 2
  · obtain ⟨hz, he⟩ := Prod.mk.inj (hone.out hk)
    subst hz
    subst he
    obtain ⟨ht, he⟩ := Prod.mk.inj (hzero.out hk)
    subst ht
    subst he
    have v13 : Box w18 b13 2 false a.n 0 [] none 0 0 := v13
    have v15 : Box w18 b15 2 false a.n 0 [] none 0 0 := v15
    rw [hk] at p0
    have hkh := Lib.hid hk
    obtain ⟨r6, r0, r1, r2, r3, r4, r5⟩ := v13
    obtain ⟨s6, s0, s1, s2, s3, s4, s5⟩ := v15
    have cs : ∀ p : In w18, Calls Try.prog 15 #[valV 2 false a.n 0 [] none 0 0, valV 2 false a.n 0 [] none 0 0] p.w fun e w' => e = .returned (.bool true) ∧ Below p.w.heap.size p.w w' := fun p => by
      have hf := (intV_flat hna.out).has p.w
      have := rsame_c (intV a.n) (intV a.n) _ _ p.w hf hf
      rwa [sameV_self] at this
    clear hk hone hzero fZ fW
    go_upto_region 11 with fail
    (refine wp_region_flow [] (by kernel_rfl) (by kernel_rfl) ?_; (repeat (((with_reducible refine wpFlow_steps ?_); intro K hK; go_simp; first | (with_reducible refine hK _ ?_; clear hK K) | (apply Exists.intro; (with_reducible refine ⟨fun _ => ⟨?_, _, rfl⟩, hK _ ?_⟩); (· exact rfl); clear hK K) | (apply Exists.intro; (with_reducible refine ⟨fun _ => ⟨_, rfl⟩, hK _ ?_⟩); clear hK K) | (apply Exists.intro; (with_reducible refine ⟨fun _ => ?_, hK _ ?_⟩); (· (with_reducible (first | exact one_c _ _ | exact cs _))); clear hK K)))); (refine wpFlow_nil ?_; rintro w1 ⟨q0, hq0⟩; have hb := In.h q0; rw [← hq0] at hb; clear hq0 q0; (first | ((with_reducible obtain ⟨p, hw''⟩ := In.of2 p hb); subst hw'') | (obtain ⟨p, hw''⟩ := In.of hb; subst hw'')); go_simp; intros))
    go_wp2_with fail
    go_ret
    exact ⟨rfl, p.back B18⟩
  · clear hone hzero fZ fW v13 v15
    go_wp2_with fail
    go_ret
    exact ⟨rfl, B18⟩
end Go.Proofs.Ytipjelkdbbhcpaa
