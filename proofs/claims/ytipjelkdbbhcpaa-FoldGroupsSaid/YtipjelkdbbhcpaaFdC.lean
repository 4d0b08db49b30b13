
/-
  The reference's Add.
-/
import Derived.Test.YtipjelkdbbhcpaaFdB
import Derived.Test.YtipjelkdbbhcpaaNumC
set_option linter.unusedSimpArgs false
set_option linter.unusedVariables false
namespace Go.Proofs.Ytipjelkdbbhcpaa
open Go.RowKit Go.Deep

set_option maxRecDepth 8000 in
set_option maxHeartbeats 2000000 in
theorem radd_c (a b : Val) (A B : Option Addr) (la ca lb cb : Nat) (w : World) (ha : I64 a.n) (hb : I64 b.n) :
    Calls Try.prog 21 #[valV a.k a.b a.n a.f a.s A la ca, valV b.k b.b b.n b.f b.s B lb cb] w (RArEnds (arV .add (· + ·) a b) w) := by
  obtain ⟨w1, hw1⟩ : ∃ w1, w1 = w.alloc (.cells #[.int .i64 a.k, .bool a.b, .int .i64 a.n, .float .f64 a.f, .string (st a.s), .slice A la ca] 27) := ⟨_, rfl⟩
  obtain ⟨w2, hw2⟩ : ∃ w2, w2 = w1.alloc (.cells #[.int .i64 b.k, .bool b.b, .int .i64 b.n, .float .f64 b.f, .string (st b.s), .slice B lb cb] 27) := ⟨_, rfl⟩
  obtain ⟨w3, hw3⟩ : ∃ w3, w3 = w2.alloc (.cells #[.int .i64 0, .bool false, .int .i64 0, .float .f64 0, .string (st []), .slice none 0 0] 27) := ⟨_, rfl⟩
  have s1 : w1.heap.size = w.heap.size + 1 := hw1 ▸ alloc_grows _ _ rfl
  have s2 : w2.heap.size = w.heap.size + 1 + 1 := hw2 ▸ alloc_grows _ _ s1
  have b3 : Below w.heap.size w w3 := hw3 ▸ hw2 ▸ hw1 ▸ ((below_alloc w _).alloc (by simp) _).alloc (by simp; omega) _
  have z1 : w3.heap[w.heap.size]? = _ := hw3 ▸ alloc_past _ (hw2 ▸ alloc_past _ (hw1 ▸ alloc_here w _))
  have z2 : w3.heap[w.heap.size + 1]? = _ := hw3 ▸ alloc_past _ (hw2 ▸ s1 ▸ alloc_here w1 _)
  have z3 : w3.heap[w.heap.size + 1 + 1]? = _ := hw3 ▸ s2 ▸ alloc_here w2 _
  have hwa : ((w.alloc (.cells #[.int .i64 a.k, .bool a.b, .int .i64 a.n, .float .f64 a.f, .string (st a.s), .slice A la ca] 27)).alloc (.cells #[.int .i64 b.k, .bool b.b, .int .i64 b.n, .float .f64 b.f, .string (st b.s), .slice B lb cb] 27)).alloc (.cells #[.int .i64 0, .bool false, .int .i64 0, .float .f64 0, .string (st []), .slice none 0 0] 27) = w3 := by rw [hw3, hw2, hw1]
  clear hw1 hw2 hw3 s1 s2
  have q1 := fun j => cell_of z1 j
  have q2 := fun j => cell_of z2 j
  have q3 := fun j => cell_of z3 j
  have f3 := fun j => frozen_of z3 j
  have l1 := (Array.getElem?_eq_some_iff.1 z1).1
  have l2 := (Array.getElem?_eq_some_iff.1 z2).1
  have l3 := (Array.getElem?_eq_some_iff.1 z3).1
  clear z1 z2 z3
  have y5 : w.heap.size ≤ w.heap.size + 1 + 1 := by omega
  have cna : ∀ wx, Calls Try.prog 44 #[valV a.k a.b a.n a.f a.s A la ca] wx fun e w' => e = .returned (.bool (isNum a)) ∧ Below wx.heap.size wx w' := fun wx => rfnum_c a A la ca wx
  have cnb : ∀ wx, Calls Try.prog 44 #[valV b.k b.b b.n b.f b.s B lb cb] wx fun e w' => e = .returned (.bool (isNum b)) ∧ Below wx.heap.size wx w' := fun wx => rfnum_c b B lb cb wx
  have hE : arV .add (· + ·) a b = if (isNum a && isNum b) = false then (noV, 190) else if (a.k == 3 || b.k == 3) = true then (floV1 (opC .add (floV a) (floV b)), 0) else if fits (a.n + b.n) then (intV (a.n + b.n), 0) else (noV, 191) := rfl
  have hE' := Lib.hid hE
  clear hE
  generalize arV .add (· + ·) a b = X at *
  go_enter Try.func21, Try.ntmps21
  cases hna : isNum a
  · rw [hna] at cna
    go_upto_region 2 with ((with_reducible refine (cna _).mono ?_); rintro e w4 ⟨rfl, hb4⟩; (first | ((with_reducible obtain ⟨p, hw''⟩ := In.of2 p hb4); subst hw'') | (obtain ⟨p, hw''⟩ := In.of hb4; subst hw'')))
    have hX : X = (noV, 190) := by rw [hE'.out, hna]; rfl
    have bp := p.back b3
    clear cna cnb hE'
    go_wp2
    refine bodyPost_ret (v := .tuple #[valV 0 false 0 0 [] none 0 0, .int .i64 190]) (by simp only [results, Try.results21]; go_simp) rfl ⟨noV, by rw [hX]; rfl, noV_flat, by rw [hX]; exact sameV_self _, ?_⟩
    repeat (with_reducible refine back_set ?_ _ y5 _)
    exact bp
  · cases hnb : isNum b
    · rw [hna] at cna
      rw [hnb] at cnb
      go_upto_region 2 with (first | ((with_reducible refine (cna _).mono ?_); rintro e w4 ⟨rfl, hb4⟩; (first | ((with_reducible obtain ⟨p, hw''⟩ := In.of2 p hb4); subst hw'') | (obtain ⟨p, hw''⟩ := In.of hb4; subst hw''))) | ((with_reducible refine (cnb _).mono ?_); rintro e w5 ⟨rfl, hb5⟩; (first | ((with_reducible obtain ⟨p, hw''⟩ := In.of2 p hb5); subst hw'') | (obtain ⟨p, hw''⟩ := In.of hb5; subst hw''))))
      have hX : X = (noV, 190) := by rw [hE'.out, hna, hnb]; rfl
      have bp := p.back b3
      clear cna cnb hE'
      go_wp2
      refine bodyPost_ret (v := .tuple #[valV 0 false 0 0 [] none 0 0, .int .i64 190]) (by simp only [results, Try.results21]; go_simp) rfl ⟨noV, by rw [hX]; rfl, noV_flat, by rw [hX]; exact sameV_self _, ?_⟩
      repeat (with_reducible refine back_set ?_ _ y5 _)
      exact bp
    · rw [hna] at cna
      rw [hnb] at cnb
      have hX : X = if (a.k == 3 || b.k == 3) = true then (floV1 (opC .add (floV a) (floV b)), 0) else if fits (a.n + b.n) then (intV (a.n + b.n), 0) else (noV, 191) := by rw [hE'.out, hna, hnb]; rfl
      have hX' := Lib.hid hX
      clear hE' hX
      go_upto_region 3 with (first | ((with_reducible refine (cna _).mono ?_); rintro e w4 ⟨rfl, hb4⟩; (first | ((with_reducible obtain ⟨p, hw''⟩ := In.of2 p hb4); subst hw'') | (obtain ⟨p, hw''⟩ := In.of hb4; subst hw''))) | ((with_reducible refine (cnb _).mono ?_); rintro e w5 ⟨rfl, hb5⟩; (first | ((with_reducible obtain ⟨p, hw''⟩ := In.of2 p hb5); subst hw'') | (obtain ⟨p, hw''⟩ := In.of hb5; subst hw''))))
      have bp := p.back b3
      have q1 := fun j => (p.h.cell (p := ⟨w.heap.size, j, none⟩) l1).trans (q1 j)
      have q2 := fun j => (p.h.cell (p := ⟨w.heap.size + 1, j, none⟩) l2).trans (q2 j)
      have q3 := fun j => (p.h.cell (p := ⟨w.heap.size + 1 + 1, j, none⟩) l3).trans (q3 j)
      have f3 := fun j => (p.h.frozen (p := ⟨w.heap.size + 1 + 1, j, none⟩) l3).trans (f3 j)
      have l1 := Nat.lt_of_lt_of_le l1 p.h.size
      have l2 := Nat.lt_of_lt_of_le l2 p.h.size
      have l3 := Nat.lt_of_lt_of_le l3 p.h.size
      have cfa : ∀ wx, Calls Try.prog 45 #[valV a.k a.b a.n a.f a.s A la ca] wx fun e w' => e = .returned (.float .f64 (floV a)) ∧ Below wx.heap.size wx w' := fun wx => rflo_c a hna A la ca wx
      have cfb : ∀ wx, Calls Try.prog 45 #[valV b.k b.b b.n b.f b.s B lb cb] wx fun e w' => e = .returned (.float .f64 (floV b)) ∧ Below wx.heap.size wx w' := fun wx => rflo_c b hnb B lb cb wx
      have hk1 : a.k = 2 ∨ a.k = 3 := by unfold isNum at hna; simpa using hna
      have hk2 : b.k = 2 ∨ b.k = 3 := by unfold isNum at hnb; simpa using hnb
      clear cna cnb hna hnb b3
      generalize p.w = w6 at *
      clear p
      generalize a.k = ka at *
      generalize b.k = kb at *
      by_cases h3 : ka = 2
      · subst h3
        clear hk1
        by_cases h4 : kb = 2
        · subst h4
          clear hk2
          have hX : X = if fits (a.n + b.n) then (intV (a.n + b.n), 0) else (noV, 191) := by rw [hX'.out]; rfl
          have hX2 := Lib.hid hX
          clear hX' hX cfa cfb
          have cx := fun wx => fits_add_c a.n b.n wx ha hb
          cases hf : fits (a.n + b.n)
          · have hX3 : X = (noV, 191) := by rw [hX2.out, hf]; rfl
            have hX3 := Lib.hid hX3
            rw [hf] at cx
            clear hX2
            go_wp2_with ((with_reducible refine (cx _).mono ?_); rintro e w8 ⟨rfl, rfl⟩)
            refine bodyPost_ret (v := .tuple #[valV 0 false 0 0 [] none 0 0, .int .i64 191]) (by simp only [results, Try.results21]; go_simp) rfl ⟨noV, by rw [hX3.out]; rfl, noV_flat, by rw [hX3.out]; exact sameV_self _, ?_⟩
            repeat (with_reducible refine back_set ?_ _ y5 _)
            exact bp
          · have hX3 : X = (intV (a.n + b.n), 0) := by rw [hX2.out, hf]; rfl
            have hX3 := Lib.hid hX3
            have hm := fits_i64 hf
            have hwr : IntKind.i64.wrap (a.n + b.n) = a.n + b.n := by
              have := hm.lo
              have := hm.hi
              rw [wrap_i64]; omega
            have hm := Lib.hid hm
            rw [hf] at cx
            clear hX2 hf
            go_wp2_with (first | ((with_reducible refine (cx _).mono ?_); rintro e w8 ⟨rfl, rfl⟩))
            refine bodyPost_ret (v := .tuple #[valV 2 false (a.n + b.n) 0 [] none 0 0, .int .i64 0]) (by simp only [results, Try.results21]; go_simp) rfl ⟨intV (a.n + b.n), by rw [hX3.out]; rfl, intV_flat hm.out, by rw [hX3.out]; exact sameV_self _, ?_⟩
            repeat (with_reducible refine back_set ?_ _ y5 _)
            exact bp
        · have hk3 : kb = 3 := hk2.resolve_left h4
          subst hk3
          clear hk2 h4
          have hX : X = (floV1 (opC .add (floV a) (floV b)), 0) := by rw [hX'.out]; rfl
          have hX2 := Lib.hid hX
          clear hX' hX
          generalize floV a = fa at *
          generalize floV b = fb' at *
          have hcn := opC_canon .add fa fb'
          have hcn := Lib.hid hcn
          go_upto_region 7 with fail
          (refine wp_region_rel_at (6) [42, 43] [] (by kernel_rfl) (by kernel_rfl) (by kernel_rfl) ?_; (simp only [List.take_succ_cons, List.take_zero, List.drop_succ_cons, List.drop_zero]))
          ((with_reducible refine wpRel_none (by kernel_rfl) (by kernel_rfl) ?_); intro K hK; go_simp; first | (with_reducible refine hK _ ?_; clear hK K) | (apply Exists.intro; (with_reducible refine ⟨fun _ => ⟨?_, _, rfl⟩, hK _ ?_⟩); (· exact rfl); clear hK K) | (apply Exists.intro; (with_reducible refine ⟨fun _ => ?_, hK _ ?_⟩); (· (with_reducible (fail))); clear hK K))
          ((with_reducible refine wpRel_none (by kernel_rfl) (by kernel_rfl) ?_); intro K hK; go_simp; first | (with_reducible refine hK _ ?_; clear hK K) | (apply Exists.intro; (with_reducible refine ⟨fun _ => ⟨?_, _, rfl⟩, hK _ ?_⟩); (· exact rfl); clear hK K) | (apply Exists.intro; (with_reducible refine ⟨fun _ => ?_, hK _ ?_⟩); (· (with_reducible (exact cfa _))); clear hK K))
          ((with_reducible refine wpRel_none (by kernel_rfl) (by kernel_rfl) ?_); intro K hK; go_simp; first | (with_reducible refine hK _ ?_; clear hK K) | (apply Exists.intro; (with_reducible refine ⟨fun _ => ⟨?_, _, rfl⟩, hK _ ?_⟩); (· exact rfl); clear hK K) | (apply Exists.intro; (with_reducible refine ⟨fun _ => ?_, hK _ ?_⟩); (· (with_reducible (fail))); clear hK K))
          ((with_reducible refine wpRel_none (by kernel_rfl) (by kernel_rfl) ?_); intro K hK; go_simp; first | (with_reducible refine hK _ ?_; clear hK K) | (apply Exists.intro; (with_reducible refine ⟨fun _ => ⟨?_, _, rfl⟩, hK _ ?_⟩); (· exact rfl); clear hK K) | (apply Exists.intro; (with_reducible refine ⟨fun _ => ?_, hK _ ?_⟩); (· (with_reducible (exact cfb _))); clear hK K))
          (with_reducible refine wpRel_fact [] (42) ((FloF (opC .add fa fb'))) (by kernel_rfl) rfl rfl ((FloF.steady _)) (by first | exact rfl | go_simp) (fun p => ?_) ?_)
          · (try simp only [pickR, pickR_nil, fillR, List.contains_cons, List.contains_nil, Nat.reduceBEq, Bool.or_false, Bool.or_true, Bool.true_or, Bool.false_or, if_true, if_false, Bool.false_eq_true])
            cases hb : floatBits .add .f64 fa fb' with
            | none =>
              have Ha : Hid (opC .add fa fb' = 9221120237041090561) := by unfold opC; rw [hb]; rfl
              have hrun := fun (w : World) (t : TypeId) => run_float_nan (P := Try.prog) w .add (.inl rfl) t fa fb' hb
              clear hb
              go_wp2_with fail
              exact ⟨fun h => absurd h (by decide), rfl, rfl, below_drew _, ⟨_, rfl, by rw [Ha.out]; exact canon_nan (nanAns_isNaN _ _ _).1, (nanAns_isNaN _ _ _).2⟩⟩
            | some r =>
              have Ha : Hid (opC .add fa fb' = canon r) := by unfold opC; rw [hb]; rfl
              have hu := u64_some hb
              have hrun := fun (w : World) (t : TypeId) => run_float_arith (P := Try.prog) w .add t .f64 fa fb' r hb
              clear hb
              go_wp2_with fail
              exact ⟨fun h => absurd h (by decide), rfl, rfl, Below.refl _ _, ⟨_, rfl, Ha.out.symm, hu⟩⟩
          (with_reducible refine wpRel_fact [42] (43) ((FlvF (opC .add fa fb'))) (by kernel_rfl) rfl rfl ((FlvF.steady _)) (by first | exact rfl | go_simp) (fun p => ?_) ?_)
          · (try simp only [pickR, pickR_nil, fillR, List.contains_cons, List.contains_nil, Nat.reduceBEq, Bool.or_false, Bool.or_true, Bool.true_or, Bool.false_or, if_true, if_false, Bool.false_eq_true])
            rintro u ⟨r, rfl, hr, hu⟩
            go_wp2_with fail
            exact ⟨fun h => absurd h (by decide), rfl, rfl, Below.refl _ _, ⟨_, rfl, hr, hu⟩⟩
          ((with_reducible refine wpRel_nil ?_); intro p; (simp only [fillR]))
          rintro u43 ⟨r, rfl, hr, hru⟩ u42 _ _
          have bp2 := p.back bp
          have q3 := fun j => (p.h.cell (p := ⟨w.heap.size + 1 + 1, j, none⟩) l3).trans (q3 j)
          have f3 := fun j => (p.h.frozen (p := ⟨w.heap.size + 1 + 1, j, none⟩) l3).trans (f3 j)
          have l3 := Nat.lt_of_lt_of_le l3 p.h.size
          clear cfa cfb bp
          generalize p.w = w7 at *
          clear p q1 q2 l1 l2
          have hr := Lib.hid hr
          go_simp
          go_wp2_with fail
          refine bodyPost_ret (v := .tuple #[valV 3 false 0 r [] none 0 0, .int .i64 0]) (by simp only [results, Try.results21]; go_simp) rfl ⟨floV1 r, by rw [hX2.out]; rfl, floV_flat hru, by rw [hX2.out]; simp [sameV, sameVL, hr.out, hcn.out], ?_⟩
          repeat (with_reducible refine back_set ?_ _ y5 _)
          exact bp2
      · have hk3 : ka = 3 := hk1.resolve_left h3
        subst hk3
        clear hk1 h3
        have hX : X = (floV1 (opC .add (floV a) (floV b)), 0) := by rw [hX'.out]; rfl
        have hX2 := Lib.hid hX
        clear hX' hX
        generalize floV a = fa at *
        generalize floV b = fb' at *
        have hcn := opC_canon .add fa fb'
        have hcn := Lib.hid hcn
        go_upto_region 7 with fail
        (refine wp_region_rel_at (6) [42, 43] [] (by kernel_rfl) (by kernel_rfl) (by kernel_rfl) ?_; (simp only [List.take_succ_cons, List.take_zero, List.drop_succ_cons, List.drop_zero]))
        ((with_reducible refine wpRel_none (by kernel_rfl) (by kernel_rfl) ?_); intro K hK; go_simp; first | (with_reducible refine hK _ ?_; clear hK K) | (apply Exists.intro; (with_reducible refine ⟨fun _ => ⟨?_, _, rfl⟩, hK _ ?_⟩); (· exact rfl); clear hK K) | (apply Exists.intro; (with_reducible refine ⟨fun _ => ?_, hK _ ?_⟩); (· (with_reducible (fail))); clear hK K))
        ((with_reducible refine wpRel_none (by kernel_rfl) (by kernel_rfl) ?_); intro K hK; go_simp; first | (with_reducible refine hK _ ?_; clear hK K) | (apply Exists.intro; (with_reducible refine ⟨fun _ => ⟨?_, _, rfl⟩, hK _ ?_⟩); (· exact rfl); clear hK K) | (apply Exists.intro; (with_reducible refine ⟨fun _ => ?_, hK _ ?_⟩); (· (with_reducible (exact cfa _))); clear hK K))
        ((with_reducible refine wpRel_none (by kernel_rfl) (by kernel_rfl) ?_); intro K hK; go_simp; first | (with_reducible refine hK _ ?_; clear hK K) | (apply Exists.intro; (with_reducible refine ⟨fun _ => ⟨?_, _, rfl⟩, hK _ ?_⟩); (· exact rfl); clear hK K) | (apply Exists.intro; (with_reducible refine ⟨fun _ => ?_, hK _ ?_⟩); (· (with_reducible (fail))); clear hK K))
        ((with_reducible refine wpRel_none (by kernel_rfl) (by kernel_rfl) ?_); intro K hK; go_simp; first | (with_reducible refine hK _ ?_; clear hK K) | (apply Exists.intro; (with_reducible refine ⟨fun _ => ⟨?_, _, rfl⟩, hK _ ?_⟩); (· exact rfl); clear hK K) | (apply Exists.intro; (with_reducible refine ⟨fun _ => ?_, hK _ ?_⟩); (· (with_reducible (exact cfb _))); clear hK K))
        (with_reducible refine wpRel_fact [] (42) ((FloF (opC .add fa fb'))) (by kernel_rfl) rfl rfl ((FloF.steady _)) (by first | exact rfl | go_simp) (fun p => ?_) ?_)
        · (try simp only [pickR, pickR_nil, fillR, List.contains_cons, List.contains_nil, Nat.reduceBEq, Bool.or_false, Bool.or_true, Bool.true_or, Bool.false_or, if_true, if_false, Bool.false_eq_true])
          cases hb : floatBits .add .f64 fa fb' with
          | none =>
            have Ha : Hid (opC .add fa fb' = 9221120237041090561) := by unfold opC; rw [hb]; rfl
            have hrun := fun (w : World) (t : TypeId) => run_float_nan (P := Try.prog) w .add (.inl rfl) t fa fb' hb
            clear hb
            go_wp2_with fail
            exact ⟨fun h => absurd h (by decide), rfl, rfl, below_drew _, ⟨_, rfl, by rw [Ha.out]; exact canon_nan (nanAns_isNaN _ _ _).1, (nanAns_isNaN _ _ _).2⟩⟩
          | some r =>
            have Ha : Hid (opC .add fa fb' = canon r) := by unfold opC; rw [hb]; rfl
            have hu := u64_some hb
            have hrun := fun (w : World) (t : TypeId) => run_float_arith (P := Try.prog) w .add t .f64 fa fb' r hb
            clear hb
            go_wp2_with fail
            exact ⟨fun h => absurd h (by decide), rfl, rfl, Below.refl _ _, ⟨_, rfl, Ha.out.symm, hu⟩⟩
        (with_reducible refine wpRel_fact [42] (43) ((FlvF (opC .add fa fb'))) (by kernel_rfl) rfl rfl ((FlvF.steady _)) (by first | exact rfl | go_simp) (fun p => ?_) ?_)
        · (try simp only [pickR, pickR_nil, fillR, List.contains_cons, List.contains_nil, Nat.reduceBEq, Bool.or_false, Bool.or_true, Bool.true_or, Bool.false_or, if_true, if_false, Bool.false_eq_true])
          rintro u ⟨r, rfl, hr, hu⟩
          go_wp2_with fail
          exact ⟨fun h => absurd h (by decide), rfl, rfl, Below.refl _ _, ⟨_, rfl, hr, hu⟩⟩
        ((with_reducible refine wpRel_nil ?_); intro p; (simp only [fillR]))
        rintro u43 ⟨r, rfl, hr, hru⟩ u42 _ _
        have bp2 := p.back bp
        have q3 := fun j => (p.h.cell (p := ⟨w.heap.size + 1 + 1, j, none⟩) l3).trans (q3 j)
        have f3 := fun j => (p.h.frozen (p := ⟨w.heap.size + 1 + 1, j, none⟩) l3).trans (f3 j)
        have l3 := Nat.lt_of_lt_of_le l3 p.h.size
        clear cfa cfb bp
        generalize p.w = w7 at *
        clear p q1 q2 l1 l2
        have hr := Lib.hid hr
        go_simp
        go_wp2_with fail
        refine bodyPost_ret (v := .tuple #[valV 3 false 0 r [] none 0 0, .int .i64 0]) (by simp only [results, Try.results21]; go_simp) rfl ⟨floV1 r, by rw [hX2.out]; rfl, floV_flat hru, by rw [hX2.out]; simp [sameV, sameVL, hr.out, hcn.out], ?_⟩
        repeat (with_reducible refine back_set ?_ _ y5 _)
        exact bp2
end Go.Proofs.Ytipjelkdbbhcpaa
