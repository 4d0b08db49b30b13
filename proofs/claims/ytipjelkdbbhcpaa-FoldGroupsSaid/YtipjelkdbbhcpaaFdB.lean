
/-
  fold.Add; the reference's.
-/
import Derived.Test.YtipjelkdbbhcpaaFdA
set_option linter.unusedSimpArgs false
set_option linter.unusedVariables false
namespace Go.Proofs.Ytipjelkdbbhcpaa
open Go.RowKit Go.Deep

def FloF (c : Nat) : Fact := fun u _ => ∃ r, u = .float .f64 r ∧ canon r = c ∧ U64 r
theorem FloF.steady (c : Nat) : Steady (FloF c) := ⟨fun u w w' h _ => h⟩
def FlvF (c : Nat) : Fact := fun u _ => ∃ r, u = valV 3 false 0 r [] none 0 0 ∧ canon r = c ∧ U64 r
theorem FlvF.steady (c : Nat) : Steady (FlvF c) := ⟨fun u w w' h _ => h⟩
def ArEnds (x : Val × Int) (w : World) (e : Ending) (w' : World) : Prop := e = .returned (.tuple #[flat x.1, .int .i64 x.2]) ∧ Below w.heap.size w w'
/-- .. the same but for the bits of what is no number -/
def RArEnds (x : Val × Int) (w : World) (e : Ending) (w' : World) : Prop := ∃ y : Val, e = .returned (.tuple #[flat y, .int .i64 x.2]) ∧ Flat y ∧ sameV y x.1 = true ∧ Below w.heap.size w w'
theorem below_drew (w : World) : Below w.heap.size w w.drew := ⟨rfl, rfl, rfl, Nat.le_refl _, fun _ _ => rfl⟩

set_option maxRecDepth 8000 in
set_option maxHeartbeats 2000000 in
theorem fadd_c (a b : Val) (A B : Option Addr) (la ca lb cb : Nat) (w : World) (ha : I64 a.n) (hb : I64 b.n) :
    Calls Try.prog 20 #[valV a.k a.b a.n a.f a.s A la ca, valV b.k b.b b.n b.f b.s B lb cb] w (ArEnds (arV .add (· + ·) a b) w) := by
  obtain ⟨w1, hw1⟩ : ∃ w1, w1 = w.alloc (.cells #[.int .i64 a.k, .bool a.b, .int .i64 a.n, .float .f64 a.f, .string (st a.s), .slice A la ca] 27) := ⟨_, rfl⟩
  obtain ⟨w2, hw2⟩ : ∃ w2, w2 = w1.alloc (.cells #[.int .i64 b.k, .bool b.b, .int .i64 b.n, .float .f64 b.f, .string (st b.s), .slice B lb cb] 27) := ⟨_, rfl⟩
  obtain ⟨w3, hw3⟩ : ∃ w3, w3 = w2.alloc (.cells #[.int .i64 0, .bool false, .int .i64 0, .float .f64 0, .string (st []), .slice none 0 0] 27) := ⟨_, rfl⟩
  have s1 : w1.heap.size = w.heap.size + 1 := hw1 ▸ alloc_grows _ _ rfl
  have s2 : w2.heap.size = w.heap.size + 1 + 1 := hw2 ▸ alloc_grows _ _ s1
  have b3 : Below w.heap.size w w3 := hw3 ▸ hw2 ▸ hw1 ▸ ((below_alloc w _).alloc (by simp) _).alloc (by simp; omega) _
  have z1 : w3.heap[w.heap.size]? = _ := hw3 ▸ alloc_past _ (hw2 ▸ alloc_past _ (hw1 ▸ alloc_here w _))
  have z2 : w3.heap[w.heap.size + 1]? = _ := hw3 ▸ alloc_past _ (hw2 ▸ s1 ▸ alloc_here w1 _)
  have z3 : w3.heap[w.heap.size + 1 + 1]? = _ := hw3 ▸ s2 ▸ alloc_here w2 _
  have hwa : ((w.alloc (.cells #[.int .i64 a.k, .bool a.b, .int .i64 a.n, .float .f64 a.f, .string (st a.s), .slice A la ca] 27)).alloc (.cells #[.int .i64 b.k, .bool b.b, .int .i64 b.n, .float .f64 b.f, .string (st b.s), .slice B lb cb] 27)).alloc (.cells #[.int .i64 0, .bool false, .int .i64 0, .float .f64 0, .string (st []), .slice none 0 0] 27) = w3 := by rw [hw3, hw2, hw1]
  clear hw1 hw2 hw3 s1 s2
  have q1 := fun j => cell_of z1 j
  have q2 := fun j => cell_of z2 j
  have q3 := fun j => cell_of z3 j
  have f3 := fun j => frozen_of z3 j
  have l1 := (Array.getElem?_eq_some_iff.1 z1).1
  have l2 := (Array.getElem?_eq_some_iff.1 z2).1
  have l3 := (Array.getElem?_eq_some_iff.1 z3).1
  clear z1 z2 z3
  have y5 : w.heap.size ≤ w.heap.size + 1 + 1 := by omega
  have cna : ∀ wx, Calls Try.prog 40 #[valV a.k a.b a.n a.f a.s A la ca] wx fun e w' => e = .returned (.bool (isNum a)) ∧ Below wx.heap.size wx w' := fun wx => fnum_c a A la ca wx
  have cnb : ∀ wx, Calls Try.prog 40 #[valV b.k b.b b.n b.f b.s B lb cb] wx fun e w' => e = .returned (.bool (isNum b)) ∧ Below wx.heap.size wx w' := fun wx => fnum_c b B lb cb wx
  have cfa : ∀ wx, Calls Try.prog 41 #[valV a.k a.b a.n a.f a.s A la ca] wx fun e w' => e = .returned (.float .f64 (floV a)) ∧ Below wx.heap.size wx w' := fun wx => flo_c a A la ca wx
  have cfb : ∀ wx, Calls Try.prog 41 #[valV b.k b.b b.n b.f b.s B lb cb] wx fun e w' => e = .returned (.float .f64 (floV b)) ∧ Below wx.heap.size wx w' := fun wx => flo_c b B lb cb wx
  have hE : arV .add (· + ·) a b = if (isNum a && isNum b) = false then (noV, 190) else if (a.k == 3 || b.k == 3) = true then (floV1 (opC .add (floV a) (floV b)), 0) else if fits (a.n + b.n) then (intV (a.n + b.n), 0) else (noV, 191) := rfl
  have hE' := Lib.hid hE
  clear hE
  generalize arV .add (· + ·) a b = X at *
  go_enter Try.func20, Try.ntmps20
  cases hna : isNum a
  · rw [hna] at cna
    go_upto_region 2 with ((with_reducible refine (cna _).mono ?_); rintro e w4 ⟨rfl, hb4⟩; (first | ((with_reducible obtain ⟨p, hw''⟩ := In.of2 p hb4); subst hw'') | (obtain ⟨p, hw''⟩ := In.of hb4; subst hw'')))
    have hX : X = (noV, 190) := by rw [hE'.out, hna]; rfl
    have bp := p.back b3
    clear cna cnb cfa cfb hE'
    go_wp2
    refine bodyPost_ret (v := .tuple #[valV 0 false 0 0 [] none 0 0, .int .i64 190]) (by simp only [results, Try.results20]; go_simp) rfl ⟨by rw [hX]; rfl, ?_⟩
    repeat (with_reducible refine back_set ?_ _ y5 _)
    exact bp
  · cases hnb : isNum b
    · rw [hna] at cna
      rw [hnb] at cnb
      go_upto_region 2 with (first | ((with_reducible refine (cna _).mono ?_); rintro e w4 ⟨rfl, hb4⟩; (first | ((with_reducible obtain ⟨p, hw''⟩ := In.of2 p hb4); subst hw'') | (obtain ⟨p, hw''⟩ := In.of hb4; subst hw''))) | ((with_reducible refine (cnb _).mono ?_); rintro e w5 ⟨rfl, hb5⟩; (first | ((with_reducible obtain ⟨p, hw''⟩ := In.of2 p hb5); subst hw'') | (obtain ⟨p, hw''⟩ := In.of hb5; subst hw''))))
      have hX : X = (noV, 190) := by rw [hE'.out, hna, hnb]; rfl
      have bp := p.back b3
      clear cna cnb cfa cfb hE'
      go_wp2
      refine bodyPost_ret (v := .tuple #[valV 0 false 0 0 [] none 0 0, .int .i64 190]) (by simp only [results, Try.results20]; go_simp) rfl ⟨by rw [hX]; rfl, ?_⟩
      repeat (with_reducible refine back_set ?_ _ y5 _)
      exact bp
    · rw [hna] at cna
      rw [hnb] at cnb
      have hX : X = if (a.k == 3 || b.k == 3) = true then (floV1 (opC .add (floV a) (floV b)), 0) else if fits (a.n + b.n) then (intV (a.n + b.n), 0) else (noV, 191) := by rw [hE'.out, hna, hnb]; rfl
      have hX' := Lib.hid hX
      clear hE' hX
      go_upto_region 3 with (first | ((with_reducible refine (cna _).mono ?_); rintro e w4 ⟨rfl, hb4⟩; (first | ((with_reducible obtain ⟨p, hw''⟩ := In.of2 p hb4); subst hw'') | (obtain ⟨p, hw''⟩ := In.of hb4; subst hw''))) | ((with_reducible refine (cnb _).mono ?_); rintro e w5 ⟨rfl, hb5⟩; (first | ((with_reducible obtain ⟨p, hw''⟩ := In.of2 p hb5); subst hw'') | (obtain ⟨p, hw''⟩ := In.of hb5; subst hw''))))
      have bp := p.back b3
      have q1 := fun j => (p.h.cell (p := ⟨w.heap.size, j, none⟩) l1).trans (q1 j)
      have q2 := fun j => (p.h.cell (p := ⟨w.heap.size + 1, j, none⟩) l2).trans (q2 j)
      have q3 := fun j => (p.h.cell (p := ⟨w.heap.size + 1 + 1, j, none⟩) l3).trans (q3 j)
      have f3 := fun j => (p.h.frozen (p := ⟨w.heap.size + 1 + 1, j, none⟩) l3).trans (f3 j)
      have l1 := Nat.lt_of_lt_of_le l1 p.h.size
      have l2 := Nat.lt_of_lt_of_le l2 p.h.size
      have l3 := Nat.lt_of_lt_of_le l3 p.h.size
      clear cna cnb hna hnb b3
      generalize p.w = w6 at *
      clear p
      generalize a.k = ka at *
      generalize b.k = kb at *
      by_cases h3 : ka = 3
      · subst h3
        have hX : X = (floV1 (opC .add (floV a) (floV b)), 0) := by rw [hX'.out]; rfl
        have hX2 := Lib.hid hX
        clear hX' hX
        generalize floV a = fa at *
        generalize floV b = fb' at *
        go_upto_region 4 with fail
        (refine wp_region_rel_at (6) [29] [] (by kernel_rfl) (by kernel_rfl) (by kernel_rfl) ?_; (simp only [List.take_succ_cons, List.take_zero, List.drop_succ_cons, List.drop_zero]))
        ((with_reducible refine wpRel_none (by kernel_rfl) (by kernel_rfl) ?_); intro K hK; go_simp; first | (with_reducible refine hK _ ?_; clear hK K) | (apply Exists.intro; (with_reducible refine ⟨fun _ => ⟨?_, _, rfl⟩, hK _ ?_⟩); (· exact rfl); clear hK K) | (apply Exists.intro; (with_reducible refine ⟨fun _ => ?_, hK _ ?_⟩); (· (with_reducible (fail))); clear hK K))
        ((with_reducible refine wpRel_none (by kernel_rfl) (by kernel_rfl) ?_); intro K hK; go_simp; first | (with_reducible refine hK _ ?_; clear hK K) | (apply Exists.intro; (with_reducible refine ⟨fun _ => ⟨?_, _, rfl⟩, hK _ ?_⟩); (· exact rfl); clear hK K) | (apply Exists.intro; (with_reducible refine ⟨fun _ => ?_, hK _ ?_⟩); (· (with_reducible (exact cfa _))); clear hK K))
        ((with_reducible refine wpRel_none (by kernel_rfl) (by kernel_rfl) ?_); intro K hK; go_simp; first | (with_reducible refine hK _ ?_; clear hK K) | (apply Exists.intro; (with_reducible refine ⟨fun _ => ⟨?_, _, rfl⟩, hK _ ?_⟩); (· exact rfl); clear hK K) | (apply Exists.intro; (with_reducible refine ⟨fun _ => ?_, hK _ ?_⟩); (· (with_reducible (fail))); clear hK K))
        ((with_reducible refine wpRel_none (by kernel_rfl) (by kernel_rfl) ?_); intro K hK; go_simp; first | (with_reducible refine hK _ ?_; clear hK K) | (apply Exists.intro; (with_reducible refine ⟨fun _ => ⟨?_, _, rfl⟩, hK _ ?_⟩); (· exact rfl); clear hK K) | (apply Exists.intro; (with_reducible refine ⟨fun _ => ?_, hK _ ?_⟩); (· (with_reducible (exact cfb _))); clear hK K))
        (with_reducible refine wpRel_fact [] (29) ((FloF (opC .add fa fb'))) (by kernel_rfl) rfl rfl ((FloF.steady _)) (by first | exact rfl | go_simp) (fun p => ?_) ?_)
        · (try simp only [pickR, pickR_nil, fillR, List.contains_cons, List.contains_nil, Nat.reduceBEq, Bool.or_false, Bool.or_true, Bool.true_or, Bool.false_or, if_true, if_false, Bool.false_eq_true])
          cases hb : floatBits .add .f64 fa fb' with
          | none =>
            have Ha : Hid (opC .add fa fb' = 9221120237041090561) := by unfold opC; rw [hb]; rfl
            have hrun := fun (w : World) (t : TypeId) => run_float_nan (P := Try.prog) w .add (.inl rfl) t fa fb' hb
            clear hb
            go_wp2_with fail
            exact ⟨fun h => absurd h (by decide), rfl, rfl, below_drew _, ⟨_, rfl, by rw [Ha.out]; exact canon_nan (nanAns_isNaN _ _ _).1, (nanAns_isNaN _ _ _).2⟩⟩
          | some r =>
            have Ha : Hid (opC .add fa fb' = canon r) := by unfold opC; rw [hb]; rfl
            have hu := u64_some hb
            have hrun := fun (w : World) (t : TypeId) => run_float_arith (P := Try.prog) w .add t .f64 fa fb' r hb
            clear hb
            go_wp2_with fail
            exact ⟨fun h => absurd h (by decide), rfl, rfl, Below.refl _ _, ⟨_, rfl, Ha.out.symm, hu⟩⟩
        ((with_reducible refine wpRel_val [29] (by kernel_rfl) (by kernel_rfl) ?_); intro K hK; (simp only [pickR, fillR, List.contains_cons, List.contains_nil, Nat.reduceBEq, Bool.or_false, Bool.or_true, Bool.true_or, Bool.false_or, if_true, if_false, Bool.false_eq_true]); go_simp; first | (with_reducible refine hK _ ?_; clear hK K) | (apply Exists.intro; (with_reducible refine ⟨?_, hK _ ?_⟩); (· ((rintro p u ⟨r, rfl, hr, _⟩; have hv := vfloat_c r p.w; rw [hr] at hv; go_simp; exact hv))); clear hK K))
        ((with_reducible refine wpRel_nil ?_); intro p; (simp only [fillR]))
        intro u29 _ _
        have bp2 := p.back bp
        have q3 := fun j => (p.h.cell (p := ⟨w.heap.size + 1 + 1, j, none⟩) l3).trans (q3 j)
        have f3 := fun j => (p.h.frozen (p := ⟨w.heap.size + 1 + 1, j, none⟩) l3).trans (f3 j)
        have l3 := Nat.lt_of_lt_of_le l3 p.h.size
        clear cfa cfb bp
        generalize p.w = w7 at *
        clear p q1 q2 l1 l2
        go_simp
        go_wp2_with fail
        refine bodyPost_ret (v := .tuple #[valV 3 false 0 (opC .add fa fb') [] none 0 0, .int .i64 0]) (by simp only [results, Try.results20]; go_simp) rfl ⟨by rw [hX2.out]; rfl, ?_⟩
        repeat (with_reducible refine back_set ?_ _ y5 _)
        exact bp2
      have h3' : (ka == 3) = false := by simpa using h3
      by_cases h4 : kb = 3
      · subst h4
        have hX : X = (floV1 (opC .add (floV a) (floV b)), 0) := by rw [hX'.out, h3']; rfl
        have hX2 := Lib.hid hX
        clear hX' hX
        generalize floV a = fa at *
        generalize floV b = fb' at *
        go_upto_region 4 with fail
        (refine wp_region_rel_at (6) [29] [] (by kernel_rfl) (by kernel_rfl) (by kernel_rfl) ?_; (simp only [List.take_succ_cons, List.take_zero, List.drop_succ_cons, List.drop_zero]))
        ((with_reducible refine wpRel_none (by kernel_rfl) (by kernel_rfl) ?_); intro K hK; go_simp; first | (with_reducible refine hK _ ?_; clear hK K) | (apply Exists.intro; (with_reducible refine ⟨fun _ => ⟨?_, _, rfl⟩, hK _ ?_⟩); (· exact rfl); clear hK K) | (apply Exists.intro; (with_reducible refine ⟨fun _ => ?_, hK _ ?_⟩); (· (with_reducible (fail))); clear hK K))
        ((with_reducible refine wpRel_none (by kernel_rfl) (by kernel_rfl) ?_); intro K hK; go_simp; first | (with_reducible refine hK _ ?_; clear hK K) | (apply Exists.intro; (with_reducible refine ⟨fun _ => ⟨?_, _, rfl⟩, hK _ ?_⟩); (· exact rfl); clear hK K) | (apply Exists.intro; (with_reducible refine ⟨fun _ => ?_, hK _ ?_⟩); (· (with_reducible (exact cfa _))); clear hK K))
        ((with_reducible refine wpRel_none (by kernel_rfl) (by kernel_rfl) ?_); intro K hK; go_simp; first | (with_reducible refine hK _ ?_; clear hK K) | (apply Exists.intro; (with_reducible refine ⟨fun _ => ⟨?_, _, rfl⟩, hK _ ?_⟩); (· exact rfl); clear hK K) | (apply Exists.intro; (with_reducible refine ⟨fun _ => ?_, hK _ ?_⟩); (· (with_reducible (fail))); clear hK K))
        ((with_reducible refine wpRel_none (by kernel_rfl) (by kernel_rfl) ?_); intro K hK; go_simp; first | (with_reducible refine hK _ ?_; clear hK K) | (apply Exists.intro; (with_reducible refine ⟨fun _ => ⟨?_, _, rfl⟩, hK _ ?_⟩); (· exact rfl); clear hK K) | (apply Exists.intro; (with_reducible refine ⟨fun _ => ?_, hK _ ?_⟩); (· (with_reducible (exact cfb _))); clear hK K))
        (with_reducible refine wpRel_fact [] (29) ((FloF (opC .add fa fb'))) (by kernel_rfl) rfl rfl ((FloF.steady _)) (by first | exact rfl | go_simp) (fun p => ?_) ?_)
        · (try simp only [pickR, pickR_nil, fillR, List.contains_cons, List.contains_nil, Nat.reduceBEq, Bool.or_false, Bool.or_true, Bool.true_or, Bool.false_or, if_true, if_false, Bool.false_eq_true])
          cases hb : floatBits .add .f64 fa fb' with
          | none =>
            have Ha : Hid (opC .add fa fb' = 9221120237041090561) := by unfold opC; rw [hb]; rfl
            have hrun := fun (w : World) (t : TypeId) => run_float_nan (P := Try.prog) w .add (.inl rfl) t fa fb' hb
            clear hb
            go_wp2_with fail
            exact ⟨fun h => absurd h (by decide), rfl, rfl, below_drew _, ⟨_, rfl, by rw [Ha.out]; exact canon_nan (nanAns_isNaN _ _ _).1, (nanAns_isNaN _ _ _).2⟩⟩
          | some r =>
            have Ha : Hid (opC .add fa fb' = canon r) := by unfold opC; rw [hb]; rfl
            have hu := u64_some hb
            have hrun := fun (w : World) (t : TypeId) => run_float_arith (P := Try.prog) w .add t .f64 fa fb' r hb
            clear hb
            go_wp2_with fail
            exact ⟨fun h => absurd h (by decide), rfl, rfl, Below.refl _ _, ⟨_, rfl, Ha.out.symm, hu⟩⟩
        ((with_reducible refine wpRel_val [29] (by kernel_rfl) (by kernel_rfl) ?_); intro K hK; (simp only [pickR, fillR, List.contains_cons, List.contains_nil, Nat.reduceBEq, Bool.or_false, Bool.or_true, Bool.true_or, Bool.false_or, if_true, if_false, Bool.false_eq_true]); go_simp; first | (with_reducible refine hK _ ?_; clear hK K) | (apply Exists.intro; (with_reducible refine ⟨?_, hK _ ?_⟩); (· ((rintro p u ⟨r, rfl, hr, _⟩; have hv := vfloat_c r p.w; rw [hr] at hv; go_simp; exact hv))); clear hK K))
        ((with_reducible refine wpRel_nil ?_); intro p; (simp only [fillR]))
        intro u29 _ _
        have bp2 := p.back bp
        have q3 := fun j => (p.h.cell (p := ⟨w.heap.size + 1 + 1, j, none⟩) l3).trans (q3 j)
        have f3 := fun j => (p.h.frozen (p := ⟨w.heap.size + 1 + 1, j, none⟩) l3).trans (f3 j)
        have l3 := Nat.lt_of_lt_of_le l3 p.h.size
        clear cfa cfb bp
        generalize p.w = w7 at *
        clear p q1 q2 l1 l2
        go_simp
        go_wp2_with fail
        refine bodyPost_ret (v := .tuple #[valV 3 false 0 (opC .add fa fb') [] none 0 0, .int .i64 0]) (by simp only [results, Try.results20]; go_simp) rfl ⟨by rw [hX2.out]; rfl, ?_⟩
        repeat (with_reducible refine back_set ?_ _ y5 _)
        exact bp2
      · have h4' : (kb == 3) = false := by simpa using h4
        have hX : X = if fits (a.n + b.n) then (intV (a.n + b.n), 0) else (noV, 191) := by rw [hX'.out, h3', h4']; rfl
        have hX2 := Lib.hid hX
        clear hX' hX cfa cfb
        have cx := fun wx => add_c a.n b.n wx ha hb
        clear h3 h4
        cases hf : fits (a.n + b.n)
        · have hX3 : X = (noV, 191) := by rw [hX2.out, hf]; rfl
          have hX3 := Lib.hid hX3
          rw [hf] at cx
          clear hX2
          go_wp2_with ((with_reducible refine (cx _).mono ?_); rintro e w8 ⟨rfl, rfl⟩)
          refine bodyPost_ret (v := .tuple #[valV 0 false 0 0 [] none 0 0, .int .i64 191]) (by simp only [results, Try.results20]; go_simp) rfl ⟨by rw [hX3.out]; rfl, ?_⟩
          repeat (with_reducible refine back_set ?_ _ y5 _)
          exact bp
        · have hX3 : X = (intV (a.n + b.n), 0) := by rw [hX2.out, hf]; rfl
          have hX3 := Lib.hid hX3
          have hcl : clip (a.n + b.n) = a.n + b.n := by unfold clip; rw [hf]; rfl
          rw [hf, hcl] at cx
          clear hX2 hf hcl
          generalize a.n + b.n = m at *
          go_wp2_with (first | ((with_reducible refine (cx _).mono ?_); rintro e w8 ⟨rfl, rfl⟩) | ((with_reducible refine (vint_c m _).mono ?_); rintro e w9 ⟨rfl, hb9⟩; (first | ((with_reducible obtain ⟨p, hw''⟩ := In.of2 p hb9); subst hw'') | (obtain ⟨p, hw''⟩ := In.of hb9; subst hw''))))
          have bp2 := p.back bp
          refine bodyPost_ret (v := .tuple #[valV 2 false m 0 [] none 0 0, .int .i64 0]) (by simp only [results, Try.results20]; go_simp) rfl ⟨by rw [hX3.out]; rfl, ?_⟩
          repeat (with_reducible refine back_set ?_ _ y5 _)
          exact bp2
end Go.Proofs.Ytipjelkdbbhcpaa
